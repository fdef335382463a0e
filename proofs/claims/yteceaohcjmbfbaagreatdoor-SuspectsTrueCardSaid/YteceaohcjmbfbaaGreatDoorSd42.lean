/-
  Base, Logic, Logic3, Door, Fl1, Circ1, Man1, Short, N1, P1, P2, U1: parts of the proof.
-/
import Derived.Test.YteceaohcjmbfbaaGreatDoorSd41
import Derived.Test.YteceaohcjmbfbaaGreatDoorProg
import Derived.KernelRfl
import Derived.Test.YteceaohcjmbfbaaGreatDoorTie
import Derived.LaidMore
import Derived.Stop.Joined
import Derived.ChangeAt
import Derived.SevenTiedAt
namespace Go.Proofs.YteceaohcjmbfbaaGreatDoor
open Go.Abs
set_option maxRecDepth 100000
abbrev NG:Nat:=2
def u8 (a:Int):Value:=.int .u8 a
theorem hM:Tryz.prog.follows .mixedOrders=true:=by kernel_rfl
theorem CP:Tryz.prog.funcs.toList.all (ji 2)=true:=by kernel_rfl
theorem hP (f:FuncId) (fn:Func) (_:([]:List FuncId).contains f=false) (h:Tryz.prog.funcs[f]?=some fn):ji 2 fn=true:=by
 have:=List.all_eq_true.1 CP fn (by
  have:=Array.mem_of_getElem? h
  simpa using this)
 exact this
def i2 (a b:Int):List Value:=[.int .i64 a,.int .i64 b]
def ql:List Value:=i2 0 0++i2 0 0++i2 0 0++i2 1 1++i2 1 1++i2 2 16++i2 2 16++i2 2 16++i2 2 16++i2 2 16++i2 2 16++i2 3 3++i2 2 2++i2 1 16++i2 1 1++i2 0 0
def vars:List AObj:=[.cells ql true,.dead]
def isTrue:Option (Value×Heap)->Bool
 |some (.bool true,_)=>true
 |_=>false
theorem qn {x:Option (Value×Heap)} (h:isTrue x=true):∃ h',x=some (.bool true,h'):=by
 unfold isTrue at h
 split at h
 ·exact⟨_,rfl⟩
 ·cases h
def bare:List AObj:=List.replicate NG .dead
noncomputable def vz (l:List AObj) (f:FuncId) (vs:Array Value):Option Value:=(mW Tryz.prog [] (ml Tryz.prog) 60 f vs (dI l)).map (·.1)
theorem vf {l:List AObj}{f:FuncId}{vs:Array Value}{v:Value} (e:vz l f vs=some v):∃ h',CallD Tryz.prog NG f vs (dI l) v h':=by
 unfold vz at e
 cases q:mW Tryz.prog [] (ml Tryz.prog) 60 f vs (dI l) with
 |none=>simp[q] at e
 |some r =>
  obtain⟨v',h'⟩:=r
  simp[q] at e
  subst e
  exact⟨h',(gJ hM hP (fun f vs h v e=>gV f vs h v e) 60 _ _ _ _ _ q).1⟩
theorem vR {h:Heap} (hs:NG<=h.size):Bears NG (dI bare) h:=by
 refine⟨rfl,hs,fun g o e=>.inl ?_⟩
 rw[dT] at e
 have:=List.mem_of_getElem? e
 simp only[bare,List.mem_replicate] at this
 exact this.2
theorem AF {f:FuncId}{vs:Array Value}{v:Value}{h:Heap} (e:vz bare f vs=some v) (h1:vs.all plain=true) (h2:eT v=true):CallD Tryz.prog NG f vs h v h:=by
 obtain⟨h',c⟩:=vf e
 exact CallD.sized fun hs=>c.lift h1 h2 (vR hs)
variable {h:Heap}
def vg (h:Heap):Prop:=h.get 0=some (.cells ql true)
theorem vg.ext {h h1:Heap} (v:vg h) (e:Ext h h1):vg h1:=e.get v
theorem zI {g:Nat}{o:AObj} (e:vars[g]?=some o):o=.dead\/(g=0/\o=.cells ql true):=by
 match g,e with
 |0,e=>simp only[vars,List.getElem?_cons_zero,Option.some.injEq] at e;exact .inr ⟨rfl,e.symm⟩
 |1,e=>simp only[vars,List.getElem?_cons_succ,List.getElem?_cons_zero,Option.some.injEq] at e;exact .inl e.symm
theorem jQ {h:Heap} (hs:NG<=h.size) (v:vg h):Bears NG (dI vars) h:=by
 refine⟨rfl,hs,fun g o e=>?_⟩
 rw[dT] at e
 rcases zI e with rfl|⟨rfl,rfl⟩
 ·exact .inl rfl
 ·exact .inr ⟨_,rfl,v,by kernel_rfl⟩
theorem AO {f:FuncId}{vs:Array Value}{v:Value}{h:Heap} (hv:vg h) (e:vz vars f vs=some v) (h1:vs.all plain=true) (h2:eT v=true):CallD Tryz.prog NG f vs h v h:=by
 obtain⟨h',c⟩:=vf e
 exact CallD.sized fun hs=>c.lift h1 h2 (jQ hs hv)
theorem kinds {k:Int} (h:0<=k):k=0\/k=1\/k=2\/k=3\/k=4\/k=5\/k=6\/k=7\/k=8\/k=9\/k=10\/k=11\/k=12\/k=13\/k=14\/k=15\/∃ n:Nat,k=Int.ofNat (n+16):=by
 by_cases c:k<16
 ·omega
 ·iterate 16 refine .inr ?_
  exact⟨(k-16).toNat,by simp only[Int.ofNat_eq_natCast];omega⟩
def loL (k:Int):Int:=if k<16 then ([0,0,0,1,1,2,2,2,2,2,2,3,2,1,1,0]:List Int).getD k.toNat 0 else 0
def hiL (k:Int):Int:=if k<16 then ([0,0,0,1,1,16,16,16,16,16,16,3,2,16,1,0]:List Int).getD k.toNat 0 else -1
theorem xa (n:Nat):loL (Int.ofNat (n+16))=0:=by unfold loL;rw[if_neg (by simp only[Int.ofNat_eq_natCast];omega)]
theorem Av (n:Nat):hiL (Int.ofNat (n+16)) = -1:=by unfold hiL;rw[if_neg (by simp only[Int.ofNat_eq_natCast];omega)]
theorem zm {k:Int} (hk:0<=k) (hk2:k<256) {h:Heap} (hv:vg h):CallD Tryz.prog NG 63 #[u8 k] h (.tuple #[.int .i64 (loL k),.int .i64 (hiL k)]) h:=by
 rcases kinds hk with rfl|rfl|rfl|rfl|rfl|rfl|rfl|rfl|rfl|rfl|rfl|rfl|rfl|rfl|rfl|rfl|⟨n,rfl⟩
 iterate 16 exact AO hv (by kernel_rfl) (by kernel_rfl) (by kernel_rfl)
 rw[xa,Av]
 refine fnP hM Tryz.func63 rfl (hP _ _ rfl Tryz.func63) (lbE rfl) (by kernel_rfl) ?_;(conv=>whnf);repeat(first|apply Cs|apply Rs|apply Rx);conv=>whnf
 refine⟨_,gC rfl rfl rfl (IntWalk.i64_in _ (by omega)),?_⟩
 ((conv=>whnf);repeat(first|apply Cs|apply Rs|apply Rx);conv=>whnf)
 refine⟨true,rfl,fun _=>?_,fun hc=>by cases hc⟩
 ((conv=>whnf);repeat(first|apply Cs|apply Rs|apply Rx);conv=>whnf)
 exact⟨rfl,Ext.refl _⟩
variable {h:Heap} {a:Option Addr} {n cap:Nat} {l:List Int}
theorem di {a b:Int} (h:ltI a b=true):a<b:=by rw[dA] at h;simpa using h
theorem dh {a b:Int} (h:ltI a b=false):b<=a:=by rw[dA] at h;simpa using h
end Go.Proofs.YteceaohcjmbfbaaGreatDoor

namespace Go.Proofs.YteceaohcjmbfbaaGreatDoor
open Go.Abs Go.ChangeShapes Go.RowKit Go.ChangeAt
set_option maxRecDepth 100000
theorem own:ownKnob Tryz.prog.godebug=none:=by kernel_rfl
theorem laidOut:laidOutB Tryz.prog=true:=by kernel_rfl
def laid : List (String × DataW Unit) := [("probecard/logic.fanins", Rows.laid_probecard_logic_fanins)]
theorem wZ : Tryz.prog.globalNamed "probecard/logic.fanins" = some 0 := by kernel_rfl
theorem yX (os:Os) (args:Array Value):laidMetH Tryz.prog laid ((World.doorLaid Tryz.prog 400 os).forCall (fun _ _=>0) ⟨#[],args,[]⟩).memory :=
 laidMetH_of_parts3 (fuel:=8) (laidMet_of_run' 8 (by kernel_rfl) (by kernel_rfl)) (by kernel_rfl) (by kernel_rfl)
theorem yr:ym Tryz.prog 5 (((Tryz.prog.globals[0]?).map (·.type)).getD 0)=true:=by kernel_rfl
theorem wH:flat (H:=Unit) Rows.laid_probecard_logic_fanins=some ql:=by kernel_rfl
theorem AU {W:World} (h:laidMetH Tryz.prog laid W) (i:Nat):W.cell? ⟨0,i,none⟩=ql[i]?:=by
 rw[MakeChecks.laidMetH_plain _ _ _ (by kernel_rfl)] at h
 obtain⟨ps,⟨g0,t0,cs0,f0,p0,q0,hg0,ht0,hv0,hd0,_⟩,_,_⟩:=h
 have ht:t0=(((Tryz.prog.globals[0]?).map (·.type)).getD 0):=by
  obtain rfl:=Option.some.inj (wZ.symm.trans hg0)
  rw[ht0];rfl
 subst ht
 obtain rfl:=Option.some.inj (wZ.symm.trans hg0)
 exact wh hg0 hv0 hd0 yr wH i
theorem block {W:World} (h:W.ShapedOpen Tryz.prog) (g:Nat) (hg:g<Tryz.prog.globals.size) (hb:(((begin Tryz.prog (fun _ _=>0) default).world.heap[g]?).bind Obj.row?).isSome=true):∃ C ty fr,W.heap[g]?=some (.cells C ty fr):=by
 obtain⟨⟨zero,t⟩,e⟩:=Option.isSome_iff_exists.1 hb
 obtain⟨cs,h1,_⟩:=h.1 g zero t hg e
 exact⟨cs,t,_,h1⟩
theorem start {W:World} (hsh:W.ShapedOpen Tryz.prog) (hl:laidMetH Tryz.prog laid W):∃ l0 l1:Abs.Loc,HRel 2 (iE [l0,l1] W) (dI vars) W:=by
 obtain⟨C0,ty0,fr0,h0⟩:=block hsh 0 (of_decide_eq_true (by kernel_rfl)) (by kernel_rfl)
 obtain⟨C1,ty1,fr1,h1⟩:=block hsh 1 (of_decide_eq_true (by kernel_rfl)) (by kernel_rfl)
 have lt:∀ (g:Nat) (C:Array Value) (ty:TypeId) (fr:Nat×Nat),W.heap[g]?=some (.cells C ty fr)->g<W.heap.size:=fun g C ty fr e=>(Array.getElem?_eq_some_iff.1 e).1
 refine⟨⟨0,0,C0.size⟩,⟨1,0,C1.size⟩,HRel.start vars [_,_] rfl ?_ ?_ ?_ ?_⟩
 ·intro g hg
  match g,hg with
  |0,_=>exact⟨_,rfl,rfl,rfl⟩
  |1,_=>exact⟨_,rfl,rfl,rfl⟩
 ·intro l hl
  simp only[List.mem_cons,List.not_mem_nil,or_false] at hl
  rcases hl with rfl|rfl
  ·exact lt _ _ _ _ h0
  ·exact lt _ _ _ _ h1
 ·intro g l o e1 e2
  match g,e1,e2 with
  |0,e1,e2 =>
   simp only[List.getElem?_cons_zero,Option.some.injEq] at e1
   simp only[vars,List.getElem?_cons_zero,Option.some.injEq] at e2
   subst e1 e2
   exact ORel.zv h0 (fun i _=>AU hl i) (by kernel_rfl)
  |1,e1,e2 =>
   simp only[vars,List.getElem?_cons_zero,List.getElem?_cons_succ,Option.some.injEq] at e2
   subst e2
   trivial
  |g+2,e1,e2=>simp at e1
 ·intro o ho
  simp only[vars,List.mem_cons,List.not_mem_nil,or_false] at ho
  rcases ho with rfl|rfl <;> rfl
theorem Bd {H:Type}{enc:TypeId×Value->H}{f:FuncId}{fn:Func}{c:Code}{d:Nat} (L:List (Sh×Bool)) (hfn:Tryz.prog.funcs[f]?=some fn) (hb:fn.body=some c) (hp:rN Tryz.prog d fn.params.toList L)
  (call:∀ x:yu L,wfL L x->FnV Tryz.prog NG vars f ⟨Al L x⟩ (.bool true))
  (W:World) (base:Nat) (args:Array Value) (hsh:W.ShapedOpen Tryz.prog) (_:args.size=fn.params.size)
  (hval:∀ (j:Nat) t v,fn.params[j]?=some t->args[j]?=some v->Value.okWide Tryz.prog W .any base t v) (hl:laidMetH Tryz.prog laid W)
  (hA:∃ (ds:List (DataW H)) (p:List MemPlace),DataW.TrodAll enc Tryz.prog W 0 (fun _=>true) true fn.params.toList args.toList ds p) :
  Calls Tryz.prog f args W fun e W'=>e=.returned (.bool true)/\Below W.heap.size W W':=by
 obtain⟨ds,p,hA⟩:=hA
 obtain⟨l0,l1,H⟩:=start hsh hl
 obtain⟨x,hw,r⟩:=sP (ι:=iE [l0,l1] W) (fun b C ty fr e=>by simp only[iE,e]) fn.params.toList L hp args.toList ds p hA (fun j t v e1 e2=>hval j t v (by simpa using e1) (by simpa using e2))
 refine vv hfn hb ((call x hw).call _ fun i o e=>by rw[dT];exact e) rfl H ?_ ?_
 ·intro o ho
  simp only[vars,List.mem_cons,List.not_mem_nil,or_false] at ho
  rcases ho with rfl|rfl <;> rfl
 ·have:=aM.array r
  simpa using this
theorem zb {n:Int} (h:(Lit.int .u8 n).wf=true):0<=n/\n<256:=by
 simp[Lit.wf,IntKind.min,IntKind.max,IntKind.signed,IntKind.bits] at h
 omega
theorem pS (n:Nat) (h:n<256):IntKind.i64.wrap (Int.ofNat n)=Int.ofNat n:=IntWalk.i64_in _ (by simp only[Int.ofNat_eq_natCast];omega)
theorem ot:∀ o∈vars,o.fz=o:=by
 intro o m
 simp only[vars,List.mem_cons,List.not_mem_nil,or_false] at m
 rcases m with rfl|rfl <;> rfl
theorem mY {h:Heap} (b:HasB vars h):vg h:=b 0 _ rfl
theorem tw {h:Heap} (b:HasB vars h):NG<=h.size:=Heap.ak (b 1 _ rfl)
theorem Cx {f:FuncId}{vs:Array Value}{r:Value} (hr:rJ r=true) (c:∀ h,vg h->CallD Tryz.prog NG f vs h r h):FnV Tryz.prog NG vars f vs r:=⟨PureV.rJ hr,fun h b=>c h (mY b)⟩
structure Node where
 kind:Nat
 ins:List Nat
 mem:Nat
 bit:Nat
structure Memo where
 addr:List Nat
 data:List Nat
 write:Nat
structure Circ where
 nodes:List Node
 names:List ByteArray
 mems:List Memo
 outs:List Nat
def al (x:Node):Value:=.agg ⟨[u8 (Int.ofNat x.kind),FL 1 (x.ins.map i64),i64 x.mem,i64 x.bit]⟩
def az (m:Memo):Value:=.agg ⟨[FL 1 (m.addr.map i64),FL 1 (m.data.map i64),i64 m.write]⟩
def aA (c:Circ):Value:=.agg ⟨[FL 4 (c.nodes.map al),FL 1 (c.names.map .string),FL 3 (c.mems.map az),FL 1 (c.outs.map i64)]⟩
theorem jw (l:List Nat):PureV (FL 1 (l.map i64)):=PureV.list fun _=>aj.cons (PureV.flat rfl) aj.nil
theorem xI (x:Node):PureV (al x):=PureV.agg (aj.cons (PureV.flat rfl) (aj.cons (jw _) (aj.cons (PureV.flat rfl) (aj.cons (PureV.flat rfl) aj.nil))))
theorem wK (x:Node):aj (cl (al x)):=aj.cons (PureV.flat rfl) (aj.cons (jw _) (aj.cons (PureV.flat rfl) (aj.cons (PureV.flat rfl) aj.nil)))
theorem xX (m:Memo):aj (cl (az m)):=aj.cons (jw _) (aj.cons (jw _) (aj.cons (PureV.flat rfl) aj.nil))
theorem wD (c:Circ):aj (cl (aA c)) :=
 aj.cons (PureV.list wK) (aj.cons (PureV.list fun _=>aj.cons (PureV.flat rfl) aj.nil) (aj.cons (PureV.list xX) (aj.cons (jw _) aj.nil)))
theorem nN (c:Circ):PureV (aA c):=PureV.agg (wD c)
structure GData where
 kind:Nat
 a:Nat
 b:Nat
 d:Nat
structure CData where
 inp:Nat
 dffs:Nat
 data0:Nat
 data1:Nat
 bus:Bool
 mem:Bool
 port0:Nat
 port1:Nat
 port2:Nat
 port3:Nat
 gates:List GData
 outs:List Nat
def se (g:GData):Value:=.agg ⟨[u8 (Int.ofNat g.kind),u8 (Int.ofNat g.a),u8 (Int.ofNat g.b),u8 (Int.ofNat g.d)]⟩
def bB (x:CData):Value:=.agg ⟨[n8 x.inp,n8 x.dffs,n8 x.data0,n8 x.data1,.bool x.bus,.bool x.mem,n8 x.port0,n8 x.port1,n8 x.port2,n8 x.port3,FL 4 (x.gates.map se),FL 1 (x.outs.map n8)]⟩
structure GOk (g:GData):Prop where
 kind:g.kind<256
 a:g.a<256
 b:g.b<256
 d:g.d<256
structure COk (x:CData):Prop where
 inp:x.inp<256
 dffs:x.dffs<256
 data0:x.data0<256
 data1:x.data1<256
 port0:x.port0<256
 port1:x.port1<256
 port2:x.port2<256
 port3:x.port3<256
 gates:∀ g∈x.gates,GOk g
 outs:∀ o∈x.outs,o<256
 gatesLen:x.gates.length<2 ^ 62
 outsLen:x.outs.length<2 ^ 62
def loN (k:Nat):Nat:=(loL (Int.ofNat k)).toNat
def hiZ (k:Nat):Int:=hiL (Int.ofNat k)
theorem BE (k:Nat):Int.ofNat (loN k)=loL (Int.ofNat k):=by
 unfold loN
 have:0<=loL (Int.ofNat k):=by
  rcases kinds (k:=Int.ofNat k) (Int.natCast_nonneg k) with h|h|h|h|h|h|h|h|h|h|h|h|h|h|h|h|⟨n,h⟩ <;> rw[h]
  iterate 16 decide
  rw[xa];decide
 exact Int.toNat_of_nonneg this
def fS (k:Nat) (K:Nat×Int->Prop):Prop:=k<256/\K (loN k,hiZ k)
theorem jI {k:Nat}{K:Nat×Int->Prop} (hm:fS k K) {h0:Heap} (hB:HasB vars h0):∃ r,K r/\CallD Tryz.prog NG 63 ⟨[n8 k]⟩ h0 ((fun r=>Value.tuple ⟨[i64 r.1,z64 r.2]⟩) r) h0:=by
 refine⟨_,hm.2,?_⟩
 have:=zm (k:=Int.ofNat k) (Int.natCast_nonneg k) (by have:=hm.1;simp only[Int.ofNat_eq_natCast];omega) (mY hB)
 rw[<- BE] at this
 exact this
structure Ln where
 node:Nat
 pin:Nat
def bV (x:Ln):Value:=.agg ⟨[i64 x.node,i64 x.pin]⟩
theorem uq (x:Ln):aj (cl (bV x)):=aj.cons (PureV.flat rfl) (aj.cons (PureV.flat rfl) aj.nil)
def NamesOk (c:Circ):Prop:=FnV Tryz.prog NG vars 126 ⟨[aA c]⟩ (i64 0)
def fN (c:Circ) (K:Nat->Prop):Prop:=NamesOk c/\K 0
theorem lL {c:Circ}{K:Nat->Prop} (hm:fN c K) {h0:Heap} (hB:HasB vars h0):∃ r,K r/\CallD Tryz.prog NG 126 ⟨[aA c]⟩ h0 (i64 r) h0:=FnV.walk hm.1 hm.2 hB
def bC (n i:Nat) (ins:List Nat):List Ln:=(ins.zipIdx.filter fun p=>p.1==n).map fun p=>⟨i,p.2⟩
def mX (c:Circ):List (List Ln):=(List.range c.nodes.length).map fun n=>c.nodes.zipIdx.flatMap fun p=>bC n p.2 p.1.ins
def FanOk (c:Circ):Prop:=FnV Tryz.prog NG vars 98 ⟨[aA c]⟩ (ah 1 (ah 2 bV) (mX c))
def fb (c:Circ) (K:List (List Ln)->Prop):Prop:=FanOk c/\K (mX c)
theorem kR {c:Circ}{K:List (List Ln)->Prop} (hm:fb c K) {h0:Heap} (hB:HasB vars h0):∃ r,K r/\CallD Tryz.prog NG 98 ⟨[aA c]⟩ h0 ((ah 1 (ah 2 bV)) r) h0:=FnV.walk hm.1 hm.2 hB
def AB (s:ByteArray):Prop:=FnV Tryz.prog NG vars 140 ⟨[.string s]⟩ (.bool true)
def iA (s:ByteArray) (K:Bool->Prop):Prop:=AB s/\K true
theorem kx {s:ByteArray}{K:Bool->Prop} (hm:iA s K) {h0:Heap} (hB:HasB vars h0):∃ r,K r/\CallD Tryz.prog NG 140 ⟨[Value.string s]⟩ h0 (Value.bool r) h0:=FnV.walk (enc:=Value.bool) hm.1 hm.2 hB
theorem fw {f:FuncId}{fn:Func}{c:Code} (hf:Tryz.prog.funcs[f]?=some fn) {vs:Array Value}{h:Heap} (hB:HasB vars h) {R:Type}{enc:R->Value} (hp:∀ r,PureV (enc r)) {K:R->Prop}
  (hk:Own vars h [] h->CodeS Tryz.prog NG c (cT fn.ntmps vs) h fun x e1 h1=>match x with
   |.exit _=>False
   |_=>kq Tryz.prog e1 h1 fn.results.toList fun vs=>∃ r,K r/\Ext h h1/\∀ h2,Frozen h.size h1 h2->VLe h2 (rX vs) (enc r))
  (hb:fn.body=some c:=by exact rfl) (hs:Nat.ble vs.size fn.ntmps=true:=by exact rfl):∃ r,K r/\CallD Tryz.prog NG f vs h (enc r) h :=
 fnW hM hf hb (hP _ _ rfl hf) (Nat.le_of_ble_eq_true hs) hB hp hk
theorem fg {f:FuncId}{fn:Func}{c:Code} (hf:Tryz.prog.funcs[f]?=some fn) {vs:Array Value}{h:Heap}{Q:Value->Heap->Prop}
  (hk:CodeS Tryz.prog NG c (cT fn.ntmps vs) h fun x e1 h1=>match x with
   |.exit _=>False
   |_=>kq Tryz.prog e1 h1 fn.results.toList fun vs=>Q (rX vs) h1)
  (hb:fn.body=some c:=by exact rfl) (hs:Nat.ble vs.size fn.ntmps=true:=by exact rfl):∃ v h',CallD Tryz.prog NG f vs h v h'/\Q v h' :=
 fnG hM hf hb (hP _ _ rfl hf) (Nat.le_of_ble_eq_true hs) hk
set_option maxHeartbeats 8000000
def ia (p0:(List Nat)) (p1:Nat) (K:Int->Prop):Prop :=
 an (α:=Unit) (fun k1=>av (S:=Nat) (fun v2 nx3=>((ltN v2 p0.length)=true->∃ x4,p0[v2]?=some x4/\((eqN p1 x4)=true->K (Int.ofNat v2))/\((eqN p1 x4)=false->v2+1<2 ^ 63/\nx3 (v2+1)))/\((ltN v2 p0.length)=false->k1 ())) 0) (fun _=>K (Int.negSucc 0))
theorem qH {p0:(List Nat)}{p1:Nat}{K:Int->Prop} (hm:ia p0 p1 K) {h0:Heap} (hB:HasB vars h0):∃ r,K r/\CallD Tryz.prog NG 145 ⟨[(ah 1 n8) p0,n8 p1]⟩ h0 (z64 r) h0:=by
 unfold ia at hm
 refine fw Tryz.func145 hB (enc:=z64) (fun r=>PureV.flat rfl) fun O=>?_;conv=>whnf
 apply Cs;conv=>whnf
 apply Cs;refine gH ?_
 refine jn hm 19 [] (fun s=>s) (fun _ h=>Own vars h0 [] h) (fun _=>[]) (fun hm=>?_) ?_
 ·refine gX ?_
  refine lw 19 [0,1,7] (σ:=Nat) (fun s=>s) (fun v2 h=>Own vars h0 [] h) (fun v2=>[(8,(i64 v2))]) 0 hm O ?_
  clear hm;rintro v2 nx3 base h hm O
  refine gX ?_
  refine br hm (fun hm=>?_) fun hm=>?_
  ·refine gX ?_
   refine atF hm fun x4 hx4 hm=>?_;refine gX ?_
   refine br hm (fun hm=>?_) fun hm=>?_
   ·refine gX ?_
    exact fe hm O
   ·refine gX ?_
    refine aF hm fun hm=>?_;refine gH ?_
    exact jx (v2+1) hm O
  ·refine gX ?_
   exact jx () hm O
 ·clear hm;rintro _ base h hm O
  refine gX ?_
  exact fe hm O
def cA (p0:(List Nat)) (p1:Nat) (K:Bool->Prop):Prop :=
 ia p0 p1 (fun r1=>K (!ltI r1 (Int.ofNat 0)))
theorem iU {p0:(List Nat)}{p1:Nat}{K:Bool->Prop} (hm:cA p0 p1 K) {h0:Heap} (hB:HasB vars h0):∃ r,K r/\CallD Tryz.prog NG 132 ⟨[(ah 1 n8) p0,n8 p1]⟩ h0 (Value.bool r) h0:=by
 unfold cA at hm
 refine fw Tryz.func132 hB (enc:=Value.bool) (fun r=>PureV.flat rfl) fun O=>?_;conv=>whnf
 refine gX ?_
 refine ca (qH hm O.has) fun r1 hm=>?_;refine gX ?_
 exact fe hm O
def cX (p0:Nat) (K:Nat->Prop):Prop :=
 ((ltN 3 p0)=true->K 2)/\((ltN 3 p0)=false->K p0)
theorem jk {p0:Nat}{K:Nat->Prop} (hm:cX p0 K) {h0:Heap} (hB:HasB vars h0):∃ r,K r/\CallD Tryz.prog NG 105 ⟨[n8 p0]⟩ h0 (n8 r) h0:=by
 unfold cX at hm
 refine fw Tryz.func105 hB (enc:=n8) (fun r=>PureV.flat rfl) fun O=>?_;conv=>whnf
 refine gX ?_
 refine br hm (fun hm=>?_) fun hm=>?_
 ·refine gX ?_
  exact fe hm O
 ·refine gX ?_
  exact fe hm O
def fA (p0:(List Nat)) (K:Int->Prop):Prop :=
 an (α:=Unit) (fun k1=>av (S:=Nat) (fun v2 nx3=>((ltN v2 p0.length)=true->∃ x4,p0[v2]?=some x4/\cX x4 (fun r5=>((eqN r5 2)=true->K (Int.ofNat v2))/\((eqN r5 2)=false->v2+1<2 ^ 63/\nx3 (v2+1))))/\((ltN v2 p0.length)=false->k1 ())) 0) (fun _=>K (Int.negSucc 0))
theorem ou {p0:(List Nat)}{K:Int->Prop} (hm:fA p0 K) {h0:Heap} (hB:HasB vars h0):∃ r,K r/\CallD Tryz.prog NG 101 ⟨[(ah 1 n8) p0,(.func (.func 104) ⟨[]⟩ ⟨[]⟩)]⟩ h0 (z64 r) h0:=by
 unfold fA at hm
 refine fw Tryz.func101 hB (enc:=z64) (fun r=>PureV.flat rfl) fun O=>?_;conv=>whnf
 apply Cs;conv=>whnf
 apply Cs;refine gH ?_
 refine jn hm 19 [] (fun s=>s) (fun _ h=>Own vars h0 [] h) (fun _=>[]) (fun hm=>?_) ?_
 ·refine gX ?_
  refine lw 19 [0,1,7] (σ:=Nat) (fun s=>s) (fun v2 h=>Own vars h0 [] h) (fun v2=>[(8,(i64 v2))]) 0 hm O ?_
  clear hm;rintro v2 nx3 base h hm O
  refine gX ?_
  refine br hm (fun hm=>?_) fun hm=>?_
  ·refine gX ?_
   refine atF hm fun x4 hx4 hm=>?_;refine gH ?_
   refine fg Tryz.func104 ?_;refine gX ?_
   refine ca (jk hm O.has) fun r5 hm=>?_;refine gX ?_
   refine br hm (fun hm=>?_) fun hm=>?_
   ·refine gX ?_
    exact fe hm O
   ·refine gX ?_
    refine aF hm fun hm=>?_;refine gH ?_
    exact jx (v2+1) hm O
  ·refine gX ?_
   exact jx () hm O
 ·clear hm;rintro _ base h hm O
  refine gX ?_
  exact fe hm O
def eS (p0:(List Nat)) (K:Bool->Prop):Prop :=
 fA p0 (fun r1=>K (!ltI r1 (Int.ofNat 0)))
theorem pA {p0:(List Nat)}{K:Bool->Prop} (hm:eS p0 K) {h0:Heap} (hB:HasB vars h0):∃ r,K r/\CallD Tryz.prog NG 61 ⟨[(ah 1 n8) p0,(.func (.func 104) ⟨[]⟩ ⟨[]⟩)]⟩ h0 (Value.bool r) h0:=by
 unfold eS at hm
 refine fw Tryz.func61 hB (enc:=Value.bool) (fun r=>PureV.flat rfl) fun O=>?_;conv=>whnf
 refine gX ?_
 refine ca (ou hm O.has) fun r1 hm=>?_;refine gX ?_
 exact fe hm O
def fV (p0:(List Nat)) (K:Int->Prop):Prop :=
 an (α:=Unit) (fun k1=>av (S:=Nat) (fun v2 nx3=>((ltN v2 p0.length)=true->∃ x4,p0[v2]?=some x4/\((neN x4 3)=true->K (Int.ofNat v2))/\((neN x4 3)=false->v2+1<2 ^ 63/\nx3 (v2+1)))/\((ltN v2 p0.length)=false->k1 ())) 0) (fun _=>K (Int.negSucc 0))
theorem re {p0:(List Nat)}{K:Int->Prop} (hm:fV p0 K) {h0:Heap} (hB:HasB vars h0):∃ r,K r/\CallD Tryz.prog NG 101 ⟨[(ah 1 n8) p0,(.func (.func 106) ⟨[]⟩ ⟨[]⟩)]⟩ h0 (z64 r) h0:=by
 unfold fV at hm
 refine fw Tryz.func101 hB (enc:=z64) (fun r=>PureV.flat rfl) fun O=>?_;conv=>whnf
 apply Cs;conv=>whnf
 apply Cs;refine gH ?_
 refine jn hm 19 [] (fun s=>s) (fun _ h=>Own vars h0 [] h) (fun _=>[]) (fun hm=>?_) ?_
 ·refine gX ?_
  refine lw 19 [0,1,7] (σ:=Nat) (fun s=>s) (fun v2 h=>Own vars h0 [] h) (fun v2=>[(8,(i64 v2))]) 0 hm O ?_
  clear hm;rintro v2 nx3 base h hm O
  refine gX ?_
  refine br hm (fun hm=>?_) fun hm=>?_
  ·refine gX ?_
   refine atF hm fun x4 hx4 hm=>?_;refine gH ?_
   refine fg Tryz.func106 ?_;refine gX ?_
   refine br hm (fun hm=>?_) fun hm=>?_
   ·refine gX ?_
    exact fe hm O
   ·refine gX ?_
    refine aF hm fun hm=>?_;refine gH ?_
    exact jx (v2+1) hm O
  ·refine gX ?_
   exact jx () hm O
 ·clear hm;rintro _ base h hm O
  refine gX ?_
  exact fe hm O
def cY (p0:Nat) (K:Bool->Prop):Prop :=
 K (!ltN 1 p0)
theorem jo {p0:Nat}{K:Bool->Prop} (hm:cY p0 K) {h0:Heap} (hB:HasB vars h0):∃ r,K r/\CallD Tryz.prog NG 102 ⟨[n8 p0]⟩ h0 (Value.bool r) h0:=by
 unfold cY at hm
 refine fw Tryz.func102 hB (enc:=Value.bool) (fun r=>PureV.flat rfl) fun O=>?_;conv=>whnf
 refine gX ?_
 exact fe hm O
def cM (p0:Nat) (K:Nat->Prop):Prop :=
 cY p0 (fun r1=>(r1=true->p0<=1/\1<256/\K (1-p0))/\(r1=false->K 2))
theorem fB {p0:Nat}{K:Nat->Prop} (hm:cM p0 K) {h0:Heap} (hB:HasB vars h0):∃ r,K r/\CallD Tryz.prog NG 65 ⟨[n8 p0]⟩ h0 (n8 r) h0:=by
 unfold cM at hm
 refine fw Tryz.func65 hB (enc:=n8) (fun r=>PureV.flat rfl) fun O=>?_;conv=>whnf
 refine gX ?_
 refine ca (jo hm O.has) fun r1 hm=>?_;refine gX ?_
 refine br hm (fun hm=>?_) fun hm=>?_
 ·refine gX ?_
  refine CK hm fun hm=>?_;refine gX ?_
  exact fe hm O
 ·refine gX ?_
  exact fe hm O
def bx (p0:Nat) (K:Nat->Prop):Prop :=
 K (min p0 2)
theorem cG {p0:Nat}{K:Nat->Prop} (hm:bx p0 K) {h0:Heap} (hB:HasB vars h0):∃ r,K r/\CallD Tryz.prog NG 64 ⟨[n8 p0]⟩ h0 (n8 r) h0:=by
 unfold bx at hm
 refine fw Tryz.func64 hB (enc:=n8) (fun r=>PureV.flat rfl) fun O=>?_;conv=>whnf
 refine gX ?_
 refine⟨_,Bc (a:=p0) (b:=2) rfl rfl,?_⟩;refine gX ?_
 exact fe hm O
def ck (p0:(List Nat)) (p1:Nat) (p2:Nat) (K:Nat->Prop):Prop :=
 an (α:=Nat) (fun k2=>av (S:=(Nat×Nat)) (fun (v3,v4) nx5=>((ltN v4 p0.length)=true->an (α:=Nat) (fun k7=>∃ x8,p0[v4]?=some x8/\((eqN x8 p1)=true->K p1)/\((eqN x8 p1)=false->((neN x8 p2)=true->k7 2)/\((neN x8 p2)=false->k7 v3))) (fun v6=>v4+1<2 ^ 63/\nx5 (v6,(v4+1))))/\((ltN v4 p0.length)=false->k2 v3)) (p2,0)) (fun v1=>K v1)
theorem il {p0:(List Nat)}{p1:Nat}{p2:Nat}{K:Nat->Prop} (hm:ck p0 p1 p2 K) {h0:Heap} (hB:HasB vars h0):∃ r,K r/\CallD Tryz.prog NG 103 ⟨[(ah 1 n8) p0,n8 p1,n8 p2]⟩ h0 (n8 r) h0:=by
 unfold ck at hm
 refine fw Tryz.func103 hB (enc:=n8) (fun r=>PureV.flat rfl) fun O=>?_;conv=>whnf
 apply Cs;conv=>whnf
 apply Cs;refine gH ?_
 apply Cs;conv=>whnf
 apply Cs;refine gH ?_
 refine jn hm 28 [] (fun s=>s) (fun v1 h=>Own vars h0 [] h) (fun v1=>[(7,(n8 v1))]) (fun hm=>?_) ?_
 ·refine gX ?_
  refine lw 28 [1,2,11,12] (σ:=(Nat×Nat)) (fun s=>s) (fun (v3,v4) h=>Own vars h0 [] h) (fun (v3,v4)=>[(7,(n8 v3)),(13,(i64 v4))]) (p2,0) hm O ?_
  clear hm;rintro⟨v3,v4⟩ nx5 base h hm O
  refine gX ?_
  refine br hm (fun hm=>?_) fun hm=>?_
  ·apply Cs;conv=>whnf
   refine jn hm 28 [1,2,11,12,13] (fun s=>s) (fun v6 h=>Own vars h0 [] h) (fun v6=>[(7,(n8 v6))]) (fun hm=>?_) ?_
   ·refine gX ?_
    refine atF hm fun x8 hx8 hm=>?_;refine gX ?_
    refine br hm (fun hm=>?_) fun hm=>?_
    ·refine gX ?_
     exact fe hm O
    ·refine gX ?_
     refine br hm (fun hm=>?_) fun hm=>?_
     ·refine gX ?_
      exact jx 2 hm O
     ·refine gX ?_
      exact jx v3 hm O
   ·clear hm;rintro v6 base h hm O
    refine gX ?_
    refine aF hm fun hm=>?_;refine gH ?_
    exact jx (v6,(v4+1)) hm O
  ·refine gX ?_
   exact jx v3 hm O
 ·clear hm;rintro v1 base h hm O
  refine gX ?_
  exact fe hm O
def hZ (p0:(List Nat)) (K:Nat->Prop):Prop :=
 ck p0 0 1 (fun r1=>K r1)
theorem kA {p0:(List Nat)}{K:Nat->Prop} (hm:hZ p0 K) {h0:Heap} (hB:HasB vars h0):∃ r,K r/\CallD Tryz.prog NG 66 ⟨[(ah 1 n8) p0]⟩ h0 (n8 r) h0:=by
 unfold hZ at hm
 refine fw Tryz.func66 hB (enc:=n8) (fun r=>PureV.flat rfl) fun O=>?_;conv=>whnf
 refine gX ?_
 refine ca (il hm O.has) fun r1 hm=>?_;refine gX ?_
 exact fe hm O
def iT (p0:(List Nat)) (K:Nat->Prop):Prop :=
 ck p0 1 0 (fun r1=>K r1)
theorem lW {p0:(List Nat)}{K:Nat->Prop} (hm:iT p0 K) {h0:Heap} (hB:HasB vars h0):∃ r,K r/\CallD Tryz.prog NG 67 ⟨[(ah 1 n8) p0]⟩ h0 (n8 r) h0:=by
 unfold iT at hm
 refine fw Tryz.func67 hB (enc:=n8) (fun r=>PureV.flat rfl) fun O=>?_;conv=>whnf
 refine gX ?_
 refine ca (il hm O.has) fun r1 hm=>?_;refine gX ?_
 exact fe hm O
def eo (p0:(List Nat)) (K:Nat->Prop):Prop :=
 an (α:=Nat) (fun k2=>av (S:=(Nat×Nat)) (fun (v3,v4) nx5=>((ltN v4 p0.length)=true->∃ x6,p0[v4]?=some x6/\cY x6 (fun r7=>((!r7)=true->K 2)/\((!r7)=false->v3<256/\x6<256/\v4+1<2 ^ 63/\nx5 ((v3 ^^^ x6),(v4+1)))))/\((ltN v4 p0.length)=false->k2 v3)) (0,0)) (fun v1=>K v1)
theorem kC {p0:(List Nat)}{K:Nat->Prop} (hm:eo p0 K) {h0:Heap} (hB:HasB vars h0):∃ r,K r/\CallD Tryz.prog NG 68 ⟨[(ah 1 n8) p0]⟩ h0 (n8 r) h0:=by
 unfold eo at hm
 refine fw Tryz.func68 hB (enc:=n8) (fun r=>PureV.flat rfl) fun O=>?_;conv=>whnf
 apply Cs;conv=>whnf
 apply Cs;refine gH ?_
 apply Cs;conv=>whnf
 apply Cs;refine gH ?_
 refine jn hm 20 [] (fun s=>s) (fun v1 h=>Own vars h0 [] h) (fun v1=>[(3,(n8 v1))]) (fun hm=>?_) ?_
 ·refine gX ?_
  refine lw 20 [6,7] (σ:=(Nat×Nat)) (fun s=>s) (fun (v3,v4) h=>Own vars h0 [] h) (fun (v3,v4)=>[(3,(n8 v3)),(8,(i64 v4))]) (0,0) hm O ?_
  clear hm;rintro⟨v3,v4⟩ nx5 base h hm O
  refine gX ?_
  refine br hm (fun hm=>?_) fun hm=>?_
  ·refine gX ?_
   refine atF hm fun x6 hx6 hm=>?_;refine gX ?_
   refine ca (jo hm O.has) fun r7 hm=>?_;refine gX ?_
   refine br hm (fun hm=>?_) fun hm=>?_
   ·refine gX ?_
    exact fe hm O
   ·refine gX ?_
    refine⟨_,Bv (a:=v3) (b:=x6) rfl rfl hm.1 hm.2.1,?_⟩;refine gX ?_
    replace hm:=hm.2.2
    refine aF hm fun hm=>?_;refine gH ?_
    exact jx ((v3 ^^^ x6),(v4+1)) hm O
  ·refine gX ?_
   exact jx v3 hm O
 ·clear hm;rintro v1 base h hm O
  refine gX ?_
  exact fe hm O
def fW (p0:Nat) (p1:Nat) (p2:Nat) (K:Nat->Prop):Prop :=
 ((eqN p0 0)=true->bx p1 (fun r1=>K r1))/\((eqN p0 0)=false->((eqN p0 1)=true->bx p2 (fun r2=>K r2))/\((eqN p0 1)=false->((eqN p1 p2)=true->bx p1 (fun r3=>K r3))/\((eqN p1 p2)=false->K 2)))
theorem rj {p0:Nat}{p1:Nat}{p2:Nat}{K:Nat->Prop} (hm:fW p0 p1 p2 K) {h0:Heap} (hB:HasB vars h0):∃ r,K r/\CallD Tryz.prog NG 69 ⟨[n8 p0,n8 p1,n8 p2]⟩ h0 (n8 r) h0:=by
 unfold fW at hm
 refine fw Tryz.func69 hB (enc:=n8) (fun r=>PureV.flat rfl) fun O=>?_;conv=>whnf
 refine gX ?_
 refine br hm (fun hm=>?_) fun hm=>?_
 ·refine gX ?_
  refine ca (cG hm O.has) fun r1 hm=>?_;refine gX ?_
  exact fe hm O
 ·refine gX ?_
  refine br hm (fun hm=>?_) fun hm=>?_
  ·refine gX ?_
   refine ca (cG hm O.has) fun r2 hm=>?_;refine gX ?_
   exact fe hm O
  ·refine gX ?_
   refine br hm (fun hm=>?_) fun hm=>?_
   ·refine gX ?_
    refine ca (cG hm O.has) fun r3 hm=>?_;refine gX ?_
    exact fe hm O
   ·refine gX ?_
    exact fe hm O
def fP (p0:Nat) (p1:Nat) (K:Nat->Prop):Prop :=
 ((eqN p0 0)=true->K 3)/\((eqN p0 0)=false->((eqN p0 1)=true->bx p1 (fun r1=>K r1))/\((eqN p0 1)=false->K 2))
theorem qL {p0:Nat}{p1:Nat}{K:Nat->Prop} (hm:fP p0 p1 K) {h0:Heap} (hB:HasB vars h0):∃ r,K r/\CallD Tryz.prog NG 70 ⟨[n8 p0,n8 p1]⟩ h0 (n8 r) h0:=by
 unfold fP at hm
 refine fw Tryz.func70 hB (enc:=n8) (fun r=>PureV.flat rfl) fun O=>?_;conv=>whnf
 refine gX ?_
 refine br hm (fun hm=>?_) fun hm=>?_
 ·refine gX ?_
  exact fe hm O
 ·refine gX ?_
  refine br hm (fun hm=>?_) fun hm=>?_
  ·refine gX ?_
   refine ca (cG hm O.has) fun r1 hm=>?_;refine gX ?_
   exact fe hm O
  ·refine gX ?_
   exact fe hm O
def dH (p0:(List Nat)) (K:Bool->Prop):Prop :=
 cA p0 0 (fun r1=>(r1=true->cA p0 1 (fun r2=>K r2))/\(r1=false->K false))
theorem lM {p0:(List Nat)}{K:Bool->Prop} (hm:dH p0 K) {h0:Heap} (hB:HasB vars h0):∃ r,K r/\CallD Tryz.prog NG 107 ⟨[(ah 1 n8) p0]⟩ h0 (Value.bool r) h0:=by
 unfold dH at hm
 refine fw Tryz.func107 hB (enc:=Value.bool) (fun r=>PureV.flat rfl) fun O=>?_;conv=>whnf
 refine gX ?_
 refine ca (iU hm O.has) fun r1 hm=>?_;refine gH ?_
 refine br hm (fun hm=>?_) fun hm=>?_
 ·refine gX ?_
  refine ca (iU hm O.has) fun r2 hm=>?_;refine gX ?_
  exact fe hm O
 ·refine gX ?_
  exact fe hm O
def fR (p0:(List Nat)) (K:Nat->Prop):Prop :=
 fV p0 (fun r1=>((ltI r1 (Int.ofNat 0))=true->K 3)/\((ltI r1 (Int.ofNat 0))=false->an (α:=Bool) (fun k3=>dH p0 (fun r4=>(r4=true->k3 true)/\(r4=false->eS p0 (fun r5=>k3 r5)))) (fun v2=>(v2=true->K 2)/\(v2=false->∃ j7:Nat,r1=Int.ofNat j7/\∃ x6,p0[j7]?=some x6/\K x6))))
theorem qM {p0:(List Nat)}{K:Nat->Prop} (hm:fR p0 K) {h0:Heap} (hB:HasB vars h0):∃ r,K r/\CallD Tryz.prog NG 71 ⟨[(ah 1 n8) p0]⟩ h0 (n8 r) h0:=by
 unfold fR at hm
 refine fw Tryz.func71 hB (enc:=n8) (fun r=>PureV.flat rfl) fun O=>?_;conv=>whnf
 refine gX ?_
 refine ca (re hm O.has) fun r1 hm=>?_;refine gX ?_
 refine br hm (fun hm=>?_) fun hm=>?_
 ·refine gX ?_
  exact fe hm O
 ·refine jn hm 24 [0,5] (fun s=>s) (fun v2 h=>Own vars h0 [] h) (fun v2=>[(12,(.bool v2))]) (fun hm=>?_) ?_
  ·refine gX ?_
   refine ca (lM hm O.has) fun r4 hm=>?_;refine gH ?_
   refine br hm (fun hm=>?_) fun hm=>?_
   ·refine gX ?_
    exact jx true hm O
   ·refine gX ?_
    refine ca (pA hm O.has) fun r5 hm=>?_;refine gH ?_
    exact jx r5 hm O
  ·clear hm;rintro v2 base h hm O
   refine gX ?_
   refine br hm (fun hm=>?_) fun hm=>?_
   ·refine gX ?_
    exact fe hm O
   ·refine gX ?_
    obtain⟨j7,hz,x6,hx6,hm⟩:=hm
    refine xl (s:=1) (enc:=n8) (j:=j7) rfl rfl rfl (congrArg (Value.int .i64) hz) hx6 ?_;refine gX ?_
    exact fe hm O
def aR (p0:Nat) (p1:(List Nat)) (K:Nat->Prop):Prop :=
 fS p0 (fun r1=>an (α:=Bool) (fun k3=>((ltN p1.length r1.1)=true->k3 true)/\((ltN p1.length r1.1)=false->k3 (ltI r1.2 (Int.ofNat p1.length)))) (fun v2=>(v2=true->K 2)/\(v2=false->((eqN p0 1)=true->K 0)/\((eqN p0 1)=false->((eqN p0 2)=true->K 1)/\((eqN p0 2)=false->((eqN p0 3)=true->∃ x4,p1[0]?=some x4/\bx x4 (fun r5=>K r5))/\((eqN p0 3)=false->((eqN p0 4)=true->∃ x6,p1[0]?=some x6/\cM x6 (fun r7=>K r7))/\((eqN p0 4)=false->((eqN p0 5)=true->hZ p1 (fun r8=>K r8))/\((eqN p0 5)=false->((eqN p0 6)=true->hZ p1 (fun r9=>cM r9 (fun r10=>K r10)))/\((eqN p0 6)=false->((eqN p0 7)=true->iT p1 (fun r11=>K r11))/\((eqN p0 7)=false->((eqN p0 8)=true->iT p1 (fun r12=>cM r12 (fun r13=>K r13)))/\((eqN p0 8)=false->((eqN p0 9)=true->eo p1 (fun r14=>K r14))/\((eqN p0 9)=false->((eqN p0 10)=true->eo p1 (fun r15=>cM r15 (fun r16=>K r16)))/\((eqN p0 10)=false->((eqN p0 11)=true->∃ x17,p1[0]?=some x17/\∃ x18,p1[1]?=some x18/\∃ x19,p1[2]?=some x19/\fW x17 x18 x19 (fun r20=>K r20))/\((eqN p0 11)=false->((eqN p0 12)=true->∃ x21,p1[0]?=some x21/\∃ x22,p1[1]?=some x22/\fP x21 x22 (fun r23=>K r23))/\((eqN p0 12)=false->((eqN p0 13)=true->fR p1 (fun r24=>K r24))/\((eqN p0 13)=false->K 2))))))))))))))))
theorem cC {p0:Nat}{p1:(List Nat)}{K:Nat->Prop} (hm:aR p0 p1 K) {h0:Heap} (hB:HasB vars h0):∃ r,K r/\CallD Tryz.prog NG 38 ⟨[n8 p0,(ah 1 n8) p1]⟩ h0 (n8 r) h0:=by
 unfold aR at hm
 refine fw Tryz.func38 hB (enc:=n8) (fun r=>PureV.flat rfl) fun O=>?_;conv=>whnf
 refine gX ?_
 refine ca (jI hm O.has) fun r1 hm=>?_;refine gH ?_
 refine jn hm 91 [0,1] (fun s=>s) (fun v2 h=>Own vars h0 [] h) (fun v2=>[(21,(.bool v2))]) (fun hm=>?_) ?_
 ·refine gX ?_
  refine br hm (fun hm=>?_) fun hm=>?_
  ·refine gX ?_
   exact jx true hm O
  ·refine gX ?_
   exact jx (ltI r1.2 (Int.ofNat p1.length)) hm O
 ·clear hm;rintro v2 base h hm O
  refine gX ?_
  refine br hm (fun hm=>?_) fun hm=>?_
  ·refine gX ?_
   exact fe hm O
  ·refine gX ?_
   refine br hm (fun hm=>?_) fun hm=>?_
   ·refine gX ?_
    exact fe hm O
   ·refine gX ?_
    refine br hm (fun hm=>?_) fun hm=>?_
    ·refine gX ?_
     exact fe hm O
    ·refine gX ?_
     refine br hm (fun hm=>?_) fun hm=>?_
     ·refine gX ?_
      refine atF hm fun x4 hx4 hm=>?_;refine gH ?_
      refine ca (cG hm O.has) fun r5 hm=>?_;refine gX ?_
      exact fe hm O
     ·refine gX ?_
      refine br hm (fun hm=>?_) fun hm=>?_
      ·refine gX ?_
       refine atF hm fun x6 hx6 hm=>?_;refine gH ?_
       refine ca (fB hm O.has) fun r7 hm=>?_;refine gX ?_
       exact fe hm O
      ·refine gX ?_
       refine br hm (fun hm=>?_) fun hm=>?_
       ·refine gX ?_
        refine ca (kA hm O.has) fun r8 hm=>?_;refine gX ?_
        exact fe hm O
       ·refine gX ?_
        refine br hm (fun hm=>?_) fun hm=>?_
        ·refine gX ?_
         refine ca (kA hm O.has) fun r9 hm=>?_;refine gH ?_
         refine ca (fB hm O.has) fun r10 hm=>?_;refine gX ?_
         exact fe hm O
        ·refine gX ?_
         refine br hm (fun hm=>?_) fun hm=>?_
         ·refine gX ?_
          refine ca (lW hm O.has) fun r11 hm=>?_;refine gX ?_
          exact fe hm O
         ·refine gX ?_
          refine br hm (fun hm=>?_) fun hm=>?_
          ·refine gX ?_
           refine ca (lW hm O.has) fun r12 hm=>?_;refine gH ?_
           refine ca (fB hm O.has) fun r13 hm=>?_;refine gX ?_
           exact fe hm O
          ·refine gX ?_
           refine br hm (fun hm=>?_) fun hm=>?_
           ·refine gX ?_
            refine ca (kC hm O.has) fun r14 hm=>?_;refine gX ?_
            exact fe hm O
           ·refine gX ?_
            refine br hm (fun hm=>?_) fun hm=>?_
            ·refine gX ?_
             refine ca (kC hm O.has) fun r15 hm=>?_;refine gH ?_
             refine ca (fB hm O.has) fun r16 hm=>?_;refine gX ?_
             exact fe hm O
            ·refine gX ?_
             refine br hm (fun hm=>?_) fun hm=>?_
             ·refine gX ?_
              refine atF hm fun x17 hx17 hm=>?_;refine gH ?_
              refine atF hm fun x18 hx18 hm=>?_;refine gH ?_
              refine atF hm fun x19 hx19 hm=>?_;refine gH ?_
              refine ca (rj hm O.has) fun r20 hm=>?_;refine gH ?_
              refine⟨.inl (Ext.refl _),?_⟩;refine gH ?_
              refine gX ?_
              exact fe hm O
             ·refine gX ?_
              refine br hm (fun hm=>?_) fun hm=>?_
              ·refine gX ?_
               refine atF hm fun x21 hx21 hm=>?_;refine gH ?_
               refine atF hm fun x22 hx22 hm=>?_;refine gH ?_
               refine ca (qL hm O.has) fun r23 hm=>?_;refine gH ?_
               refine⟨.inl (Ext.refl _),?_⟩;refine gH ?_
               refine gX ?_
               exact fe hm O
              ·refine gX ?_
               refine br hm (fun hm=>?_) fun hm=>?_
               ·refine gX ?_
                refine ca (qM hm O.has) fun r24 hm=>?_;refine gX ?_
                exact fe hm O
               ·refine gX ?_
                exact fe hm O
def gY (p0:(List Nat)) (p1:Nat) (K:Int->Prop):Prop :=
 an (α:=Unit) (fun k1=>av (S:=Nat) (fun v2 nx3=>((ltN v2 p0.length)=true->∃ x4,p0[v2]?=some x4/\((eqN p1 x4)=true->K (Int.ofNat v2))/\((eqN p1 x4)=false->v2+1<2 ^ 63/\nx3 (v2+1)))/\((ltN v2 p0.length)=false->k1 ())) 0) (fun _=>K (Int.negSucc 0))
theorem qD {p0:(List Nat)}{p1:Nat}{K:Int->Prop} (hm:gY p0 p1 K) {h0:Heap} (hB:HasB vars h0):∃ r,K r/\CallD Tryz.prog NG 118 ⟨[(ah 1 n8) p0,n8 p1]⟩ h0 (z64 r) h0:=by
 unfold gY at hm
 refine fw Tryz.func118 hB (enc:=z64) (fun r=>PureV.flat rfl) fun O=>?_;conv=>whnf
 apply Cs;conv=>whnf
 apply Cs;refine gH ?_
 refine jn hm 19 [] (fun s=>s) (fun _ h=>Own vars h0 [] h) (fun _=>[]) (fun hm=>?_) ?_
 ·refine gX ?_
  refine lw 19 [0,1,7] (σ:=Nat) (fun s=>s) (fun v2 h=>Own vars h0 [] h) (fun v2=>[(8,(i64 v2))]) 0 hm O ?_
  clear hm;rintro v2 nx3 base h hm O
  refine gX ?_
  refine br hm (fun hm=>?_) fun hm=>?_
  ·refine gX ?_
   refine atF hm fun x4 hx4 hm=>?_;refine gX ?_
   refine br hm (fun hm=>?_) fun hm=>?_
   ·refine gX ?_
    exact fe hm O
   ·refine gX ?_
    refine aF hm fun hm=>?_;refine gH ?_
    exact jx (v2+1) hm O
  ·refine gX ?_
   exact jx () hm O
 ·clear hm;rintro _ base h hm O
  refine gX ?_
  exact fe hm O
def dp (p0:(List Nat)) (p1:Nat) (K:Bool->Prop):Prop :=
 gY p0 p1 (fun r1=>K (!ltI r1 (Int.ofNat 0)))
theorem mZ {p0:(List Nat)}{p1:Nat}{K:Bool->Prop} (hm:dp p0 p1 K) {h0:Heap} (hB:HasB vars h0):∃ r,K r/\CallD Tryz.prog NG 80 ⟨[(ah 1 n8) p0,n8 p1]⟩ h0 (Value.bool r) h0:=by
 unfold dp at hm
 refine fw Tryz.func80 hB (enc:=Value.bool) (fun r=>PureV.flat rfl) fun O=>?_;conv=>whnf
 refine gX ?_
 refine ca (qD hm O.has) fun r1 hm=>?_;refine gX ?_
 exact fe hm O
def fF (p0:(List Nat)) (c:Circ) (K:Int->Prop):Prop :=
 an (α:=Unit) (fun k1=>av (S:=Nat) (fun v2 nx3=>((ltN v2 p0.length)=true->∃ x4,p0[v2]?=some x4/\((ltN x4 0)=true->K (Int.ofNat v2))/\((ltN x4 0)=false->((!ltN x4 c.nodes.length)=true->K (Int.ofNat v2))/\((!ltN x4 c.nodes.length)=false->v2+1<2 ^ 63/\nx3 (v2+1))))/\((ltN v2 p0.length)=false->k1 ())) 0) (fun _=>K (Int.negSucc 0))
theorem oi {p0:(List Nat)}{c:Circ}{K:Int->Prop} (hm:fF p0 c K) {h0:Heap} (hB:HasB vars h0):∃ r,K r/\CallD Tryz.prog NG 142 ⟨[(ah 1 i64) p0,(.func (.func 143) ⟨[]⟩ ⟨[(FP (aA c))]⟩)]⟩ h0 (z64 r) h0:=by
 unfold fF at hm
 refine fw Tryz.func142 hB (enc:=z64) (fun r=>PureV.flat rfl) fun O=>?_;conv=>whnf
 apply Cs;conv=>whnf
 apply Cs;refine gH ?_
 refine jn hm 19 [] (fun s=>s) (fun _ h=>Own vars h0 [] h) (fun _=>[]) (fun hm=>?_) ?_
 ·refine gX ?_
  refine lw 19 [0,1,7] (σ:=Nat) (fun s=>s) (fun v2 h=>Own vars h0 [] h) (fun v2=>[(8,(i64 v2))]) 0 hm O ?_
  clear hm;rintro v2 nx3 base h hm O
  refine gX ?_
  refine br hm (fun hm=>?_) fun hm=>?_
  ·refine gX ?_
   refine atF hm fun x4 hx4 hm=>?_;refine gH ?_
   refine fg Tryz.func143 ?_;refine gX ?_
   refine br hm (fun hm=>?_) fun hm=>?_
   ·refine gX ?_
    refine bt ?_;refine gX ?_
    exact fe hm O
   ·refine gX ?_
    refine br hm (fun hm=>?_) fun hm=>?_
    ·refine gX ?_
     exact fe hm O
    ·refine gX ?_
     refine aF hm fun hm=>?_;refine gH ?_
     exact jx (v2+1) hm O
  ·refine gX ?_
   exact jx () hm O
 ·clear hm;rintro _ base h hm O
  refine gX ?_
  exact fe hm O
def ch (p0:(List Nat)) (c:Circ) (K:Bool->Prop):Prop :=
 fF p0 c (fun r1=>K (!ltI r1 (Int.ofNat 0)))
theorem eY {p0:(List Nat)}{c:Circ}{K:Bool->Prop} (hm:ch p0 c K) {h0:Heap} (hB:HasB vars h0):∃ r,K r/\CallD Tryz.prog NG 128 ⟨[(ah 1 i64) p0,(.func (.func 143) ⟨[]⟩ ⟨[(FP (aA c))]⟩)]⟩ h0 (Value.bool r) h0:=by
 unfold ch at hm
 refine fw Tryz.func128 hB (enc:=Value.bool) (fun r=>PureV.flat rfl) fun O=>?_;conv=>whnf
 refine gX ?_
 refine ca (oi hm O.has) fun r1 hm=>?_;refine gX ?_
 exact fe hm O
def gu (p0:(List Nat)) (c:Circ) (K:Int->Prop):Prop :=
 an (α:=Unit) (fun k1=>av (S:=Nat) (fun v2 nx3=>((ltN v2 p0.length)=true->∃ x4,p0[v2]?=some x4/\∃ x5,c.nodes[x4]?=some x5/\((neN x5.kind 12)=true->K (Int.ofNat v2))/\((neN x5.kind 12)=false->v2+1<2 ^ 63/\nx3 (v2+1)))/\((ltN v2 p0.length)=false->k1 ())) 0) (fun _=>K (Int.negSucc 0))
theorem py {p0:(List Nat)}{c:Circ}{K:Int->Prop} (hm:gu p0 c K) {h0:Heap} (hB:HasB vars h0):∃ r,K r/\CallD Tryz.prog NG 142 ⟨[(ah 1 i64) p0,(.func (.func 138) ⟨[]⟩ ⟨[(FP (aA c))]⟩)]⟩ h0 (z64 r) h0:=by
 unfold gu at hm
 refine fw Tryz.func142 hB (enc:=z64) (fun r=>PureV.flat rfl) fun O=>?_;conv=>whnf
 apply Cs;conv=>whnf
 apply Cs;refine gH ?_
 refine jn hm 19 [] (fun s=>s) (fun _ h=>Own vars h0 [] h) (fun _=>[]) (fun hm=>?_) ?_
 ·refine gX ?_
  refine lw 19 [0,1,7] (σ:=Nat) (fun s=>s) (fun v2 h=>Own vars h0 [] h) (fun v2=>[(8,(i64 v2))]) 0 hm O ?_
  clear hm;rintro v2 nx3 base h hm O
  refine gX ?_
  refine br hm (fun hm=>?_) fun hm=>?_
  ·refine gX ?_
   refine atF hm fun x4 hx4 hm=>?_;refine gH ?_
   refine fg Tryz.func138 ?_;refine gX ?_
   refine atF hm fun x5 hx5 hm=>?_;refine gX ?_
   refine br hm (fun hm=>?_) fun hm=>?_
   ·refine gX ?_
    exact fe hm O
   ·refine gX ?_
    refine aF hm fun hm=>?_;refine gH ?_
    exact jx (v2+1) hm O
  ·refine gX ?_
   exact jx () hm O
 ·clear hm;rintro _ base h hm O
  refine gX ?_
  exact fe hm O
def fK (p0:(List Nat)) (c:Circ) (K:Bool->Prop):Prop :=
 gu p0 c (fun r1=>K (!ltI r1 (Int.ofNat 0)))
theorem rI {p0:(List Nat)}{c:Circ}{K:Bool->Prop} (hm:fK p0 c K) {h0:Heap} (hB:HasB vars h0):∃ r,K r/\CallD Tryz.prog NG 128 ⟨[(ah 1 i64) p0,(.func (.func 138) ⟨[]⟩ ⟨[(FP (aA c))]⟩)]⟩ h0 (Value.bool r) h0:=by
 unfold fK at hm
 refine fw Tryz.func128 hB (enc:=Value.bool) (fun r=>PureV.flat rfl) fun O=>?_;conv=>whnf
 refine gX ?_
 refine ca (py hm O.has) fun r1 hm=>?_;refine gX ?_
 exact fe hm O
def bU (p0:Nat) (K:Bool->Prop):Prop :=
 ((!ltN p0 1)=true->K (!ltN 13 p0))/\((!ltN p0 1)=false->K false)
theorem fj {p0:Nat}{K:Bool->Prop} (hm:bU p0 K) {h0:Heap} (hB:HasB vars h0):∃ r,K r/\CallD Tryz.prog NG 37 ⟨[n8 p0]⟩ h0 (Value.bool r) h0:=by
 unfold bU at hm
 refine fw Tryz.func37 hB (enc:=Value.bool) (fun r=>PureV.flat rfl) fun O=>?_;conv=>whnf
 refine gX ?_
 refine br hm (fun hm=>?_) fun hm=>?_
 ·refine gX ?_
  exact fe hm O
 ·refine gX ?_
  exact fe hm O
def cB (p0:Circ) (p1:Node) (K:Bool->Prop):Prop :=
 ((neN p1.kind 15)=true->((eqN p1.mem 0)=true->K (eqN p1.bit 0))/\((eqN p1.mem 0)=false->K false))/\((neN p1.kind 15)=false->((!ltN p1.mem 0)=true->((ltN p1.mem p0.mems.length)=true->((!ltN p1.bit 0)=true->∃ x1,p0.mems[p1.mem]?=some x1/\K (ltN p1.bit x1.data.length))/\((!ltN p1.bit 0)=false->K false))/\((ltN p1.mem p0.mems.length)=false->K false))/\((!ltN p1.mem 0)=false->K false))
theorem nJ {p0:Circ}{p1:Node}{K:Bool->Prop} (hm:cB p0 p1 K) {h0:Heap} (hB:HasB vars h0):∃ r,K r/\CallD Tryz.prog NG 139 ⟨[aA p0,al p1]⟩ h0 (Value.bool r) h0:=by
 unfold cB at hm
 refine fw Tryz.func139 hB (enc:=Value.bool) (fun r=>PureV.flat rfl) fun O=>?_;conv=>whnf
 refine gX ?_
 refine fz ?_;refine gH ?_
 refine fz ?_;refine gX ?_
 refine br hm (fun hm=>?_) fun hm=>?_
 ·refine gX ?_
  refine br hm (fun hm=>?_) fun hm=>?_
  ·refine gX ?_
   exact fe hm O
  ·refine gX ?_
   exact fe hm O
 ·refine gX ?_
  refine br hm (fun hm=>?_) fun hm=>?_
  ·refine gX ?_
   refine dF ?_
   refine gX ?_
   refine br hm (fun hm=>?_) fun hm=>?_
   ·refine gX ?_
    refine br hm (fun hm=>?_) fun hm=>?_
    ·refine gX ?_
     refine dF ?_
     refine gX ?_
     refine atF hm fun x1 hx1 hm=>?_;refine gH ?_
     refine dF ?_
     refine gX ?_
     exact fe hm O
    ·refine gX ?_
     exact fe hm O
   ·refine gX ?_
    refine bf ?_;refine gX ?_
    exact fe hm O
  ·refine gX ?_
   refine bf ?_;refine gH ?_
   refine bf ?_;refine gX ?_
   exact fe hm O
def cW (p0:Circ) (p1:Node) (K:Nat->Prop):Prop :=
 fS p1.kind (fun r1=>((ltN 15 p1.kind)=true->K 7)/\((ltN 15 p1.kind)=false->an (α:=Bool) (fun k3=>((ltN p1.ins.length r1.1)=true->k3 true)/\((ltN p1.ins.length r1.1)=false->k3 (ltI r1.2 (Int.ofNat p1.ins.length)))) (fun v2=>(v2=true->K 8)/\(v2=false->ch p1.ins p0 (fun r4=>(r4=true->K 1)/\(r4=false->an (α:=Bool) (fun k6=>((eqN p1.kind 13)=true->fK p1.ins p0 (fun r7=>k6 r7))/\((eqN p1.kind 13)=false->k6 false)) (fun v5=>(v5=true->K 7)/\(v5=false->cB p0 p1 (fun r8=>((!r8)=true->K 1)/\((!r8)=false->K 0))))))))))
theorem mC {p0:Circ}{p1:Node}{K:Nat->Prop} (hm:cW p0 p1 K) {h0:Heap} (hB:HasB vars h0):∃ r,K r/\CallD Tryz.prog NG 125 ⟨[aA p0,al p1]⟩ h0 (i64 r) h0:=by
 unfold cW at hm
 refine fw Tryz.func125 hB (enc:=i64) (fun r=>PureV.flat rfl) fun O=>?_;conv=>whnf
 refine gX ?_
 refine fz ?_;refine gH ?_
 refine fz ?_;refine gX ?_
 refine ca (jI hm O.has) fun r1 hm=>?_;refine gX ?_
 refine br hm (fun hm=>?_) fun hm=>?_
 ·refine gX ?_
  exact fe hm O
 ·refine jn hm 53 [2,3,7] (fun s=>s) (fun v2 h=>Own vars h0 [] h) (fun v2=>[(19,(.bool v2))]) (fun hm=>?_) ?_
  ·refine gX ?_
   refine br hm (fun hm=>?_) fun hm=>?_
   ·refine gX ?_
    exact jx true hm O
   ·refine gX ?_
    exact jx (ltI r1.2 (Int.ofNat p1.ins.length)) hm O
  ·clear hm;rintro v2 base h hm O
   refine gX ?_
   refine br hm (fun hm=>?_) fun hm=>?_
   ·refine gX ?_
    exact fe hm O
   ·refine gX ?_
    refine dF ?_
    refine gX ?_
    refine dF ?_
    refine gX ?_
    refine fg Tryz.func129 ?_;refine gX ?_
    refine fz ?_;refine gX ?_
    refine⟨.inl (Ext.refl _),?_⟩;refine gH ?_
    refine ca (eY hm O.has) fun r4 hm=>?_;refine gH ?_
    refine⟨.inl (Ext.refl _),?_⟩;refine gH ?_
    refine gX ?_
    refine br hm (fun hm=>?_) fun hm=>?_
    ·refine gX ?_
     exact fe hm O
    ·refine jn hm 53 [2,3] (fun s=>s) (fun v5 h=>Own vars h0 [] h) (fun v5=>[(38,(.bool v5))]) (fun hm=>?_) ?_
     ·refine gX ?_
      refine br hm (fun hm=>?_) fun hm=>?_
      ·refine gX ?_
       refine ca (rI hm O.has) fun r7 hm=>?_;refine gH ?_
       exact jx r7 hm O
      ·refine gX ?_
       exact jx false hm O
     ·clear hm;rintro v5 base h hm O
      refine gX ?_
      refine br hm (fun hm=>?_) fun hm=>?_
      ·refine gX ?_
       exact fe hm O
      ·refine gX ?_
       refine ca (nJ hm O.has) fun r8 hm=>?_;refine gX ?_
       refine br hm (fun hm=>?_) fun hm=>?_
       ·refine gX ?_
        exact fe hm O
       ·refine gX ?_
        exact fe hm O
def cr (p0:Circ) (p1:Memo) (K:Nat->Prop):Prop :=
 an (α:=Bool) (fun k2=>((eqN p1.addr.length 0)=true->k2 true)/\((eqN p1.addr.length 0)=false->((ltN 8 p1.addr.length)=true->k2 true)/\((ltN 8 p1.addr.length)=false->((eqN p1.data.length 0)=true->k2 true)/\((eqN p1.data.length 0)=false->k2 (ltN 32 p1.data.length))))) (fun v1=>(v1=true->K 8)/\(v1=false->an (α:=Bool) (fun k4=>ch p1.addr p0 (fun r5=>(r5=true->k4 true)/\(r5=false->ch p1.data p0 (fun r6=>(r6=true->k4 true)/\(r6=false->((ltN p1.write 0)=true->k4 true)/\((ltN p1.write 0)=false->k4 (!ltN p1.write p0.nodes.length))))))) (fun v3=>(v3=true->K 1)/\(v3=false->K 0))))
theorem kZ {p0:Circ}{p1:Memo}{K:Nat->Prop} (hm:cr p0 p1 K) {h0:Heap} (hB:HasB vars h0):∃ r,K r/\CallD Tryz.prog NG 127 ⟨[aA p0,az p1]⟩ h0 (i64 r) h0:=by
 unfold cr at hm
 refine fw Tryz.func127 hB (enc:=i64) (fun r=>PureV.flat rfl) fun O=>?_;conv=>whnf
 refine gX ?_
 refine fz ?_;refine gH ?_
 refine fz ?_;refine gX ?_
 refine fg Tryz.func129 ?_;refine gX ?_
 refine fz ?_;refine gH ?_
 apply Cs;conv=>whnf
 apply Cs;refine gH ?_
 apply Cs;conv=>whnf
 refine gH ?_
 apply Cs;conv=>whnf
 apply Cs;conv=>whnf
 refine jn hm 37 [3,6] (fun s=>s) (fun v1 h=>Own vars h0 [] h) (fun v1=>[(9,(.bool v1))]) (fun hm=>?_) ?_
 ·refine gX ?_
  refine fg Tryz.func141 ?_;refine gX ?_
  refine br hm (fun hm=>?_) fun hm=>?_
  ·refine gX ?_
   refine bt ?_;refine gH ?_
   exact jx true hm O
  ·refine gX ?_
   refine br hm (fun hm=>?_) fun hm=>?_
   ·refine gX ?_
    exact jx true hm O
   ·refine gX ?_
    refine fg Tryz.func141 ?_;refine gX ?_
    refine br hm (fun hm=>?_) fun hm=>?_
    ·refine gX ?_
     exact jx true hm O
    ·refine gX ?_
     exact jx (ltN 32 p1.data.length) hm O
 ·clear hm;rintro v1 base h hm O
  refine gX ?_
  refine br hm (fun hm=>?_) fun hm=>?_
  ·refine gX ?_
   exact fe hm O
  ·refine jn hm 37 [] (fun s=>s) (fun v3 h=>Own vars h0 [] h) (fun v3=>[(20,(.bool v3))]) (fun hm=>?_) ?_
   ·refine gX ?_
    refine ca (eY hm O.has) fun r5 hm=>?_;refine gH ?_
    refine br hm (fun hm=>?_) fun hm=>?_
    ·refine gX ?_
     refine bt ?_;refine gH ?_
     exact jx true hm O
    ·refine gX ?_
     refine ca (eY hm O.has) fun r6 hm=>?_;refine gH ?_
     refine br hm (fun hm=>?_) fun hm=>?_
     ·refine gX ?_
      exact jx true hm O
     ·refine gX ?_
      refine fg Tryz.func143 ?_;refine gX ?_
      refine br hm (fun hm=>?_) fun hm=>?_
      ·refine gX ?_
       exact jx true hm O
      ·refine gX ?_
       exact jx (!ltN p1.write p0.nodes.length) hm O
   ·clear hm;rintro v3 base h hm O
    refine gX ?_
    refine br hm (fun hm=>?_) fun hm=>?_
    ·refine gX ?_
     exact fe hm O
    ·refine gX ?_
     exact fe hm O
def cO (p0:Circ) (K:Nat->Prop):Prop :=
 an (α:=Bool) (fun k2=>((ltN 16384 p0.nodes.length)=true->k2 true)/\((ltN 16384 p0.nodes.length)=false->((ltN 16 p0.mems.length)=true->k2 true)/\((ltN 16 p0.mems.length)=false->k2 (ltN 16384 p0.outs.length)))) (fun v1=>(v1=true->K 3)/\(v1=false->((neN p0.names.length p0.nodes.length)=true->K 8)/\((neN p0.names.length p0.nodes.length)=false->an (α:=Unit) (fun k3=>av (S:=Nat) (fun v4 nx5=>((ltN v4 p0.nodes.length)=true->∃ x6,p0.nodes[v4]?=some x6/\cW p0 x6 (fun r9=>((neN r9 0)=true->K r9)/\((neN r9 0)=false->v4+1<2 ^ 63/\nx5 (v4+1))))/\((ltN v4 p0.nodes.length)=false->k3 ())) 0) (fun _=>fN p0 (fun r10=>((neN r10 0)=true->K r10)/\((neN r10 0)=false->an (α:=Unit) (fun k11=>av (S:=Nat) (fun v12 nx13=>((ltN v12 p0.mems.length)=true->∃ x14,p0.mems[v12]?=some x14/\cr p0 x14 (fun r17=>((neN r17 0)=true->K r17)/\((neN r17 0)=false->v12+1<2 ^ 63/\nx13 (v12+1))))/\((ltN v12 p0.mems.length)=false->k11 ())) 0) (fun _=>ch p0.outs p0 (fun r18=>(r18=true->K 1)/\(r18=false->K 0)))))))))
theorem lD {p0:Circ}{K:Nat->Prop} (hm:cO p0 K) {h0:Heap} (hB:HasB vars h0):∃ r,K r/\CallD Tryz.prog NG 97 ⟨[aA p0]⟩ h0 (i64 r) h0:=by
 unfold cO at hm
 refine fw Tryz.func97 hB (enc:=i64) (fun r=>PureV.flat rfl) fun O=>?_;conv=>whnf
 refine gX ?_
 refine fz ?_;refine gH ?_
 apply Cs;conv=>whnf
 apply Cs;conv=>whnf
 refine jn hm 73 [1] (fun s=>s) (fun v1 h=>Own vars h0 [] h) (fun v1=>[(10,(.bool v1))]) (fun hm=>?_) ?_
 ·refine gX ?_
  refine br hm (fun hm=>?_) fun hm=>?_
  ·refine gX ?_
   refine bt ?_;refine gH ?_
   exact jx true hm O
  ·refine gX ?_
   refine br hm (fun hm=>?_) fun hm=>?_
   ·refine gX ?_
    exact jx true hm O
   ·refine gX ?_
    exact jx (ltN 16384 p0.outs.length) hm O
 ·clear hm;rintro v1 base h hm O
  refine gX ?_
  refine br hm (fun hm=>?_) fun hm=>?_
  ·refine gX ?_
   exact fe hm O
  ·refine gX ?_
   refine br hm (fun hm=>?_) fun hm=>?_
   ·refine gX ?_
    exact fe hm O
   ·apply Cs;conv=>whnf
    refine jn hm 73 [1] (fun s=>s) (fun _ h=>Own vars h0 [] h) (fun _=>[]) (fun hm=>?_) ?_
    ·refine gX ?_
     refine lw 73 [1,36,37] (σ:=Nat) (fun s=>s) (fun v4 h=>Own vars h0 [] h) (fun v4=>[(38,(i64 v4))]) 0 hm O ?_
     clear hm;rintro v4 nx5 base h hm O
     refine gX ?_
     refine br hm (fun hm=>?_) fun hm=>?_
     ·refine gX ?_
      refine atF hm fun x6 hx6 hm=>?_;refine gH ?_
      refine O.new (ai (l:=[(n8 0),nS,(i64 0),(i64 0)]) rfl rfl rfl) fun g7 h O=>?_;refine gH ?_
      refine O.stC 4 (.head _) [(n8 x6.kind),((ah 1 i64) x6.ins),(i64 x6.mem),(i64 x6.bit)] fun h O=>?_;refine gX ?_
      refine ldA (O.at (.head _)) ?_;refine gH ?_
      refine ca (mC hm O.has) fun r9 hm=>?_;refine gX ?_
      refine br hm (fun hm=>?_) fun hm=>?_
      ·refine gX ?_
       exact fe hm O
      ·refine gX ?_
       refine aF hm fun hm=>?_;refine gH ?_
       exact jx (v4+1) hm (O.sel [] (by decide))
     ·refine gX ?_
      exact jx () hm O
    ·clear hm;rintro _ base h hm O
     refine gX ?_
     refine ca (lL hm O.has) fun r10 hm=>?_;refine gX ?_
     refine br hm (fun hm=>?_) fun hm=>?_
     ·refine gX ?_
      exact fe hm O
     ·apply Cs;conv=>whnf
      refine jn hm 73 [1] (fun s=>s) (fun _ h=>Own vars h0 [] h) (fun _=>[]) (fun hm=>?_) ?_
      ·refine gX ?_
       refine lw 73 [1,55,56] (σ:=Nat) (fun s=>s) (fun v12 h=>Own vars h0 [] h) (fun v12=>[(57,(i64 v12))]) 0 hm O ?_
       clear hm;rintro v12 nx13 base h hm O
       refine gX ?_
       refine br hm (fun hm=>?_) fun hm=>?_
       ·refine gX ?_
        refine atF hm fun x14 hx14 hm=>?_;refine gH ?_
        refine O.new (ai (l:=[nS,nS,(i64 0)]) rfl rfl rfl) fun g15 h O=>?_;refine gH ?_
        refine O.stC 3 (.head _) [((ah 1 i64) x14.addr),((ah 1 i64) x14.data),(i64 x14.write)] fun h O=>?_;refine gX ?_
        refine ldA (O.at (.head _)) ?_;refine gH ?_
        refine ca (kZ hm O.has) fun r17 hm=>?_;refine gX ?_
        refine br hm (fun hm=>?_) fun hm=>?_
        ·refine gX ?_
         exact fe hm O
        ·refine gX ?_
         refine aF hm fun hm=>?_;refine gH ?_
         exact jx (v12+1) hm (O.sel [] (by decide))
       ·refine gX ?_
        exact jx () hm O
      ·clear hm;rintro _ base h hm O
       refine gX ?_
       refine dF ?_
       refine gX ?_
       refine dF ?_
       refine gX ?_
       refine fg Tryz.func129 ?_;refine gX ?_
       refine fz ?_;refine gX ?_
       refine⟨.inl (Ext.refl _),?_⟩;refine gH ?_
       refine ca (eY hm O.has) fun r18 hm=>?_;refine gH ?_
       refine⟨.inl (Ext.refl _),?_⟩;refine gH ?_
       refine gX ?_
       refine br hm (fun hm=>?_) fun hm=>?_
       ·refine gX ?_
        exact fe hm O
       ·refine gX ?_
        exact fe hm O
def cn (p0:Circ) (p1:(List Nat)) (K:(List Nat)->Prop):Prop :=
 an (α:=(List Nat)) (fun k5=>av (S:=((List Nat)×Nat)) (fun (v7,v8) nx10=>((ltN v8 p0.nodes.length)=true->an (α:=(List Nat)) (fun k14=>∃ x15,p0.nodes[v8]?=some x15/\dp p1 x15.kind (fun r18=>(r18=true->(v7.length+([v8]:(List Nat)).length)*8<=2 ^ 47/\k14 (v7++([v8]:(List Nat))))/\(r18=false->k14 v7))) (fun v12=>v8+1<2 ^ 63/\nx10 (v12,(v8+1))))/\((ltN v8 p0.nodes.length)=false->k5 v7)) (([]:List Nat),0)) (fun v3=>K v3)
theorem gk {p0:Circ}{p1:(List Nat)}{K:(List Nat)->Prop} (hm:cn p0 p1 K) {h0:Heap} (hB:HasB vars h0):∃ r,K r/\CallD Tryz.prog NG 45 ⟨[aA p0,(ah 1 n8) p1]⟩ h0 ((ah 1 i64) r) h0:=by
 unfold cn at hm
 refine fw Tryz.func45 hB (enc:=(ah 1 i64)) (fun r=>dg (fun _=>aj.cons (PureV.flat rfl) aj.nil)) fun O=>?_;conv=>whnf
 refine gX ?_
 refine fz ?_;refine gH ?_
 apply Cs;conv=>whnf
 apply Cs;refine gH ?_
 have O:=O.aG (.cells (flatC ((([]:List Nat)).map i64)) false)
 refine jn (σ:=(List Nat)×Option Nat) hm 27 [] (fun s=>s.1) (fun (v3,a2) h=>(a2=none->v3=[])/\Own vars h0 [(a2,.cells (flatC (v3.map i64)) false)] h) (fun (v3,a2)=>[(5,(ag 1 a2 (v3.map i64)))]) (fun hm=>?_) ?_
 ·refine gX ?_
  refine lw 27 [1,9,10] (σ:=((List Nat)×Nat)×Option Nat) (fun s=>s.1) (fun ((v7,v8),a6) h=>(a6=none->v7=[])/\Own vars h0 [(a6,.cells (flatC (v7.map i64)) false)] h) (fun ((v7,v8),a6)=>[(5,(ag 1 a6 (v7.map i64))),(11,(i64 v8))]) ((([]:List Nat),0),none) hm ⟨(fun _=>rfl),O⟩ ?_
  clear hm;rintro⟨⟨v7,v8⟩,a6⟩ nx10 base h hm ⟨ha9,O⟩
  refine gX ?_
  refine br hm (fun hm=>?_) fun hm=>?_
  ·apply Cs;conv=>whnf
   refine jn (σ:=(List Nat)×Option Nat) hm 27 [1,9,10,11] (fun s=>s.1) (fun (v12,a11) h=>(a11=none->v12=[])/\Own vars h0 [(a11,.cells (flatC (v12.map i64)) false)] h) (fun (v12,a11)=>[(5,(ag 1 a11 (v12.map i64)))]) (fun hm=>?_) ?_
   ·refine gX ?_
    refine atF hm fun x15 hx15 hm=>?_;refine gH ?_
    refine O.new (ai (l:=[(n8 0),nS,(i64 0),(i64 0)]) rfl rfl rfl) fun g16 h O=>?_;refine gH ?_
    refine O.stC 4 (.head _) [(n8 x15.kind),((ah 1 i64) x15.ins),(i64 x15.mem),(i64 x15.bit)] fun h O=>?_;refine gX ?_
    refine ca (mZ hm O.has) fun r18 hm=>?_;refine gX ?_
    refine br hm (fun hm=>?_) fun hm=>?_
    ·refine gX ?_
     refine fz ?_;refine gH ?_
     refine O.apL (enc:=i64) (l:=v7) (new:=([v8]:(List Nat))) 1 (.tail _ (.head _)) ha9 hm fun a19 h ha20 O hm=>?_;refine gH ?_
     exact jx ((v7++([v8]:(List Nat))),a19) hm ⟨ha20,(O.sel [1] (by decide))⟩
    ·refine gX ?_
     exact jx (v7,a6) hm ⟨ha9,(O.sel [1] (by decide))⟩
   ·clear hm;rintro⟨v12,a11⟩ base h hm ⟨ha13,O⟩
    refine gX ?_
    refine aF hm fun hm=>?_;refine gH ?_
    exact jx ((v12,(v8+1)),a11) hm ⟨ha13,O⟩
  ·refine gX ?_
   exact jx (v7,a6) hm ⟨ha9,O⟩
 ·clear hm;rintro⟨v3,a2⟩ base h hm ⟨ha4,O⟩
  refine gX ?_
  refine fg Tryz.func28 ?_;refine gX ?_
  refine gD (s:=1) (enc:=i64) (l:=v3) (n:=v3.length) (m:=v3.length) rfl rfl rfl rfl rfl rfl rfl ?_;refine gX ?_
  exact⟨v3,hm,O.ext,fun h2 F=>O.iz F (Nat.le_refl _) (.head _) ha4 (fun _=>rfl)⟩
def bS (p0:Circ) (K:((List Nat)×Nat)->Prop):Prop :=
 cO p0 (fun r1=>((neN r1 0)=true->K ([],r1))/\((neN r1 0)=false->8*p0.nodes.length<=2 ^ 48/\p0.nodes.length<2 ^ 63/\8*p0.nodes.length<=2 ^ 48/\p0.nodes.length<2 ^ 63/\an (α:=((List Nat)×(List Nat))) (fun k11=>av (S:=((List Nat)×(List Nat)×Nat)) (fun (v12,v14,v15) nx17=>((ltN v15 p0.nodes.length)=true->an (α:=((List Nat)×(List Nat))) (fun k22=>∃ x23,p0.nodes[v15]?=some x23/\an (α:=(List Nat)) (fun k28=>bU x23.kind (fun r29=>(r29=true->v15<p0.nodes.length/\∃ x30,v12[v15]?=some x30/\k28 (v12.set v15 x23.ins.length))/\(r29=false->k28 v12))) (fun v26=>v15<p0.nodes.length/\∃ x31,v26[v15]?=some x31/\((eqN x31 0)=true->(v14.length+([v15]:(List Nat)).length)*8<=2 ^ 47/\k22 (v26,(v14++([v15]:(List Nat)))))/\((eqN x31 0)=false->k22 (v26,v14)))) (fun (v18,v20)=>v15+1<2 ^ 63/\nx17 (v18,v20,(v15+1))))/\((ltN v15 p0.nodes.length)=false->k11 (v12,v14))) ((List.replicate p0.nodes.length (0:Nat)),([]:List Nat),0)) (fun (v7,v9)=>fb p0 (fun r34=>an (α:=((List Nat)×Nat)) (fun k37=>av (S:=((List Nat)×(List Nat)×(List Nat)×Nat)) (fun (v38,v39,v41,v42) nx44=>((ltN v42 v41.length)=true->∃ x45,v41[v42]?=some x45/\v42+1<2 ^ 63/\∃ x47,r34[x45]?=some x47/\((eqN x47.length 0)=true->nx44 (v38,v39,v41,(v42+1)))/\((eqN x47.length 0)=false->∃ x48,r34[x45]?=some x48/\av (S:=((List Nat)×(List Nat)×(List Nat)×Nat)) (fun (v49,v50,v52,v53) nx55=>((ltN v53 x48.length)=true->an (α:=((List Nat)×(List Nat)×(List Nat))) (fun k61=>∃ x62,x48[v53]?=some x62/\∃ x65,p0.nodes[x62.node]?=some x65/\bU x65.kind (fun r66=>((!r66)=true->k61 (v49,v50,v52))/\((!r66)=false->x62.node<p0.nodes.length/\∃ x67,v49[x62.node]?=some x67/\x45<p0.nodes.length/\∃ x68,v49[x45]?=some x68/\x68+1<2 ^ 63/\x62.node<p0.nodes.length/\∃ x69,v49[x62.node]?=some x69/\x62.node<p0.nodes.length/\∃ x70,v50[x62.node]?=some x70/\1<=x70/\x70<2 ^ 63/\x62.node<p0.nodes.length/\∃ x71,v50[x62.node]?=some x71/\x62.node<p0.nodes.length/\∃ x72,(v50.set x62.node (x70-1))[x62.node]?=some x72/\((eqN x72 0)=true->(v52.length+([x62.node]:(List Nat)).length)*8<=2 ^ 47/\k61 ((v49.set x62.node (max x67 (x68+1))),(v50.set x62.node (x70-1)),(v52++([x62.node]:(List Nat)))))/\((eqN x72 0)=false->k61 ((v49.set x62.node (max x67 (x68+1))),(v50.set x62.node (x70-1)),v52))))) (fun (v56,v57,v59)=>v53+1<2 ^ 63/\nx55 (v56,v57,v59,(v53+1))))/\((ltN v53 x48.length)=false->nx44 (v49,v50,v52,(v42+1)))) (v38,v39,v41,0)))/\((ltN v42 v41.length)=false->k37 (v38,v42))) ((List.replicate p0.nodes.length (0:Nat)),v7,v9,0)) (fun (v35,v36)=>((ltN v36 p0.nodes.length)=true->K ([],6))/\((ltN v36 p0.nodes.length)=false->p0.nodes.length=v35.length/\K (v35,0)))))))
theorem gF {p0:Circ}{K:((List Nat)×Nat)->Prop} (hm:bS p0 K) {h0:Heap} (hB:HasB vars h0):∃ r,K r/\CallD Tryz.prog NG 56 ⟨[aA p0]⟩ h0 ((fun (r:((List Nat)×Nat))=>Value.tuple ⟨[(ah 1 i64) (r.1),i64 (r.2)]⟩) r) h0:=by
 unfold bS at hm
 refine fw Tryz.func56 hB (enc:=(fun (r:((List Nat)×Nat))=>Value.tuple ⟨[(ah 1 i64) (r.1),i64 (r.2)]⟩)) (fun r=>PureV.tup (aj.cons (dg (fun _=>aj.cons (PureV.flat rfl) aj.nil)) (aj.cons (PureV.flat rfl) (aj.nil)))) fun O=>?_;conv=>whnf
 refine gX ?_
 refine fz ?_;refine gX ?_
 refine ca (lD hm O.has) fun r1 hm=>?_;refine gX ?_
 refine br hm (fun hm=>?_) fun hm=>?_
 ·refine gX ?_
  exact⟨([],r1),hm,O.ext,fun h2 F=>VLe.tup (LLe.cons (VLe.nil _ _) (LLe.cons (VLe.refl _ _) (LLe.nil _)))⟩
 ·refine gX ?_
  refine O.mkL (enc:=i64) 8 1 0 hm fun g2 h O hm=>?_;refine gX ?_
  refine O.mkL (enc:=i64) 8 1 0 hm fun g4 h O hm=>?_;refine gH ?_
  apply Cs;conv=>whnf
  apply Cs;refine gH ?_
  have O:=O.aG (.cells (flatC ((([]:List Nat)).map i64)) false)
  refine jn (σ:=((List Nat)×(List Nat))×Option Nat) hm 131 [1,5,6] (fun s=>s.1) (fun ((v7,v9),a8) h=>(a8=none->v9=[])/\Own vars h0 [(sC g2 (flatC ((List.replicate p0.nodes.length (0:Nat)).map i64))),(sC g4 (flatC (v7.map i64))),(a8,.cells (flatC (v9.map i64)) false)] h) (fun ((v7,v9),a8)=>[(7,(ag 1 a8 (v9.map i64)))]) (fun hm=>?_) ?_
  ·refine gX ?_
   refine lw 131 [1,5,6,29,30] (σ:=((List Nat)×(List Nat)×Nat)×Option Nat) (fun s=>s.1) (fun ((v12,v14,v15),a13) h=>(a13=none->v14=[])/\Own vars h0 [(sC g2 (flatC ((List.replicate p0.nodes.length (0:Nat)).map i64))),(sC g4 (flatC (v12.map i64))),(a13,.cells (flatC (v14.map i64)) false)] h) (fun ((v12,v14,v15),a13)=>[(7,(ag 1 a13 (v14.map i64))),(31,(i64 v15))]) (((List.replicate p0.nodes.length (0:Nat)),([]:List Nat),0),none) hm ⟨(fun _=>rfl),(O.sel [2,1,0] (by decide))⟩ ?_
   clear hm;rintro⟨⟨v12,v14,v15⟩,a13⟩ nx17 base h hm ⟨ha16,O⟩
   refine gX ?_
   refine br hm (fun hm=>?_) fun hm=>?_
   ·apply Cs;conv=>whnf
    refine jn (σ:=((List Nat)×(List Nat))×Option Nat) hm 131 [1,5,6,29,30,31] (fun s=>s.1) (fun ((v18,v20),a19) h=>(a19=none->v20=[])/\Own vars h0 [(sC g2 (flatC ((List.replicate p0.nodes.length (0:Nat)).map i64))),(sC g4 (flatC (v18.map i64))),(a19,.cells (flatC (v20.map i64)) false)] h) (fun ((v18,v20),a19)=>[(7,(ag 1 a19 (v20.map i64)))]) (fun hm=>?_) ?_
    ·refine gX ?_
     refine atF hm fun x23 hx23 hm=>?_;refine gH ?_
     refine O.new (ai (l:=[(n8 0),nS,(i64 0),(i64 0)]) rfl rfl rfl) fun g24 h O=>?_;refine gH ?_
     refine O.stC 4 (.head _) [(n8 x23.kind),((ah 1 i64) x23.ins),(i64 x23.mem),(i64 x23.bit)] fun h O=>?_;refine gH ?_
     refine jn hm 131 [1,5,6,7,8,29,30,31] (fun s=>s) (fun v26 h=>(a13=none->v14=[])/\Own vars h0 [(sC g2 (flatC ((List.replicate p0.nodes.length (0:Nat)).map i64))),(sC g4 (flatC (v26.map i64))),(a13,.cells (flatC (v14.map i64)) false)] h) (fun v26=>[]) (fun hm=>?_) ?_
     ·refine gX ?_
      refine ca (fj hm O.has) fun r29 hm=>?_;refine gX ?_
      refine br hm (fun hm=>?_) fun hm=>?_
      ·refine gX ?_
       refine ix 1 hm fun x30 hx30 hm=>?_;refine gH ?_
       refine O.stE 1 (.tail _ (.tail _ (.head _))) hx30 x23.ins.length fun h O=>?_;refine gH ?_
       exact jx (v12.set v15 x23.ins.length) hm ⟨ha16,(O.sel [1,2,3] (by decide))⟩
      ·refine gX ?_
       exact jx v12 hm ⟨ha16,(O.sel [1,2,3] (by decide))⟩
     ·clear hm;rintro v26 base h hm ⟨ha27,O⟩
      refine gX ?_
      refine ix 1 hm fun x31 hx31 hm=>?_;refine gH ?_
      refine ldE (s:=1) (i:=0) (O.at (.tail _ (.head _))) hx31 ?_;refine gX ?_
      refine br hm (fun hm=>?_) fun hm=>?_
      ·refine gX ?_
       refine fz ?_;refine gH ?_
       refine O.apL (enc:=i64) (l:=v14) (new:=([v15]:(List Nat))) 1 (.tail _ (.tail _ (.head _))) ha27 hm fun a32 h ha33 O hm=>?_;refine gH ?_
       exact jx ((v26,(v14++([v15]:(List Nat)))),a32) hm ⟨ha33,O⟩
      ·refine gX ?_
       exact jx ((v26,v14),a13) hm ⟨ha27,O⟩
    ·clear hm;rintro⟨⟨v18,v20⟩,a19⟩ base h hm ⟨ha21,O⟩
     refine gX ?_
     refine aF hm fun hm=>?_;refine gH ?_
     exact jx ((v18,v20,(v15+1)),a19) hm ⟨ha21,O⟩
   ·refine gX ?_
    exact jx ((v12,v14),a13) hm ⟨ha16,O⟩
  ·clear hm;rintro⟨⟨v7,v9⟩,a8⟩ base h hm ⟨ha10,O⟩
   refine gX ?_
   refine ca (kR hm O.has) fun r34 hm=>?_;refine gH ?_
   apply Cs;conv=>whnf
   apply Cs;refine gH ?_
   apply Cs;conv=>whnf
   apply Cs;conv=>whnf
   refine jn hm 131 [1,5] (fun s=>s) (fun (v35,v36) h=>Own vars h0 [(sC g2 (flatC (v35.map i64)))] h) (fun (v35,v36)=>[(11,(i64 v36))]) (fun hm=>?_) ?_
   ·refine gX ?_
    refine lw 131 [1,5,6,10] (σ:=((List Nat)×(List Nat)×(List Nat)×Nat)×Option Nat) (fun s=>s.1) (fun ((v38,v39,v41,v42),a40) h=>(a40=none->v41=[])/\Own vars h0 [(sC g2 (flatC (v38.map i64))),(sC g4 (flatC (v39.map i64))),(a40,.cells (flatC (v41.map i64)) false)] h) (fun ((v38,v39,v41,v42),a40)=>[(7,(ag 1 a40 (v41.map i64))),(11,(i64 v42))]) (((List.replicate p0.nodes.length (0:Nat)),v7,v9,0),a8) hm ⟨ha10,O⟩ ?_
    clear hm;rintro⟨⟨v38,v39,v41,v42⟩,a40⟩ nx44 base h hm ⟨ha43,O⟩
    refine gX ?_
    refine br hm (fun hm=>?_) fun hm=>?_
    ·refine gX ?_
     obtain⟨x45,hx45,hm⟩:=hm
     have h9:=hm
     obtain⟨g46,rfl⟩:=eB ha43 hx45
     replace hm:=h9
     refine cQ (s:=1) (j:=v42) rfl rfl rfl rfl (by rw[List.length_map];exact ak hx45) ?_;refine gH ?_
     refine ldE (s:=1) (i:=0) (O.at (.tail _ (.tail _ (.head _)))) hx45 ?_;refine gX ?_
     refine aF hm fun hm=>?_;refine gX ?_
     refine atF hm fun x47 hx47 hm=>?_;refine gX ?_
     refine br hm (fun hm=>?_) fun hm=>?_
     ·refine gX ?_
      exact jx ((v38,v39,v41,(v42+1)),(some g46)) hm ⟨dq,O⟩
     ·refine gX ?_
      refine atF hm fun x48 hx48 hm=>?_;refine gX ?_
      refine lw 131 [1,5,6,10,11,12,76,77] (σ:=((List Nat)×(List Nat)×(List Nat)×Nat)×Option Nat) (fun s=>s.1) (fun ((v49,v50,v52,v53),a51) h=>(a51=none->v52=[])/\Own vars h0 [(sC g2 (flatC (v49.map i64))),(sC g4 (flatC (v50.map i64))),(a51,.cells (flatC (v52.map i64)) false)] h) (fun ((v49,v50,v52,v53),a51)=>[(7,(ag 1 a51 (v52.map i64))),(78,(i64 v53))]) ((v38,v39,v41,0),(some g46)) hm ⟨dq,O⟩ ?_
      clear hm;rintro⟨⟨v49,v50,v52,v53⟩,a51⟩ nx55 base h hm ⟨ha54,O⟩
      refine gX ?_
      refine br hm (fun hm=>?_) fun hm=>?_
      ·apply Cs;conv=>whnf
       refine jn (σ:=((List Nat)×(List Nat)×(List Nat))×Option Nat) hm 131 [1,5,6,10,11,12,76,77,78] (fun s=>s.1) (fun ((v56,v57,v59),a58) h=>(a58=none->v59=[])/\Own vars h0 [(sC g2 (flatC (v56.map i64))),(sC g4 (flatC (v57.map i64))),(a58,.cells (flatC (v59.map i64)) false)] h) (fun ((v56,v57,v59),a58)=>[(7,(ag 1 a58 (v59.map i64)))]) (fun hm=>?_) ?_
       ·refine gX ?_
        refine atF hm fun x62 hx62 hm=>?_;refine gH ?_
        refine O.new (ai (l:=[(i64 0),(i64 0)]) rfl rfl rfl) fun g63 h O=>?_;refine gH ?_
        refine O.stC 2 (.head _) [(i64 x62.node),(i64 x62.pin)] fun h O=>?_;refine gX ?_
        refine atF hm fun x65 hx65 hm=>?_;refine gH ?_
        refine ca (fj hm O.has) fun r66 hm=>?_;refine gX ?_
        refine br hm (fun hm=>?_) fun hm=>?_
        ·refine gX ?_
         exact jx ((v49,v50,v52),a51) hm ⟨ha54,(O.sel [1,2,3] (by decide))⟩
        ·refine gX ?_
         refine ix 1 hm fun x67 hx67 hm=>?_;refine gH ?_
         refine⟨_,ae rfl (O.at (.tail _ (.head _))) rfl (bd (enc:=i64) (s:=1) (k:=0) (fun _=>rfl) hx67 rfl),?_⟩;refine gH ?_
         refine ix 1 hm fun x68 hx68 hm=>?_;refine gH ?_
         refine⟨_,ae rfl (O.at (.tail _ (.head _))) rfl (bd (enc:=i64) (s:=1) (k:=0) (fun _=>rfl) hx68 rfl),?_⟩;refine gH ?_
         refine aF hm fun hm=>?_;refine gH ?_
         refine⟨_,CW (a:=x67) (b:=(x68+1)) rfl rfl,?_⟩;refine gH ?_
         refine ix 1 hm fun x69 hx69 hm=>?_;refine gH ?_
         refine O.stE 1 (.tail _ (.head _)) hx69 (max x67 (x68+1)) fun h O=>?_;refine gH ?_
         refine gX ?_
         refine ix 1 hm fun x70 hx70 hm=>?_;refine gH ?_
         refine ldE (s:=1) (i:=0) (O.at (.tail _ (.tail _ (.head _)))) hx70 ?_;refine gH ?_
         refine rZ hm fun hm=>?_;refine gH ?_
         refine ix 1 hm fun x71 hx71 hm=>?_;refine gH ?_
         refine O.stE 1 (.tail _ (.tail _ (.head _))) hx71 (x70-1) fun h O=>?_;refine gX ?_
         refine ix 1 hm fun x72 hx72 hm=>?_;refine gH ?_
         refine ldE (s:=1) (i:=0) (O.at (.tail _ (.tail _ (.head _)))) hx72 ?_;refine gX ?_
         refine br hm (fun hm=>?_) fun hm=>?_
         ·refine gX ?_
          refine fz ?_;refine gH ?_
          refine O.apL (enc:=i64) (l:=v52) (new:=([x62.node]:(List Nat))) 1 (.tail _ (.tail _ (.tail _ (.head _)))) ha54 hm fun a73 h ha74 O hm=>?_;refine gH ?_
          exact jx (((v49.set x62.node (max x67 (x68+1))),(v50.set x62.node (x70-1)),(v52++([x62.node]:(List Nat)))),a73) hm ⟨ha74,(O.sel [1,2,3] (by decide))⟩
         ·refine gX ?_
          exact jx (((v49.set x62.node (max x67 (x68+1))),(v50.set x62.node (x70-1)),v52),a51) hm ⟨ha54,(O.sel [1,2,3] (by decide))⟩
       ·clear hm;rintro⟨⟨v56,v57,v59⟩,a58⟩ base h hm ⟨ha60,O⟩
        refine gX ?_
        refine aF hm fun hm=>?_;refine gH ?_
        exact jx ((v56,v57,v59,(v53+1)),a58) hm ⟨ha60,O⟩
      ·refine gX ?_
       exact jx ((v49,v50,v52,(v42+1)),a51) hm ⟨ha54,O⟩
    ·refine gX ?_
     exact jx (v38,v42) hm (O.sel [0] (by decide))
   ·clear hm;rintro⟨v35,v36⟩ base h hm O
    refine gX ?_
    refine br hm (fun hm=>?_) fun hm=>?_
    ·refine gX ?_
     exact⟨([],6),hm,O.ext,fun h2 F=>VLe.tup (LLe.cons (VLe.nil _ _) (LLe.cons (VLe.refl _ _) (LLe.nil _)))⟩
    ·refine gX ?_
     obtain⟨hn75,hm⟩:=hm
     exact⟨(v35,0),hm,O.ext,fun h2 F=>VLe.tup (LLe.cons (O.fY F (Nat.le_refl _) (.head _) (fun _=>rfl) hn75) (LLe.cons (VLe.refl _ _) (LLe.nil _)))⟩
def bZ (p0:Circ) (K:Nat->Prop):Prop :=
 bS p0 (fun r1=>K r1.2)
theorem gT {p0:Circ}{K:Nat->Prop} (hm:bZ p0 K) {h0:Heap} (hB:HasB vars h0):∃ r,K r/\CallD Tryz.prog NG 96 ⟨[aA p0]⟩ h0 (i64 r) h0:=by
 unfold bZ at hm
 refine fw Tryz.func96 hB (enc:=i64) (fun r=>PureV.flat rfl) fun O=>?_;conv=>whnf
 refine gX ?_
 refine fz ?_;refine gX ?_
 refine ca (gF hm O.has) fun r1 hm=>?_;refine gX ?_
 exact fe hm O
def fL (p0:Nat) (K:Bool->Prop):Prop :=
 K (neN p0 p0)
theorem kX {p0:Nat}{K:Bool->Prop} (hm:fL p0 K) {h0:Heap} (hB:HasB vars h0):∃ r,K r/\CallD Tryz.prog NG 100 ⟨[i64 p0]⟩ h0 (Value.bool r) h0:=by
 unfold fL at hm
 refine fw Tryz.func100 hB (enc:=Value.bool) (fun r=>PureV.flat rfl) fun O=>?_;conv=>whnf
 refine gX ?_
 exact fe hm O
def dL (p0:Nat) (p1:Nat) (K:Int->Prop):Prop :=
 fL p0 (fun r1=>fL p1 (fun r2=>(r1=true->(r2=true->K (Int.ofNat 0))/\(r2=false->K (Int.negSucc 0)))/\(r1=false->(r2=true->K (Int.ofNat 1))/\(r2=false->((ltN p0 p1)=true->K (Int.negSucc 0))/\((ltN p0 p1)=false->((ltN p1 p0)=true->K (Int.ofNat 1))/\((ltN p1 p0)=false->K (Int.ofNat 0)))))))
theorem oq {p0:Nat}{p1:Nat}{K:Int->Prop} (hm:dL p0 p1 K) {h0:Heap} (hB:HasB vars h0):∃ r,K r/\CallD Tryz.prog NG 59 ⟨[i64 p0,i64 p1]⟩ h0 (z64 r) h0:=by
 unfold dL at hm
 refine fw Tryz.func59 hB (enc:=z64) (fun r=>PureV.flat rfl) fun O=>?_;conv=>whnf
 refine gX ?_
 refine ca (kX hm O.has) fun r1 hm=>?_;refine gX ?_
 refine ca (kX hm O.has) fun r2 hm=>?_;refine gX ?_
 refine br hm (fun hm=>?_) fun hm=>?_
 ·refine gX ?_
  refine br hm (fun hm=>?_) fun hm=>?_
  ·refine gX ?_
   exact fe hm O
  ·refine gX ?_
   exact fe hm O
 ·refine gX ?_
  refine br hm (fun hm=>?_) fun hm=>?_
  ·refine gX ?_
   exact fe hm O
  ·refine gX ?_
   refine br hm (fun hm=>?_) fun hm=>?_
   ·refine gX ?_
    exact fe hm O
   ·refine gX ?_
    refine br hm (fun hm=>?_) fun hm=>?_
    ·refine gX ?_
     exact fe hm O
    ·refine gX ?_
     exact fe hm O
def fq (data:List Nat) (lev:List Nat) (nd:Nat) (a:Nat) (b:Nat) (K:(List Nat)->Prop):Prop :=
 a+1<2 ^ 63/\av (S:=((List Nat)×Nat)) (fun (v1,v2) nx3=>((ltN v2 b)=true->an (α:=(List Nat)) (fun k5=>av (S:=((List Nat)×Nat)) (fun (v6,v7) nx8=>an (α:=Bool) (fun k10=>((ltN a v7)=true->v7<nd/\∃ x11,v6[v7]?=some x11/\1<=v7/\v7<2 ^ 63/\(v7-1)<nd/\∃ x12,v6[(v7-1)]?=some x12/\∃ x13,lev[x11]?=some x13/\∃ x14,lev[x12]?=some x14/\dL x13 x14 (fun r15=>k10 (ltI r15 (Int.ofNat 0))))/\((ltN a v7)=false->k10 false)) (fun v9=>(v9=true->1<=v7/\v7<2 ^ 63/\1<=v7/\v7<2 ^ 63/\(v7-1)<nd/\∃ x16,v6[(v7-1)]?=some x16/\v7<nd/\∃ x17,v6[v7]?=some x17/\v7<nd/\∃ x18,v6[v7]?=some x18/\(v7-1)<nd/\∃ x19,(v6.set v7 x16)[(v7-1)]?=some x19/\1<=v7/\v7<2 ^ 63/\nx8 (((v6.set v7 x16).set (v7-1) x17),(v7-1)))/\(v9=false->k5 v6))) (v1,v2)) (fun v4=>v2+1<2 ^ 63/\nx3 (v4,(v2+1))))/\((ltN v2 b)=false->K v1)) (data,(a+1))
theorem lN {data:List Nat}{lev:List Nat}{nd:Nat}{a:Nat}{b:Nat}{gd:Nat}{gl:Nat}{L:List Slot}{K:(List Nat)->Prop} (hm:fq data lev nd a b K) {h0 h:Heap}  (O:Own vars h0 (((some gd),.cells (flatC (data.map i64)) false)::((some gl),.cells [((ah 1 i64) lev)] false)::L) h):∃ v h',CallD Tryz.prog NG 130 ⟨[(.slice (some ⟨gd,0,none⟩) nd nd),(i64 a),(i64 b),(.func (.func 58) ⟨[]⟩ ⟨[(.pointer (some ⟨gl,0,none⟩))]⟩)]⟩ h v h'/\∃ (w0:(List Nat)),K w0/\v=.tuple ⟨[]⟩/\Own vars h0 (((some gd),.cells (flatC (w0.map i64)) false)::((some gl),.cells [((ah 1 i64) lev)] false)::L) h'/\True:=by
 unfold fq at hm
 refine fg Tryz.func130 (Q:=fun v h'=>∃ (w0:(List Nat)),K w0/\v=.tuple ⟨[]⟩/\Own vars h0 (((some gd),.cells (flatC (w0.map i64)) false)::((some gl),.cells [((ah 1 i64) lev)] false)::L) h'/\True) ?_;conv=>whnf
 refine gX ?_
 refine aF hm fun hm=>?_;refine gX ?_
 refine lw 53 [0,1,2,3] (σ:=((List Nat)×Nat)) (fun s=>s) (fun (v1,v2) h=>Own vars h0 (((some gd),.cells (flatC (v1.map i64)) false)::((some gl),.cells [((ah 1 i64) lev)] false)::L) h) (fun (v1,v2)=>[(8,(i64 v2))]) (data,(a+1)) hm O ?_
 clear hm;rintro⟨v1,v2⟩ nx3 base h hm O
 refine gX ?_
 refine br hm (fun hm=>?_) fun hm=>?_
 ·apply Cs;conv=>whnf
  refine jn hm 53 [0,1,2,3,8] (fun s=>s) (fun v4 h=>Own vars h0 (((some gd),.cells (flatC (v4.map i64)) false)::((some gl),.cells [((ah 1 i64) lev)] false)::L) h) (fun v4=>[]) (fun hm=>?_) ?_
  ·refine gX ?_
   refine lw 53 [0,1,2,3,8] (σ:=((List Nat)×Nat)) (fun s=>s) (fun (v6,v7) h=>Own vars h0 (((some gd),.cells (flatC (v6.map i64)) false)::((some gl),.cells [((ah 1 i64) lev)] false)::L) h) (fun (v6,v7)=>[(9,(i64 v7))]) (v1,v2) hm O ?_
   clear hm;rintro⟨v6,v7⟩ nx8 base h hm O
   conv=>whnf
   apply Cs;conv=>whnf
   refine jn hm 53 [0,1,2,3,8,9] (fun s=>s) (fun v9 h=>Own vars h0 (((some gd),.cells (flatC (v6.map i64)) false)::((some gl),.cells [((ah 1 i64) lev)] false)::L) h) (fun v9=>[(34,(.bool v9))]) (fun hm=>?_) ?_
   ·refine gX ?_
    refine br hm (fun hm=>?_) fun hm=>?_
    ·refine gX ?_
     refine ix 1 hm fun x11 hx11 hm=>?_;refine gH ?_
     refine⟨_,ae rfl (O.at (.head _)) rfl (bd (enc:=i64) (s:=1) (k:=0) (fun _=>rfl) hx11 rfl),?_⟩;refine gH ?_
     refine rZ hm fun hm=>?_;refine gH ?_
     refine ix 1 hm fun x12 hx12 hm=>?_;refine gH ?_
     refine⟨_,ae rfl (O.at (.head _)) rfl (bd (enc:=i64) (s:=1) (k:=0) (fun _=>rfl) hx12 rfl),?_⟩;refine gH ?_
     refine fg Tryz.func58 ?_;refine gX ?_
     first|refine⟨.inr (.inr (ae rfl (O.at (.tail _ (.head _))) rfl rfl)),?_⟩|refine⟨.inr (.inl (by kernel_rfl)),?_⟩
     refine gX ?_
     refine atF hm fun x13 hx13 hm=>?_;refine gH ?_
     first|refine⟨.inr (.inr (ae rfl (O.at (.tail _ (.head _))) rfl rfl)),?_⟩|refine⟨.inr (.inl (by kernel_rfl)),?_⟩
     refine gX ?_
     refine atF hm fun x14 hx14 hm=>?_;refine gH ?_
     refine ca (oq hm O.has) fun r15 hm=>?_;refine gH ?_
     refine⟨.inl (Ext.refl _),?_⟩;refine gH ?_
     refine gX ?_
     refine⟨.inl (Ext.refl _),?_⟩;refine gH ?_
     exact jx (ltI r15 (Int.ofNat 0)) hm O
    ·refine gX ?_
     exact jx false hm O
   ·clear hm;rintro v9 base h hm O
    refine gX ?_
    refine br hm (fun hm=>?_) fun hm=>?_
    ·refine gX ?_
     refine rZ hm fun hm=>?_;refine gH ?_
     refine rZ hm fun hm=>?_;refine gH ?_
     refine ix 1 hm fun x16 hx16 hm=>?_;refine gH ?_
     refine⟨_,ae rfl (O.at (.head _)) rfl (bd (enc:=i64) (s:=1) (k:=0) (fun _=>rfl) hx16 rfl),?_⟩;refine gH ?_
     refine ix 1 hm fun x17 hx17 hm=>?_;refine gH ?_
     refine⟨_,ae rfl (O.at (.head _)) rfl (bd (enc:=i64) (s:=1) (k:=0) (fun _=>rfl) hx17 rfl),?_⟩;refine gH ?_
     refine ix 1 hm fun x18 hx18 hm=>?_;refine gH ?_
     refine O.stE 1 (.head _) hx18 x16 fun h O=>?_;refine gH ?_
     refine ix 1 hm fun x19 hx19 hm=>?_;refine gH ?_
     refine O.stE 1 (.head _) hx19 x17 fun h O=>?_;refine gH ?_
     refine gX ?_
     refine rZ hm fun hm=>?_;refine gH ?_
     exact jx (((v6.set v7 x16).set (v7-1) x17),(v7-1)) hm O
    ·refine gX ?_
     exact jx v6 hm O
  ·clear hm;rintro v4 base h hm O
   refine gX ?_
   refine aF hm fun hm=>?_;refine gH ?_
   exact jx (v4,(v2+1)) hm O
 ·refine gX ?_
  exact⟨v1,hm,rfl,O,trivial⟩
def dV (data:List Nat) (lev:List Nat) (nd:Nat) (n:Nat) (K:(List Nat)->Prop):Prop :=
 an (α:=((List Nat)×Nat)) (fun k3=>av (S:=((List Nat)×Nat×Nat)) (fun (v4,v5,v6) nx7=>((!ltN n v6)=true->fq v4 lev nd v5 v6 (fun x8=>v6+20<2 ^ 63/\nx7 (x8,v6,(v6+20))))/\((!ltN n v6)=false->k3 (v4,v5))) (data,0,20)) (fun (v1,v2)=>fq v1 lev nd v2 n (fun x9=>av (S:=Nat) (fun v10 nx11=>((ltN v10 n)=true->2*v10<2 ^ 63/\an (α:=Unit) (fun k12=>av (S:=Unit) (fun _ _nx13=>((!ltN n (2*v10))=true->0+v10<2 ^ 63/\False)/\((!ltN n (2*v10))=false->k12 ())) ()) (fun _=>an (α:=Unit) (fun k14=>0+v10<2 ^ 63/\((ltN (0+v10) n)=true->False)/\((ltN (0+v10) n)=false->k14 ())) (fun _=>v10*2<2 ^ 63/\nx11 (v10*2))))/\((ltN v10 n)=false->K x9)) 20))
theorem ox {data:List Nat}{lev:List Nat}{nd:Nat}{n:Nat}{gd:Nat}{gl:Nat}{L:List Slot}{K:(List Nat)->Prop} (hm:dV data lev nd n K) {h0 h:Heap}  (O:Own vars h0 (((some gd),.cells (flatC (data.map i64)) false)::((some gl),.cells [((ah 1 i64) lev)] false)::L) h):∃ v h',CallD Tryz.prog NG 99 ⟨[(.slice (some ⟨gd,0,none⟩) nd nd),(i64 n),(.func (.func 58) ⟨[]⟩ ⟨[(.pointer (some ⟨gl,0,none⟩))]⟩)]⟩ h v h'/\∃ (w0:(List Nat)),K w0/\v=.tuple ⟨[]⟩/\Own vars h0 (((some gd),.cells (flatC (w0.map i64)) false)::((some gl),.cells [((ah 1 i64) lev)] false)::L) h'/\True:=by
 unfold dV at hm
 refine fg Tryz.func99 (Q:=fun v h'=>∃ (w0:(List Nat)),K w0/\v=.tuple ⟨[]⟩/\Own vars h0 (((some gd),.cells (flatC (w0.map i64)) false)::((some gl),.cells [((ah 1 i64) lev)] false)::L) h'/\True) ?_;conv=>whnf
 apply Cs;conv=>whnf
 apply Cs;refine gH ?_
 apply Cs;conv=>whnf
 apply Cs;refine gH ?_
 refine jn hm 63 [0,1,2,6] (fun s=>s) (fun (v1,v2) h=>Own vars h0 (((some gd),.cells (flatC (v1.map i64)) false)::((some gl),.cells [((ah 1 i64) lev)] false)::L) h) (fun (v1,v2)=>[(7,(i64 v2))]) (fun hm=>?_) ?_
 ·refine gX ?_
  refine lw 63 [0,1,2,6] (σ:=((List Nat)×Nat×Nat)) (fun s=>s) (fun (v4,v5,v6) h=>Own vars h0 (((some gd),.cells (flatC (v4.map i64)) false)::((some gl),.cells [((ah 1 i64) lev)] false)::L) h) (fun (v4,v5,v6)=>[(7,(i64 v5)),(8,(i64 v6))]) (data,0,20) hm O ?_
  clear hm;rintro⟨v4,v5,v6⟩ nx7 base h hm O
  refine gX ?_
  refine br hm (fun hm=>?_) fun hm=>?_
  ·refine gX ?_
   obtain⟨_,h,hcall,x8,hm,rfl,O,_⟩:=lN hm  O
   refine⟨_,_,hcall,?_⟩;refine gX ?_
   refine aF hm fun hm=>?_;refine gH ?_
   exact jx (x8,v6,(v6+20)) hm O
  ·refine gX ?_
   exact jx (v4,v5) hm O
 ·clear hm;rintro⟨v1,v2⟩ base h hm O
  refine gX ?_
  obtain⟨_,h,hcall,x9,hm,rfl,O,_⟩:=lN hm  O
  refine⟨_,_,hcall,?_⟩;refine gX ?_
  refine lw 63 [0,1,2] (σ:=Nat) (fun s=>s) (fun v10 h=>Own vars h0 (((some gd),.cells (flatC (x9.map i64)) false)::((some gl),.cells [((ah 1 i64) lev)] false)::L) h) (fun v10=>[(6,(i64 v10))]) 20 hm O ?_
  clear hm;rintro v10 nx11 base h hm O
  refine gX ?_
  refine br hm (fun hm=>?_) fun hm=>?_
  ·refine gX ?_
   refine A0 hm fun hm=>?_;refine gH ?_
   refine jn hm 63 [0,1,2,6] (fun s=>s) (fun _ h=>Own vars h0 (((some gd),.cells (flatC (x9.map i64)) false)::((some gl),.cells [((ah 1 i64) lev)] false)::L) h) (fun _=>[(7,(i64 0))]) (fun hm=>?_) ?_
   ·refine gX ?_
    refine lw 63 [0,1,2,6] (σ:=Unit) (fun s=>s) (fun _ h=>Own vars h0 (((some gd),.cells (flatC (x9.map i64)) false)::((some gl),.cells [((ah 1 i64) lev)] false)::L) h) (fun _=>[(7,(i64 0)),(8,(i64 (2*v10)))]) () hm O ?_
    clear hm;rintro _ nx13 base h hm O
    refine gX ?_
    refine br hm (fun hm=>?_) fun hm=>?_
    ·refine gX ?_
     refine aF hm fun hm=>?_;refine gH ?_
     exact False.elim hm
    ·refine gX ?_
     exact jx () hm O
   ·clear hm;rintro _ base h hm O
    conv=>whnf
    refine jn hm 63 [0,1,2,6] (fun s=>s) (fun _ h=>Own vars h0 (((some gd),.cells (flatC (x9.map i64)) false)::((some gl),.cells [((ah 1 i64) lev)] false)::L) h) (fun _=>[]) (fun hm=>?_) ?_
    ·refine gX ?_
     refine aF hm fun hm=>?_;refine gX ?_
     refine br hm (fun hm=>?_) fun hm=>?_
     ·refine gX ?_
      exact False.elim hm
     ·refine gX ?_
      exact jx () hm O
    ·clear hm;rintro _ base h hm O
     refine gX ?_
     refine A0 hm fun hm=>?_;refine gH ?_
     exact jx (v10*2) hm O
  ·refine gX ?_
   exact⟨x9,hm,rfl,O,trivial⟩
def jd (data:List Nat) (lev:List Nat) (nd:Nat) (K:(List Nat)->Prop):Prop :=
 dV data lev nd nd (fun x1=>K x1)
theorem rR {data:List Nat}{lev:List Nat}{nd:Nat}{gd:Nat}{gl:Nat}{L:List Slot}{K:(List Nat)->Prop} (hm:jd data lev nd K) {h0 h:Heap}  (O:Own vars h0 (((some gd),.cells (flatC (data.map i64)) false)::((some gl),.cells [((ah 1 i64) lev)] false)::L) h):∃ v h',CallD Tryz.prog NG 57 ⟨[(.slice (some ⟨gd,0,none⟩) nd nd),(.func (.func 58) ⟨[]⟩ ⟨[(.pointer (some ⟨gl,0,none⟩))]⟩)]⟩ h v h'/\∃ (w0:(List Nat)),K w0/\v=.tuple ⟨[]⟩/\Own vars h0 (((some gd),.cells (flatC (w0.map i64)) false)::((some gl),.cells [((ah 1 i64) lev)] false)::L) h'/\True:=by
 unfold jd at hm
 refine fg Tryz.func57 (Q:=fun v h'=>∃ (w0:(List Nat)),K w0/\v=.tuple ⟨[]⟩/\Own vars h0 (((some gd),.cells (flatC (w0.map i64)) false)::((some gl),.cells [((ah 1 i64) lev)] false)::L) h'/\True) ?_;conv=>whnf
 refine gX ?_
 obtain⟨_,h,hcall,x1,hm,rfl,O,_⟩:=ox hm  O
 refine⟨_,_,hcall,?_⟩;refine gH ?_
 exact⟨x1,hm,rfl,O,trivial⟩
def aV (p0:Circ) (K:((List Nat)×Nat)->Prop):Prop :=
 bS p0 (fun r1=>((neN r1.2 0)=true->K ([],r1.2))/\((neN r1.2 0)=false->8*p0.nodes.length<=2 ^ 48/\p0.nodes.length<2 ^ 63/\an (α:=(List Nat)) (fun k7=>av (S:=((List Nat)×Nat)) (fun (v8,v9) nx10=>((ltN v9 p0.nodes.length)=true->v9<p0.nodes.length/\∃ x11,v8[v9]?=some x11/\v9+1<2 ^ 63/\nx10 ((v8.set v9 v9),(v9+1)))/\((ltN v9 p0.nodes.length)=false->k7 v8)) ((List.replicate p0.nodes.length (0:Nat)),0)) (fun v6=>jd v6 r1.1 p0.nodes.length (fun x12=>p0.nodes.length=x12.length/\K (x12,0)))))
theorem cd {p0:Circ}{K:((List Nat)×Nat)->Prop} (hm:aV p0 K) {h0:Heap} (hB:HasB vars h0):∃ r,K r/\CallD Tryz.prog NG 34 ⟨[aA p0]⟩ h0 ((fun (r:((List Nat)×Nat))=>Value.tuple ⟨[(ah 1 i64) (r.1),i64 (r.2)]⟩) r) h0:=by
 unfold aV at hm
 refine fw Tryz.func34 hB (enc:=(fun (r:((List Nat)×Nat))=>Value.tuple ⟨[(ah 1 i64) (r.1),i64 (r.2)]⟩)) (fun r=>PureV.tup (aj.cons (dg (fun _=>aj.cons (PureV.flat rfl) aj.nil)) (aj.cons (PureV.flat rfl) (aj.nil)))) fun O=>?_;conv=>whnf
 refine gX ?_
 refine fz ?_;refine gX ?_
 refine ca (gF hm O.has) fun r1 hm=>?_;refine gH ?_
 refine O.new (ai (l:=[nS]) rfl rfl rfl) fun g2 h O=>?_;refine gH ?_
 refine O.stC 1 (.head _) [((ah 1 i64) r1.1)] fun h O=>?_;refine gX ?_
 refine br hm (fun hm=>?_) fun hm=>?_
 ·refine gX ?_
  exact⟨([],r1.2),hm,O.ext,fun h2 F=>VLe.tup (LLe.cons (VLe.nil _ _) (LLe.cons (VLe.refl _ _) (LLe.nil _)))⟩
 ·refine gX ?_
  refine O.mkL (enc:=i64) 8 1 0 hm fun g4 h O hm=>?_;refine gH ?_
  refine jn hm 34 [4,6] (fun s=>s) (fun v6 h=>Own vars h0 [(sC g2 [((ah 1 i64) r1.1)]),(sC g4 (flatC (v6.map i64)))] h) (fun v6=>[]) (fun hm=>?_) ?_
  ·refine gX ?_
   refine lw 34 [4,6,21] (σ:=((List Nat)×Nat)) (fun s=>s) (fun (v8,v9) h=>Own vars h0 [(sC g2 [((ah 1 i64) r1.1)]),(sC g4 (flatC (v8.map i64)))] h) (fun (v8,v9)=>[(22,(i64 v9))]) ((List.replicate p0.nodes.length (0:Nat)),0) hm (O.sel [1,0] (by decide)) ?_
   clear hm;rintro⟨v8,v9⟩ nx10 base h hm O
   refine gX ?_
   refine br hm (fun hm=>?_) fun hm=>?_
   ·refine gX ?_
    refine ix 1 hm fun x11 hx11 hm=>?_;refine gH ?_
    refine O.stE 1 (.tail _ (.head _)) hx11 v9 fun h O=>?_;refine gX ?_
    refine aF hm fun hm=>?_;refine gH ?_
    exact jx ((v8.set v9 v9),(v9+1)) hm O
   ·refine gX ?_
    exact jx v8 hm O
  ·clear hm;rintro v6 base h hm O
   refine gX ?_
   obtain⟨_,h,hcall,x12,hm,rfl,O,_⟩:=rR hm  (O.sel [1,0] (by decide))
   refine⟨_,_,hcall,?_⟩;refine gX ?_
   obtain⟨hn13,hm⟩:=hm
   exact⟨(x12,0),hm,O.ext,fun h2 F=>VLe.tup (LLe.cons (O.fY F (Nat.le_refl _) (.head _) (fun _=>rfl) hn13) (LLe.cons (VLe.refl _ _) (LLe.nil _)))⟩
theorem aI {a b:Nat}:ltN a b=true↔a<b:=by rw[om];simp
theorem aU {a b:Nat}:ltN a b=false↔b<=a:=by rw[om];simp
theorem bp {a b:Nat}:eqN a b=true↔a=b:=by rw[sZ];simp
theorem bN {a b:Nat}:eqN a b=false ↔ ¬ a=b:=by rw[sZ];simp
theorem eQ {a b:Nat}:neN a b=true ↔ ¬ a=b:=by rw[tO];simp
theorem qX {a b:Nat}:neN a b=false↔a=b:=by rw[tO];simp
theorem ko {a b:Nat}:(!ltN a b)=true↔b<=a:=by rw[om];simp
theorem lY {a b:Nat}:(!ltN a b)=false↔a<b:=by rw[om];simp
theorem dE {α:Type}{first:(α->Prop)->Prop}{rest:α->Prop} (h:first rest):an first rest:=h
theorem au {α:Type}{l:List α}{i:Nat} (h:i<l.length):∃ x,l[i]?=some x:=⟨l[i],List.getElem?_eq_getElem h⟩
theorem gG {α:Type}{l:List α}{body:(Unit->Prop)->Nat->(Nat->Prop)->Prop}{rest:Unit->Prop}
  (step:∀ k i nx x,l[i]?=some x->i+1<=l.length->nx (i+1)->body k i nx)
  (fin:∀ k i nx,l.length<=i->k ()->body k i nx) (h:rest ()):an (fun k=>av (fun i nx=>body k i nx) 0) rest:=by
 refine ax (fun i=>i<=l.length) (fun i=>l.length-i) (fun _=>True) ?_ (Nat.zero_le _) (fun _ _=>h)
 intro k i nx hi hn hk
 by_cases c:i<l.length
 ·obtain⟨x,hx⟩:=au c
  exact step k i nx x hx c (hn (i+1) c (by omega))
 ·exact fin k i nx (by omega) (hk () trivial)
def vo (v:Nat):Nat:=if v<=1 then 1-v else 2
def nI (low high:Nat):List Nat->Nat->Nat
 |[],out=>out
 |v::r,out=>if v=low then low else nI low high r (if v=high then out else 2)
def qw:List Nat->Nat->Nat
 |[],o=>o
 |v::r,o=>if v<=1 then qw r (o ^^^ v) else 2
def AE (s a b:Nat):Nat:=if s=0 then min a 2 else if s=1 then min b 2 else if a=b then min a 2 else 2
def uI (k:Nat) (l:List Nat):Nat :=
 if k=1 then 0 else if k=2 then 1 else if k=3 then min (l.getD 0 0) 2 else if k=4 then vo (l.getD 0 0)
 else if k=5 then nI 0 1 l 1 else if k=6 then vo (nI 0 1 l 1) else if k=7 then nI 1 0 l 0 else if k=8 then vo (nI 1 0 l 0)
 else if k=9 then qw l 0 else if k=10 then vo (qw l 0) else if k=11 then AE (l.getD 0 0) (l.getD 1 0) (l.getD 2 0) else 2
theorem uo {p:Nat}{K:Bool->Prop} (h:K (decide (p<=1))):cY p K:=by
 unfold cY
 have:(!ltN 1 p)=decide (p<=1):=by
  rw[Bool.eq_iff_iff,ko];simp
 rw[this];exact h
theorem tA {p:Nat}{K:Nat->Prop} (h:K (vo p)):cM p K:=by
 unfold cM
 refine uo ?_
 unfold vo at h
 by_cases c:p<=1
 ·rw[if_pos c] at h
  exact⟨fun _=>⟨c,by decide,h⟩,fun hc=>absurd c (of_decide_eq_false hc)⟩
 ·rw[if_neg c] at h
  exact⟨fun hc=>absurd (of_decide_eq_true hc) c,fun _=>h⟩
theorem jy {α:Type}{l:List α}{i:Nat}{x:α} (h:l[i]?=some x):l.drop i=x::l.drop (i+1):=by
 obtain⟨h1,rfl⟩:=List.getElem?_eq_some_iff.1 h
 exact List.drop_eq_getElem_cons h1
theorem jM {l:List Nat}{low high:Nat}{K:Nat->Prop} (hl:l.length<2 ^ 60) (h:K (nI low high l high)):ck l low high K:=by
 unfold ck
 refine ax (fun s=>s.2<=l.length/\nI low high (l.drop s.2) s.1=nI low high l high) (fun s=>l.length-s.2) (fun a=>a=nI low high l high) ?_ ⟨Nat.zero_le _,rfl⟩ (fun a e=>by rw[e];exact h)
 rintro k ⟨o,i⟩ nx ⟨hi,hI⟩ hn hk
 refine⟨fun hc=>?_,fun hc=>?_⟩
 ·have hc:=aI.1 hc
  obtain⟨x,hx⟩:=au hc
  simp only[jy hx,nI] at hI
  have next:∀ o',nI low high (l.drop (i+1)) o'=nI low high l high->i+1<2 ^ 63/\nx (o',i+1):=fun o' e=>⟨by omega,hn (o',i+1) ⟨hc,e⟩ (by simp only;omega)⟩
  refine⟨x,hx,fun h1=>?_,fun h1=>⟨fun h2=>?_,fun h2=>?_⟩⟩
  ·have h1:=bp.1 h1
   rw[if_pos h1] at hI
   rw[<- hI] at h
   exact h
  ·rw[if_neg (bN.1 h1),if_neg (eQ.1 h2)] at hI
   exact next 2 hI
  ·rw[if_neg (bN.1 h1),if_pos (qX.1 h2)] at hI
   exact next o hI
 ·have hc:=aU.1 hc
  rw[List.drop_eq_nil_of_le hc] at hI
  exact hk o hI
theorem An {l:List Nat}{K:Nat->Prop} (hl:l.length<2 ^ 60) (h:K (qw l 0)):eo l K:=by
 unfold eo
 refine ax (fun s=>s.2<=l.length/\s.1<=1/\qw (l.drop s.2) s.1=qw l 0) (fun s=>l.length-s.2) (fun a=>a=qw l 0) ?_ ⟨Nat.zero_le _,by decide,rfl⟩ (fun a e=>by rw[e];exact h)
 rintro k ⟨o,i⟩ nx ⟨hi,ho,hI⟩ hn hk
 refine⟨fun hc=>?_,fun hc=>?_⟩
 ·have hc:=aI.1 hc
  obtain⟨x,hx⟩:=au hc
  simp only[jy hx,qw] at hI
  refine⟨x,hx,uo ⟨fun h1=>?_,fun h1=>?_⟩⟩
  ·have h1:¬ x<=1:=by simpa using h1
   rw[if_neg h1] at hI
   rw[<- hI] at h;exact h
  ·have h1:x<=1:=by simpa using h1
   rw[if_pos h1] at hI
   simp only at ho
   refine⟨by omega,by omega,by omega,hn (o ^^^ x,i+1) ⟨hc,?_,hI⟩ (by simp only;omega)⟩
   have q1:o=0\/o=1:=by omega
   have q2:x=0\/x=1:=by omega
   rcases q1 with rfl|rfl <;> rcases q2 with rfl|rfl <;> simp
 ·have hc:=aU.1 hc
  rw[List.drop_eq_nil_of_le hc] at hI
  exact hk o hI
def Arity (k n:Nat):Prop:=loN k<=n/\(Int.ofNat n<=hiZ k)
instance (k n:Nat):Decidable (Arity k n):=by unfold Arity;exact inferInstance
theorem oF {a b:Int}:ltI a b=false↔b<=a:=by rw[dA];simp
theorem oO {a b:Int}:ltI a b=true↔a<b:=by rw[dA];simp
theorem rb {k:Nat}{K:Nat×Int->Prop} (hk:k<256) (h:K (loN k,hiZ k)):fS k K:=⟨hk,h⟩
theorem yy {n:Nat} (h:Arity 3 n):n=1:=by
 obtain⟨h1,h2⟩:=h
 have e1:loN 3=1:=by decide
 have e2:hiZ 3=1:=by decide
 rw[e1] at h1;rw[e2] at h2
 simp only[Int.ofNat_eq_natCast] at h2;omega
theorem xZ {n:Nat} (h:Arity 4 n):n=1:=by
 obtain⟨h1,h2⟩:=h
 have e1:loN 4=1:=by decide
 have e2:hiZ 4=1:=by decide
 rw[e1] at h1;rw[e2] at h2
 simp only[Int.ofNat_eq_natCast] at h2;omega
theorem xO {n:Nat} (h:Arity 11 n):n=3:=by
 obtain⟨h1,h2⟩:=h
 have e1:loN 11=3:=by decide
 have e2:hiZ 11=3:=by decide
 rw[e1] at h1;rw[e2] at h2
 simp only[Int.ofNat_eq_natCast] at h2;omega
theorem B0 {s a b:Nat}{K:Nat->Prop} (h:K (AE s a b)):fW s a b K:=by
 unfold fW bx
 unfold AE at h
 refine⟨fun h1=>?_,fun h1=>⟨fun h2=>?_,fun h2=>⟨fun h3=>?_,fun h3=>?_⟩⟩⟩
 ·rw[if_pos (bp.1 h1)] at h;exact h
 ·rw[if_neg (bN.1 h1),if_pos (bp.1 h2)] at h;exact h
 ·rw[if_neg (bN.1 h1),if_neg (bN.1 h2),if_pos (bp.1 h3)] at h;exact h
 ·rw[if_neg (bN.1 h1),if_neg (bN.1 h2),if_neg (bN.1 h3)] at h;exact h
theorem getD_some {l:List Nat}{i:Nat} (h:i<l.length):l[i]?=some (l.getD i 0):=by
 rw[List.getD,List.getElem?_eq_getElem h];rfl
theorem AV {k:Nat}{l:List Nat}{K:Nat->Prop} (hk0:1<=k) (hk:k<12) (ha:Arity k l.length) (hl:l.length<2 ^ 60) (h:K (uI k l)):aR k l K:=by
 unfold aR
 refine rb (by omega) ?_
 refine dE ?_
 refine⟨fun h1=>?_,fun h1=>?_⟩
 ·have:=aI.1 h1;have:=ha.1;simp only at *;omega
 ·have e:ltI (hiZ k) (Int.ofNat l.length)=false:=oF.2 ha.2
  show (ltI (hiZ k) (Int.ofNat l.length)=true->_)/\_
  rw[e]
  refine⟨(fun hc=>by cases hc),fun _=>?_⟩
  unfold uI at h
  refine⟨fun c=>?_,fun c1=>⟨fun c=>?_,fun c2=>⟨fun c=>?_,fun c3=>⟨fun c=>?_,fun c4=>⟨fun c=>?_,fun c5=>⟨fun c=>?_,fun c6=>⟨fun c=>?_,fun c7=>⟨fun c=>?_,fun c8=>⟨fun c=>?_,fun c9=>⟨fun c=>?_,fun c10=>⟨fun c=>?_,fun c11=>?_⟩⟩⟩⟩⟩⟩⟩⟩⟩⟩⟩
  ·have c:=bp.1 c;subst c;exact h
  ·have c:=bp.1 c;subst c;exact h
  ·have c:=bp.1 c;subst c
   exact⟨_,getD_some (by rw[yy ha];decide),h⟩
  ·have c:=bp.1 c;subst c
   exact⟨_,getD_some (by rw[xZ ha];decide),tA h⟩
  ·have c:=bp.1 c;subst c;exact jM hl h
  ·have c:=bp.1 c;subst c;exact jM hl (tA h)
  ·have c:=bp.1 c;subst c;exact jM hl h
  ·have c:=bp.1 c;subst c;exact jM hl (tA h)
  ·have c:=bp.1 c;subst c;exact An hl h
  ·have c:=bp.1 c;subst c;exact An hl (tA h)
  ·have c:=bp.1 c;subst c
   have:=xO ha
   exact⟨_,getD_some (by omega),_,getD_some (by omega),_,getD_some (by omega),B0 h⟩
  ·exfalso
   have a1:=bN.1 c1;have a2:=bN.1 c2;have a3:=bN.1 c3;have a4:=bN.1 c4;have a5:=bN.1 c5;have a6:=bN.1 c6;have a7:=bN.1 c7;have a8:=bN.1 c8;have a9:=bN.1 c9;have a10:=bN.1 c10;have a11:=bN.1 c11
   omega
structure GoodN (c:Circ) (i:Nat) (x:Node):Prop where
 kind:x.kind<=15
 arity:Arity x.kind x.ins.length
 ins:∀ k∈x.ins,k<c.nodes.length
 bus:x.kind=13->∀ k∈x.ins,∃ y,c.nodes[k]?=some y/\y.kind=12
 mem:x.kind≠15->x.mem=0/\x.bit=0
 memb:x.kind=15->∃ m,c.mems[x.mem]?=some m/\x.bit<m.data.length
 acyc:1<=x.kind->x.kind<=13->∀ k∈x.ins,k<i
structure GoodM (c:Circ) (m:Memo):Prop where
 addr:1<=m.addr.length/\m.addr.length<=8
 data:1<=m.data.length/\m.data.length<=32
 addrs:∀ k∈m.addr,k<c.nodes.length
 datas:∀ k∈m.data,k<c.nodes.length
 write:m.write<c.nodes.length
structure Good (c:Circ):Prop where
 len:c.nodes.length<=16
 names:c.names.length=c.nodes.length
 namesOk:NamesOk c
 fanOk:FanOk c
 mems:∀ m∈c.mems,GoodM c m
 memsLen:c.mems.length<=16
 outs:∀ o∈c.outs,o<c.nodes.length
 outsLen:c.outs.length<=16
 node:∀ i x,c.nodes[i]?=some x->GoodN c i x
 pos:0<c.nodes.length
theorem Cg (k:Nat) (hk:k<=15):hiZ k<=16:=by
 have:∀ k,k<=15->hiZ k<=16:=by decide
 exact this k hk
theorem GoodN.few {c:Circ}{i:Nat}{x:Node} (g:GoodN c i x):x.ins.length<=16:=by
 have h1:=Cg _ g.kind
 have h2:=g.arity.2
 simp only[Int.ofNat_eq_natCast] at h2
 omega
theorem kf {l:List Nat}{c:Circ}{K:Bool->Prop} (hl:∀ k∈l,k<c.nodes.length) (hn:l.length<2 ^ 60) (h:K false):ch l c K:=by
 unfold ch fF
 refine gG (l:=l) ?_ ?_ h
 ·intro k i nx x hx hi hnx
  have hx2:=hl x (List.mem_of_getElem? hx)
  exact⟨fun _=>⟨x,hx,fun h1=>absurd (aI.1 h1) (Nat.not_lt_zero _),fun _=>⟨fun h2=>absurd (ko.1 h2) (by omega),fun _=>⟨by omega,hnx⟩⟩⟩,fun h1=>absurd (aU.1 h1) (by omega)⟩
 ·intro k i nx hi hk
  exact⟨fun h1=>absurd (aI.1 h1) (by omega),fun _=>hk⟩
theorem yj {l:List Nat}{c:Circ}{K:Bool->Prop} (hl:∀ k∈l,∃ y,c.nodes[k]?=some y/\y.kind=12) (hn:l.length<2 ^ 60) (h:K false):fK l c K:=by
 unfold fK gu
 refine gG (l:=l) ?_ ?_ h
 ·intro k i nx x hx hi hnx
  obtain⟨y,hy,hk⟩:=hl x (List.mem_of_getElem? hx)
  exact⟨fun _=>⟨x,hx,y,hy,fun h1=>absurd hk (eQ.1 h1),fun _=>⟨by omega,hnx⟩⟩,fun h1=>absurd (aU.1 h1) (by omega)⟩
 ·intro k i nx hi hk
  exact⟨fun h1=>absurd (aI.1 h1) (by omega),fun _=>hk⟩
theorem tp {k:Nat}{K:Bool->Prop} (h:K (decide (1<=k/\k<=13))):bU k K:=by
 unfold bU
 by_cases c1:1<=k
 ·refine⟨fun _=>?_,fun q=>absurd (lY.1 q) (by omega)⟩
  have:(!ltN 13 k)=decide (1<=k/\k<=13):=by rw[Bool.eq_iff_iff,ko];simp[c1]
  rw[this];exact h
 ·refine⟨fun q=>absurd (ko.1 q) c1,fun _=>?_⟩
  have:decide (1<=k/\k<=13)=false:=decide_eq_false (fun q=>c1 q.1)
  rw[this] at h;exact h
theorem BO {c:Circ}{x:Node}{K:Bool->Prop} (h1:x.kind≠15->x.mem=0/\x.bit=0) (h2:x.kind=15->∃ m,c.mems[x.mem]?=some m/\x.bit<m.data.length) (h:K true):cB c x K:=by
 unfold cB
 refine⟨fun q=>?_,fun q=>?_⟩
 ·obtain⟨a,b⟩:=h1 (eQ.1 q)
  refine⟨fun _=>?_,fun q=>absurd a (bN.1 q)⟩
  rw[bp.2 b];exact h
 ·obtain⟨m,a,b⟩:=h2 (qX.1 q)
  refine⟨fun _=>⟨fun _=>⟨fun _=>⟨m,a,?_⟩,fun q=>absurd (lY.1 q) (Nat.not_lt_zero _)⟩,fun q=>absurd (aU.1 q) (by have:=ak a;omega)⟩,fun q=>absurd (lY.1 q) (Nat.not_lt_zero _)⟩
  rw[aI.2 b];exact h
theorem AL {c:Circ}{i:Nat}{x:Node}{K:Nat->Prop} (g:GoodN c i x) (h:K 0):cW c x K:=by
 have hf:=g.few
 unfold cW
 refine rb (by have:=g.kind;omega) ?_
 refine⟨fun q=>absurd (aI.1 q) (by have:=g.kind;omega),fun _=>?_⟩
 have e1:ltN x.ins.length (loN x.kind)=false:=aU.2 g.arity.1
 have e2:ltI (hiZ x.kind) (Int.ofNat x.ins.length)=false:=oF.2 g.arity.2
 refine dE ?_
 refine⟨fun q=>absurd (q.symm.trans e1) (by decide),fun _=>?_⟩
 show (ltI (hiZ x.kind) (Int.ofNat x.ins.length)=true->_)/\_
 rw[e2]
 refine⟨(fun q=>by cases q),fun _=>kf g.ins (by omega) ⟨(fun q=>by cases q),fun _=>?_⟩⟩
 have last:(false=true->K 7)/\(false=false->cB c x fun r8=>((!r8)=true->K 1)/\((!r8)=false->K 0)) :=
  ⟨(fun q=>by cases q),fun _=>BO g.mem g.memb ⟨(fun q=>by cases q),fun _=>h⟩⟩
 exact⟨fun q=>yj (g.bus (bp.1 q)) (by omega) last,fun _=>last⟩
theorem yS {c:Circ}{K:Nat->Prop} (g:NamesOk c) (h:K 0):fN c K:=⟨g,h⟩
theorem xR {c:Circ}{m:Memo}{K:Nat->Prop} (g:GoodM c m) (h:K 0):cr c m K:=by
 have h1:=g.addr
 have h2:=g.data
 unfold cr
 refine dE ⟨fun q=>absurd (bp.1 q) (by omega),fun _=>⟨fun q=>absurd (aI.1 q) (by omega),fun _=>⟨fun q=>absurd (bp.1 q) (by omega),fun _=>?_⟩⟩⟩
 rw[aU.2 h2.2]
 refine⟨(fun q=>by cases q),fun _=>dE (kf g.addrs (by omega) ⟨(fun q=>by cases q),fun _=>kf g.datas (by omega) ⟨(fun q=>by cases q),fun _=>⟨fun q=>absurd (aI.1 q) (Nat.not_lt_zero _),fun _=>?_⟩⟩⟩)⟩
 rw[aI.2 g.write]
 exact⟨(fun q=>by cases q),fun _=>h⟩
theorem zi {c:Circ}{K:Nat->Prop} (g:Good c) (h:K 0):cO c K:=by
 have hlen:=g.len
 have hol:=g.outsLen
 unfold cO
 have e1:ltN 16384 c.nodes.length=false:=aU.2 (by omega)
 have e2:ltN 16 c.mems.length=false:=aU.2 g.memsLen
 have e3:ltN 16384 c.outs.length=false:=aU.2 (by omega)
 refine dE ?_
 refine⟨fun q=>absurd (q.symm.trans e1) (by decide),fun _=>⟨fun q=>absurd (q.symm.trans e2) (by decide),fun _=>?_⟩⟩
 show (ltN 16384 c.outs.length=true->_)/\_
 rw[e3]
 refine⟨(fun q=>by cases q),fun _=>⟨fun q=>absurd g.names (eQ.1 q),fun _=>?_⟩⟩
 refine gG (l:=c.nodes) ?_ ?_ ?_
 ·intro k i nx x hx hi hnx
  exact⟨fun _=>⟨x,hx,AL (g.node i x hx) ⟨(fun q=>absurd rfl (eQ.1 q)),fun _=>⟨by omega,hnx⟩⟩⟩,fun h1=>absurd (aU.1 h1) (by omega)⟩
 ·intro k i nx hi hk
  exact⟨fun h1=>absurd (aI.1 h1) (by omega),fun _=>hk⟩
 ·refine yS g.namesOk ⟨(fun q=>absurd rfl (eQ.1 q)),fun _=>?_⟩
  refine gG (l:=c.mems) ?_ ?_ ?_
  ·intro k i nx x hx hi hnx
   have:=g.memsLen
   exact⟨fun _=>⟨x,hx,xR (g.mems x (List.mem_of_getElem? hx)) ⟨fun q=>absurd rfl (eQ.1 q),fun _=>⟨by omega,hnx⟩⟩⟩,fun h1=>absurd (aU.1 h1) (by omega)⟩
  ·intro k i nx hi hk
   exact⟨fun h1=>absurd (aI.1 h1) (by omega),fun _=>hk⟩
  ·exact kf g.outs (by omega) ⟨(fun q=>by cases q),fun _=>h⟩
def ofN (c:Circ) (ks:List Nat):List Nat:=(List.range c.nodes.length).filter fun i=>ks.contains ((c.nodes.map Node.kind).getD i 0)
theorem tQ {l:List Nat}{k:Nat}{K:Bool->Prop} (hn:l.length<2 ^ 60) (h:K (l.contains k)):dp l k K:=by
 unfold dp gY
 refine ax (fun i=>i<=l.length/\(l.take i).contains k=false) (fun i=>l.length-i) (fun _=>l.contains k=false) ?_ ⟨Nat.zero_le _,by simp⟩ (fun _ e=>by rw[e] at h;exact h)
 intro kk i nx ⟨hi,hI⟩ hnx hk
 refine⟨fun q=>?_,fun q=>?_⟩
 ·have q:=aI.1 q
  obtain⟨x,hx⟩:=au q
  refine⟨x,hx,fun e=>?_,fun e=>⟨by omega,hnx (i+1) ⟨q,?_⟩ (by omega)⟩⟩
  ·have e:=bp.1 e
   have:l.contains k=true:=by simp;rw[e];exact List.mem_of_getElem? hx
   rw[this] at h
   have e2:(!ltI (Int.ofNat i) (Int.ofNat 0))=true:=by
    have:ltI (Int.ofNat i) (Int.ofNat 0)=false:=oF.2 (Int.natCast_nonneg i)
    rw[this];rfl
   show K (!ltI (Int.ofNat i) (Int.ofNat 0))
   rw[e2];exact h
  ·have e:=bN.1 e
   obtain⟨h1,rfl⟩:=List.getElem?_eq_some_iff.1 hx
   rw[List.take_succ_eq_append_getElem h1]
   simp only[List.contains_eq_mem,List.mem_append,List.mem_singleton,decide_eq_false_iff_not] at hI ⊢
   intro q2
   rcases q2 with q2|q2
   ·exact hI q2
   ·exact e q2
 ·have q:=aU.1 q
  rw[List.take_of_length_le q] at hI
  exact hk () hI
theorem Ag {c:Circ}{ks:List Nat}{K:List Nat->Prop} (hc:c.nodes.length<2 ^ 40) (hn:ks.length<2 ^ 60) (h:K (ofN c ks)):cn c ks K:=by
 unfold cn
 refine ax (fun s=>s.2<=c.nodes.length/\s.1=(List.range s.2).filter fun i=>ks.contains ((c.nodes.map Node.kind).getD i 0)) (fun s=>c.nodes.length-s.2) (fun a=>a=ofN c ks) ?_ ⟨Nat.zero_le _,rfl⟩ (fun a e=>by rw[e];exact h)
 rintro k ⟨o,i⟩ nx ⟨hi,hI⟩ hnx hk
 simp only at hi hI
 refine⟨fun q=>?_,fun q=>?_⟩
 ·have q:=aI.1 q
  obtain⟨x,hx⟩:=au q
  have hkd:(c.nodes.map Node.kind).getD i 0=x.kind:=by rw[List.getD,List.getElem?_map,hx];rfl
  have hol:o.length<=i:=by rw[hI];exact Nat.le_trans (List.length_filter_le _ _) (by simp)
  refine⟨x,hx,tQ hn ⟨fun e=>⟨by simp only[List.length_singleton];omega,by omega,hnx (o++[i],i+1) ⟨q,?_⟩ (by simp only;omega)⟩,fun e=>⟨by omega,hnx (o,i+1) ⟨q,?_⟩ (by simp only;omega)⟩⟩⟩
  ·show o++[i]=_
   rw[List.range_succ,List.filter_append,<- hI]
   simp only[List.filter_cons,hkd,e,if_true,List.filter_nil]
  ·show o=_
   rw[List.range_succ,List.filter_append,<- hI]
   simp only[List.filter_cons,hkd,e,List.filter_nil]
   simp
 ·have q:=aU.1 q
  have:i=c.nodes.length:=by omega
  subst this
  exact hk o hI
theorem fx {α:Type}{first:(α->Prop)->Prop}{rest:α->Prop} (P:α->Prop) (h1:∀ k,(∀ a,P a->k a)->first k) (h2:∀ a,P a->rest a):an first rest:=h1 rest h2
theorem bw {α:Type}{a:α}{first:(α->Prop)->Prop}{rest:α->Prop} (h1:rest a->first rest) (h2:rest a):an first rest:=h1 h2
def Bi (e d:Nat):Nat:=if e=0 then 3 else if e=1 then min d 2 else 2
def my (v:Nat):Nat:=if 3<v then 2 else v
def BN (l:List Nat):Option Nat:=l.findIdx? fun v=>v != 3
def A3 (l:List Nat):Nat:=match BN l with
 |none=>3
 |some i=>if (l.contains 0&&l.contains 1)||l.any (fun v=>my v==2) then 2 else l.getD i 0
def jq (k:Nat) (l:List Nat):Nat:=if k=12 then Bi (l.getD 0 0) (l.getD 1 0) else if k=13 then A3 l else uI k l
theorem B2 {e d:Nat}{K:Nat->Prop} (h:K (Bi e d)):fP e d K:=by
 unfold fP bx
 unfold Bi at h
 refine⟨fun h1=>?_,fun h1=>⟨fun h2=>?_,fun h2=>?_⟩⟩
 ·rw[if_pos (bp.1 h1)] at h;exact h
 ·rw[if_neg (bN.1 h1),if_pos (bp.1 h2)] at h;exact h
 ·rw[if_neg (bN.1 h1),if_neg (bN.1 h2)] at h;exact h
theorem uj (i:Nat):(!ltI (Int.ofNat i) (Int.ofNat 0))=true:=by
 have:ltI (Int.ofNat i) (Int.ofNat 0)=false:=oF.2 (Int.natCast_nonneg i)
 rw[this];rfl
theorem tz {l:List Nat}{p:Nat->Bool}{K:Int->Prop}{body:(Unit->Prop)->Nat->(Nat->Prop)->Prop} (hl:l.length<2 ^ 60)
  (step:∀ k i nx x,l[i]?=some x->(p x=true->K (Int.ofNat i))->(p x=false->i+1<2 ^ 63/\nx (i+1))->body k i nx) (fin:∀ k i nx,l.length<=i->k ()->body k i nx)
  (h1:∀ i,l.findIdx? p=some i->K (Int.ofNat i)) (h2:l.findIdx? p=none->K (Int.negSucc 0)):an (fun k1=>av (fun v2 nx3=>body k1 v2 nx3) 0) (fun _:Unit=>K (Int.negSucc 0)):=by
 refine ax (fun i=>i<=l.length/\∀ j x,j<i->l[j]?=some x->p x=false) (fun i=>l.length-i) (fun _=>l.findIdx? p=none) ?_ ⟨Nat.zero_le _,fun j x h=>absurd h (Nat.not_lt_zero _)⟩ (fun _ e=>h2 e)
 intro k i nx ⟨hi,hI⟩ hnx hk
 by_cases c:i<l.length
 ·obtain⟨x,hx⟩:=au c
  refine step k i nx x hx (fun e=>h1 i ?_) (fun e=>⟨by omega,hnx (i+1) ⟨c,fun j y hj hy=>?_⟩ (by omega)⟩)
  ·rw[List.findIdx?_eq_some_iff_getElem]
   obtain⟨q1,q2⟩:=List.getElem?_eq_some_iff.1 hx
   refine⟨q1,by rw[q2];exact e,fun j hj=>?_⟩
   have:=hI j _ hj (List.getElem?_eq_getElem (by omega))
   simp[this]
  ·by_cases q:j=i
   ·subst q;rw[hx] at hy;cases hy;exact e
   ·exact hI j y (by omega) hy
 ·refine fin k i nx (by omega) (hk () ?_)
  rw[List.findIdx?_eq_none_iff]
  intro x m
  obtain⟨j,hj,rfl⟩:=List.getElem_of_mem m
  exact hI j _ (by omega) (List.getElem?_eq_getElem hj)
theorem yd {l:List Nat}{K:Int->Prop} (hl:l.length<2 ^ 60) (h1:∀ i,BN l=some i->K (Int.ofNat i)) (h2:BN l=none->K (Int.negSucc 0)):fV l K:=by
 unfold fV
 refine tz (l:=l) (p:=fun v=>v != 3) hl ?_ ?_ h1 h2
 ·intro k i nx x hx a b
  exact⟨fun _=>⟨x,hx,fun e=>a (by simpa using eQ.1 e),fun e=>b (by simpa using qX.1 e)⟩,fun e=>absurd (ak hx) (by have:=aU.1 e;omega)⟩
 ·intro k i nx hi hk
  exact⟨fun e=>absurd (aI.1 e) (by omega),fun _=>hk⟩
theorem uE {v:Nat}{K:Nat->Prop} (h:K (my v)):cX v K:=by
 unfold cX
 unfold my at h
 refine⟨fun e=>?_,fun e=>?_⟩
 ·rw[if_pos (aI.1 e)] at h;exact h
 ·rw[if_neg (Nat.not_lt.2 (aU.1 e))] at h;exact h
theorem nm {l:List Nat}{p:Nat->Bool}:(∀ i,l.findIdx? p=some i->l.any p=true)/\(l.findIdx? p=none->l.any p=false):=by
 refine⟨fun i h=>?_,fun h=>?_⟩
 ·rw[List.findIdx?_eq_some_iff_getElem] at h
  obtain⟨h1,h2,_⟩:=h
  exact List.any_eq_true.2 ⟨_,List.getElem_mem h1,h2⟩
 ·rw[List.findIdx?_eq_none_iff] at h
  exact List.any_eq_false.2 fun x m=>by simp[h x m]
theorem qc {l:List Nat}{K:Bool->Prop} (hl:l.length<2 ^ 60) (h:K (l.any fun v=>my v==2)):eS l K:=by
 unfold eS fA
 refine tz (l:=l) (p:=fun v=>my v==2) (K:=fun r=>K (!ltI r (Int.ofNat 0))) hl ?_ ?_ (fun i e=>?_) (fun e=>?_)
 ·intro k i nx x hx a b
  exact⟨fun _=>⟨x,hx,uE ⟨fun e=>a (by simpa using bp.1 e),fun e=>b (by simpa using bN.1 e)⟩⟩,fun e=>absurd (ak hx) (by have:=aU.1 e;omega)⟩
 ·intro k i nx hi hk
  exact⟨fun e=>absurd (aI.1 e) (by omega),fun _=>hk⟩
 ·rw[uj]
  rw[nm.1 i e] at h;exact h
 ·rw[nm.2 e] at h;exact h
theorem nf {l:List Nat}{x:Nat}{K:Bool->Prop} (hl:l.length<2 ^ 60) (h:K (l.contains x)):cA l x K:=by
 unfold cA ia
 have hc:l.contains x=l.any fun v=>x==v:=by
  rw[List.contains_eq_any_beq]
 rw[hc] at h
 refine tz (l:=l) (p:=fun v=>x==v) (K:=fun r=>K (!ltI r (Int.ofNat 0))) hl ?_ ?_ (fun i e=>?_) (fun e=>?_)
 ·intro k i nx y hy a b
  exact⟨fun _=>⟨y,hy,fun e=>a (by simpa using bp.1 e),fun e=>b (by simpa using bN.1 e)⟩,fun e=>absurd (ak hy) (by have:=aU.1 e;omega)⟩
 ·intro k i nx hi hk
  exact⟨fun e=>absurd (aI.1 e) (by omega),fun _=>hk⟩
 ·rw[uj]
  rw[nm.1 i e] at h;exact h
 ·rw[nm.2 e] at h;exact h
theorem BS {l:List Nat}{K:Nat->Prop} (hl:l.length<2 ^ 60) (h:K (A3 l)):fR l K:=by
 unfold fR
 unfold A3 at h
 refine yd hl (fun i e=>?_) (fun e=>?_)
 ·rw[e] at h
  dsimp only at h
  refine⟨fun q=>absurd (oO.1 q) (by simp only[Int.ofNat_eq_natCast];omega),fun _=>?_⟩
  have hi:i<l.length:=(List.findIdx?_eq_some_iff_getElem.1 e).1
  refine fx (fun b=>b=((l.contains 0&&l.contains 1)||l.any fun v=>my v==2)) (fun k hk=>?_) ?_
  ·unfold dH
   refine nf hl ⟨fun e0=>nf hl ⟨fun e1=>hk _ ?_,fun e1=>qc hl (hk _ ?_)⟩,fun e0=>⟨(fun e=>by cases e),fun _=>qc hl (hk _ ?_)⟩⟩
   ·rw[e0,e1];rfl
   ·rw[e0,e1];rfl
   ·rw[e0];rfl
  ·rintro b rfl
   refine⟨fun q=>?_,fun q=>⟨i,rfl,_,getD_some hi,?_⟩⟩
   ·rw[if_pos q] at h;exact h
   ·rw[if_neg (by rw[q];decide)] at h;exact h
 ·rw[e] at h
  exact⟨fun _=>h,fun q=>by cases q⟩
theorem xJ {n:Nat} (h:Arity 12 n):n=2:=by
 obtain⟨h1,h2⟩:=h
 have e1:loN 12=2:=by decide
 have e2:hiZ 12=2:=by decide
 rw[e1] at h1;rw[e2] at h2
 simp only[Int.ofNat_eq_natCast] at h2;omega
theorem sG {n:Nat} (h:Arity 14 n):n=1:=by
 obtain⟨h1,h2⟩:=h
 have e1:loN 14=1:=by decide
 have e2:hiZ 14=1:=by decide
 rw[e1] at h1;rw[e2] at h2
 simp only[Int.ofNat_eq_natCast] at h2;omega
theorem qg {k:Nat}{l:List Nat}{K:Nat->Prop} (hk0:1<=k) (hk:k<14) (ha:Arity k l.length) (hl:l.length<2 ^ 60) (h:K (jq k l)):aR k l K:=by
 by_cases h12:k<12
 ·unfold jq at h
  rw[if_neg (by omega),if_neg (by omega)] at h
  exact AV hk0 h12 ha hl h
 unfold aR
 refine rb (by omega) ?_
 refine dE ?_
 refine⟨fun h1=>?_,fun h1=>?_⟩
 ·have:=aI.1 h1;have:=ha.1;simp only at *;omega
 ·have e:ltI (hiZ k) (Int.ofNat l.length)=false:=oF.2 ha.2
  show (ltI (hiZ k) (Int.ofNat l.length)=true->_)/\_
  rw[e]
  refine⟨(fun hc=>by cases hc),fun _=>?_⟩
  unfold jq at h
  refine⟨fun c=>absurd (bp.1 c) (by omega),fun _=>⟨fun c=>absurd (bp.1 c) (by omega),fun _=>⟨fun c=>absurd (bp.1 c) (by omega),fun _=>⟨fun c=>absurd (bp.1 c) (by omega),fun _=>⟨fun c=>absurd (bp.1 c) (by omega),fun _=>⟨fun c=>absurd (bp.1 c) (by omega),fun _=>⟨fun c=>absurd (bp.1 c) (by omega),fun _=>⟨fun c=>absurd (bp.1 c) (by omega),fun _=>⟨fun c=>absurd (bp.1 c) (by omega),fun _=>⟨fun c=>absurd (bp.1 c) (by omega),fun _=>⟨fun c=>absurd (bp.1 c) (by omega),fun _=>⟨fun c=>?_,fun c1=>⟨fun c=>?_,fun c2=>?_⟩⟩⟩⟩⟩⟩⟩⟩⟩⟩⟩⟩⟩
  ·have c:=bp.1 c;subst c
   have:=xJ ha
   exact⟨_,getD_some (by omega),_,getD_some (by omega),B2 h⟩
  ·have c:=bp.1 c;subst c
   exact BS hl h
  ·have a1:=bN.1 c1;have a2:=bN.1 c2;omega
theorem zO (k:Nat) (l:List Nat):uI k l<=2:=by
 have hn:∀ v,vo v<=2:=fun v=>by unfold vo;split <;> omega
 have hx:∀ (l:List Nat) (o:Nat),o<=1->qw l o<=2:=by
  intro l
  induction l with
  |nil=>intro o ho;unfold qw;omega
  |cons v r ih =>
   intro o ho
   unfold qw
   split
   ·refine ih _ ?_
    have q1:o=0\/o=1:=by omega
    have q2:v=0\/v=1:=by omega
    rcases q1 with rfl|rfl <;> rcases q2 with rfl|rfl <;> decide
   ·omega
 have hd:∀ (low high:Nat) (l:List Nat) (o:Nat),low<=2->o<=2->nI low high l o<=2:=by
  intro low high l
  induction l with
  |nil=>intro o h1 h2;exact h2
  |cons v r ih =>
   intro o h1 h2
   unfold nI
   split
   ·exact h1
   ·refine ih _ h1 ?_
    split
    ·exact h2
    ·omega
 unfold uI
 repeat' split
 all_goals first|omega|exact hn _|exact hd _ _ _ _ (by decide) (by decide) | exact hx _ _ (by decide) | (unfold AE;repeat' split) <;> omega
theorem vx (k:Nat) {l:List Nat} (hl:∀ v∈l,v<=3):jq k l<=3:=by
 unfold jq
 split
 ·unfold Bi;repeat' split
  all_goals omega
 split
 ·unfold A3
  split
  ·omega
  ·split
   ·omega
   ·rename_i i hi _
    obtain⟨h1,h2,_⟩:=List.findIdx?_eq_some_iff_getElem.1 hi
    rw[List.getD,List.getElem?_eq_getElem h1]
    exact hl _ (List.getElem_mem h1)
 ·have:=zO k l;omega
end Go.Proofs.YteceaohcjmbfbaaGreatDoor
