/-
  Base, Logic, Logic3, Door, Fl1, Circ1, Man1, Short, N1, P1, P2, P3, P4, P5: parts of the proof.
-/
import Derived.Test.YtlbeebglhebpjaaGreatDoorTt43
import Derived.Test.YtlbeebglhebpjaaGreatDoorProg
import Derived.KernelRfl
import Derived.Test.YtlbeebglhebpjaaGreatDoorTie
import Derived.LaidMore
import Derived.Stop.Joined
import Derived.ChangeAt
import Derived.SevenTiedAt
namespace Go.Proofs.YtlbeebglhebpjaaGreatDoor
open Go.Abs
set_option maxRecDepth 100000
abbrev NG:Nat:=2
def u8 (a:Int):Value:=.int .u8 a
theorem hM:Tryz.prog.follows .mixedOrders=true:=by kernel_rfl
theorem D6:Tryz.prog.funcs.toList.all (fY NG)=true:=by kernel_rfl
theorem hP (f:FuncId) (fn:Func) (_:([]:List FuncId).contains f=false) (h:Tryz.prog.funcs[f]?=some fn):fY NG fn=true:=by
 have:=List.all_eq_true.1 D6 fn (by
  have:=Array.mem_of_getElem? h
  simpa using this)
 exact this
def i2 (a b:Int):List Value:=[.int .i64 a,.int .i64 b]
def wH:List Value:=i2 0 0++i2 0 0++i2 0 0++i2 1 1++i2 1 1++i2 2 16++i2 2 16++i2 2 16++i2 2 16++i2 2 16++i2 2 16++i2 3 3++i2 2 2++i2 1 16++i2 1 1++i2 0 0
def vars:List AObj:=[.cells wH true,.cells [] true]
def isTrue:Option (Value×Heap)->Bool
 |some (.bool true,_)=>true
 |_=>false
theorem rN {x:Option (Value×Heap)} (h:isTrue x=true):∃ h',x=some (.bool true,h'):=by
 unfold isTrue at h
 split at h
 ·exact⟨_,rfl⟩
 ·cases h
def bare:List AObj:=List.replicate NG .dead
noncomputable def wC (l:List AObj) (f:FuncId) (vs:Array Value):Option Value:=(jY Tryz.prog [] (kT Tryz.prog) 60 f vs (bQ l)).map (·.1)
theorem vL {l:List AObj}{f:FuncId}{vs:Array Value}{v:Value} (e:wC l f vs=some v):∃ h',CallD Tryz.prog NG f vs (bQ l) v h':=by
 unfold wC at e
 cases q:jY Tryz.prog [] (kT Tryz.prog) 60 f vs (bQ l) with
 |none=>simp[q] at e
 |some r =>
  obtain⟨v',h'⟩:=r
  simp[q] at e
  subst e
  exact⟨h',(gM hM hP (fun f vs h v e=>fq f vs h v e) 60 _ _ _ _ _ q).1⟩
theorem xC {h:Heap} (hs:NG<=h.size):AK NG (bQ bare) h:=by
 refine⟨rfl,hs,fun g o e=>.inl ?_⟩
 rw[cL] at e
 have:=List.mem_of_getElem? e
 simp only[bare,List.mem_replicate] at this
 exact this.2
theorem CW {f:FuncId}{vs:Array Value}{v:Value}{h:Heap} (e:wC bare f vs=some v) (h1:vs.all plain=true) (h2:jT v=true):CallD Tryz.prog NG f vs h v h:=by
 obtain⟨h',c⟩:=vL e
 exact CallD.sized fun hs=>c.lift h1 h2 (xC hs)
variable {h:Heap}
def Am (h:Heap):Prop:=∀ (i:Nat) (o:AObj),vars[i]?=some o->h.get i=some o
def Bs:AObj->Bool
 |.cells cs true=>cs.all plain
 |_=>false
theorem qJ {g:Nat}{o:AObj} (e:vars[g]?=some o):∃ cs,o=.cells cs true/\cs.all plain=true:=by
 have h:vars.all Bs=true:=by kernel_rfl
 have:=List.all_eq_true.1 h o (List.mem_of_getElem? e)
 unfold Bs at this
 split at this
 ·exact⟨_,rfl,this⟩
 ·cases this
theorem mF {h:Heap} (hs:NG<=h.size) (v:Am h):AK NG (bQ vars) h:=by
 refine⟨rfl,hs,fun g o e=>?_⟩
 rw[cL] at e
 obtain⟨cs,rfl,hp⟩:=qJ e
 exact .inr ⟨_,rfl,v _ _ e,hp⟩
theorem B6 {f:FuncId}{vs:Array Value}{v:Value}{h:Heap} (hv:Am h) (e:wC vars f vs=some v) (h1:vs.all plain=true) (h2:jT v=true):CallD Tryz.prog NG f vs h v h:=by
 obtain⟨h',c⟩:=vL e
 exact CallD.sized fun hs=>c.lift h1 h2 (mF hs hv)
theorem kinds {k:Int} (h:0<=k):k=0\/k=1\/k=2\/k=3\/k=4\/k=5\/k=6\/k=7\/k=8\/k=9\/k=10\/k=11\/k=12\/k=13\/k=14\/k=15\/∃ n:Nat,k=Int.ofNat (n+16):=by
 by_cases c:k<16
 ·omega
 ·iterate 16 refine .inr ?_
  exact⟨(k-16).toNat,by simp only[Int.ofNat_eq_natCast];omega⟩
def loL (k:Int):Int:=if k<16 then ([0,0,0,1,1,2,2,2,2,2,2,3,2,1,1,0]:List Int).getD k.toNat 0 else 0
def hiL (k:Int):Int:=if k<16 then ([0,0,0,1,1,16,16,16,16,16,16,3,2,16,1,0]:List Int).getD k.toNat 0 else -1
theorem xW (n:Nat):loL (Int.ofNat (n+16))=0:=by unfold loL;rw[if_neg (by simp only[Int.ofNat_eq_natCast];omega)]
theorem Cw (n:Nat):hiL (Int.ofNat (n+16)) = -1:=by unfold hiL;rw[if_neg (by simp only[Int.ofNat_eq_natCast];omega)]
theorem Aw {k:Int} (hk:0<=k) (hk2:k<256) {h:Heap} (hv:Am h):CallD Tryz.prog NG 51 #[u8 k] h (.tuple #[.int .i64 (loL k),.int .i64 (hiL k)]) h:=by
 rcases kinds hk with rfl|rfl|rfl|rfl|rfl|rfl|rfl|rfl|rfl|rfl|rfl|rfl|rfl|rfl|rfl|rfl|⟨n,rfl⟩
 iterate 16 exact B6 hv (by kernel_rfl) (by kernel_rfl) (by kernel_rfl)
 rw[xW,Cw]
 refine fnP hM Tryz.func51 rfl (hP _ _ rfl Tryz.func51) (lbE rfl) (by kernel_rfl) ?_;(conv=>whnf);repeat(first|apply Cs|apply Rs|apply Rx);conv=>whnf
 refine⟨_,gL rfl rfl rfl (IntWalk.i64_in _ (by omega)),?_⟩
 ((conv=>whnf);repeat(first|apply Cs|apply Rs|apply Rx);conv=>whnf)
 refine⟨true,rfl,fun _=>?_,fun hc=>by cases hc⟩
 ((conv=>whnf);repeat(first|apply Cs|apply Rs|apply Rx);conv=>whnf)
 exact⟨rfl,Ext.refl _⟩
variable {h:Heap} {a:Option Addr} {n cap:Nat} {l:List Int}
theorem db {a b:Int} (h:ltI a b=true):a<b:=by rw[dk] at h;simpa using h
theorem cX {a b:Int} (h:ltI a b=false):b<=a:=by rw[dk] at h;simpa using h
end Go.Proofs.YtlbeebglhebpjaaGreatDoor

namespace Go.Proofs.YtlbeebglhebpjaaGreatDoor
open Go.Abs Go.ChangeShapes Go.RowKit Go.ChangeAt
set_option maxRecDepth 100000
theorem own:ownKnob Tryz.prog.godebug=none:=by kernel_rfl
theorem laidOut:laidOutB Tryz.prog=true:=by kernel_rfl
def laid : List (String × DataW Unit) := [("probecard/logic.fanins", Rows.laid_probecard_logic_fanins)]
theorem xL : Tryz.prog.globalNamed "probecard/logic.fanins" = some 0 := by kernel_rfl
theorem Bz (os:Os) (args:Array Value):laidMetH Tryz.prog laid ((World.doorLaid Tryz.prog 400 os).forCall (fun _ _=>0) ⟨#[],args,[]⟩).memory :=
 laidMetH_of_parts3 (fuel:=8) (laidMet_of_run' 8 (by kernel_rfl) (by kernel_rfl)) (by kernel_rfl) (by kernel_rfl)
theorem zJ:zt Tryz.prog 5 (((Tryz.prog.globals[0]?).map (·.type)).getD 0)=true:=by kernel_rfl
theorem wM:flat (H:=Unit) Rows.laid_probecard_logic_fanins=some wH:=by kernel_rfl
theorem Cg {W:World} (h:laidMetH Tryz.prog laid W) (i:Nat):W.cell? ⟨0,i,none⟩=wH[i]?:=by
 rw[MakeChecks.laidMetH_plain _ _ _ (by kernel_rfl)] at h
 obtain⟨ps,⟨g0,t0,cs0,f0,p0,q0,hg0,ht0,hv0,hd0,_⟩,_,_⟩:=h
 have ht:t0=(((Tryz.prog.globals[0]?).map (·.type)).getD 0):=by
  obtain rfl:=Option.some.inj (xL.symm.trans hg0)
  rw[ht0];rfl
 subst ht
 obtain rfl:=Option.some.inj (xL.symm.trans hg0)
 exact wN hg0 hv0 hd0 zJ wM i
theorem block {W:World} (h:W.ShapedOpen Tryz.prog) (g:Nat) (hg:g<Tryz.prog.globals.size) (hb:(((begin Tryz.prog (fun _ _=>0) default).world.heap[g]?).bind Obj.row?).isSome=true):∃ C ty fr,W.heap[g]?=some (.cells C ty fr):=by
 obtain⟨⟨zero,t⟩,e⟩:=Option.isSome_iff_exists.1 hb
 obtain⟨cs,h1,_⟩:=h.1 g zero t hg e
 exact⟨cs,t,_,h1⟩
theorem start {W:World} (hsh:W.ShapedOpen Tryz.prog) (hl:laidMetH Tryz.prog laid W):∃ l0 l1:Abs.Loc,HRel 2 (ib [l0,l1] W) (bQ vars) W:=by
 obtain⟨C0,ty0,fr0,h0⟩:=block hsh 0 (of_decide_eq_true (by kernel_rfl)) (by kernel_rfl)
 obtain⟨C1,ty1,fr1,h1⟩:=block hsh 1 (of_decide_eq_true (by kernel_rfl)) (by kernel_rfl)
 have lt:∀ (g:Nat) (C:Array Value) (ty:TypeId) (fr:Nat×Nat),W.heap[g]?=some (.cells C ty fr)->g<W.heap.size:=fun g C ty fr e=>(Array.getElem?_eq_some_iff.1 e).1
 refine⟨⟨0,0,C0.size⟩,⟨1,0,C1.size⟩,HRel.start vars [_,_] rfl ?_ ?_ ?_ ?_⟩
 ·intro g hg
  match g,hg with
  |0,_=>exact⟨_,rfl,rfl,rfl⟩
  |1,_=>exact⟨_,rfl,rfl,rfl⟩
 ·intro l hl
  simp only[List.mem_cons,List.not_mem_nil,or_false] at hl
  rcases hl with rfl|rfl
  ·exact lt _ _ _ _ h0
  ·exact lt _ _ _ _ h1
 ·intro g l o e1 e2
  match g,e1,e2 with
  |0,e1,e2 =>
   simp only[List.getElem?_cons_zero,Option.some.injEq] at e1
   simp only[vars,List.getElem?_cons_zero,Option.some.injEq] at e2
   subst e1 e2
   exact ORel.vM h0 (fun i _=>Cg hl i) (by kernel_rfl)
  |1,e1,e2 =>
   simp only[vars,List.getElem?_cons_zero,List.getElem?_cons_succ,Option.some.injEq] at e2
   simp only[List.getElem?_cons_zero,List.getElem?_cons_succ,Option.some.injEq] at e1
   subst e1 e2
   exact ORel.vM h1 (fun i hi=>absurd hi (Nat.not_lt_zero _)) rfl
  |g+2,e1,e2=>simp at e1
 ·intro o ho
  simp only[vars,List.mem_cons,List.not_mem_nil,or_false] at ho
  rcases ho with rfl|rfl <;> rfl
theorem BX {H:Type}{enc:TypeId×Value->H}{f:FuncId}{fn:Func}{c:Code}{d:Nat} (L:List (Sh×Bool)) (hfn:Tryz.prog.funcs[f]?=some fn) (hb:fn.body=some c) (hp:qT Tryz.prog d fn.params.toList L)
  (call:∀ x:yw L,wfL L x->FnV Tryz.prog NG vars f ⟨BJ L x⟩ (.bool true))
  (W:World) (base:Nat) (args:Array Value) (hsh:W.ShapedOpen Tryz.prog) (_:args.size=fn.params.size)
  (hval:∀ (j:Nat) t v,fn.params[j]?=some t->args[j]?=some v->Value.okWide Tryz.prog W .any base t v) (hl:laidMetH Tryz.prog laid W)
  (hA:∃ (ds:List (DataW H)) (p:List MemPlace),DataW.TrodAll enc Tryz.prog W 0 (fun _=>true) true fn.params.toList args.toList ds p) :
  Calls Tryz.prog f args W fun e W'=>e=.returned (.bool true)/\Below W.heap.size W W':=by
 obtain⟨ds,p,hA⟩:=hA
 obtain⟨l0,l1,H⟩:=start hsh hl
 obtain⟨x,hw,r⟩:=sW (ι:=ib [l0,l1] W) (fun b C ty fr e=>by simp only[ib,e]) fn.params.toList L hp args.toList ds p hA (fun j t v e1 e2=>hval j t v (by simpa using e1) (by simpa using e2))
 refine uK hfn hb ((call x hw).call _ fun i o e=>by rw[cL];exact e) rfl H ?_ ?_
 ·intro o ho
  simp only[vars,List.mem_cons,List.not_mem_nil,or_false] at ho
  rcases ho with rfl|rfl <;> rfl
 ·have:=aK.array r
  simpa using this
theorem zS {n:Int} (h:(Lit.int .u8 n).wf=true):0<=n/\n<256:=by
 simp[Lit.wf,IntKind.min,IntKind.max,IntKind.signed,IntKind.bits] at h
 omega
theorem pZ (n:Nat) (h:n<256):IntKind.i64.wrap (Int.ofNat n)=Int.ofNat n:=IntWalk.i64_in _ (by simp only[Int.ofNat_eq_natCast];omega)
theorem Az:∀ o∈vars,o.fz=o:=by
 intro o m
 simp only[vars,List.mem_cons,List.not_mem_nil,or_false] at m
 rcases m with rfl|rfl <;> rfl
theorem pY {h:Heap} (b:HasB vars h):Am h:=b
theorem yr {h:Heap} (b:HasB vars h):NG<=h.size:=Heap.ak (b 1 _ rfl)
theorem Eh {f:FuncId}{vs:Array Value}{r:Value} (hr:rb r=true) (c:∀ h,Am h->CallD Tryz.prog NG f vs h r h):FnV Tryz.prog NG vars f vs r:=⟨PureV.rb hr,fun h b=>c h (pY b)⟩
structure Node where
 kind:Nat
 ins:List Nat
 mem:Nat
 bit:Nat
structure Memo where
 addr:List Nat
 data:List Nat
 write:Nat
structure Circ where
 nodes:List Node
 names:List ByteArray
 mems:List Memo
 outs:List Nat
def an (x:Node):Value:=.agg ⟨[u8 (Int.ofNat x.kind),FL 1 (x.ins.map i64),i64 x.mem,i64 x.bit]⟩
def ay (m:Memo):Value:=.agg ⟨[FL 1 (m.addr.map i64),FL 1 (m.data.map i64),i64 m.write]⟩
def ax (c:Circ):Value:=.agg ⟨[FL 4 (c.nodes.map an),FL 1 (c.names.map .string),FL 3 (c.mems.map ay),FL 1 (c.outs.map i64)]⟩
theorem iZ (l:List Nat):PureV (FL 1 (l.map i64)):=PureV.list fun _=>ag.cons (PureV.flat rfl) ag.nil
theorem zD (x:Node):PureV (an x):=PureV.agg (ag.cons (PureV.flat rfl) (ag.cons (iZ _) (ag.cons (PureV.flat rfl) (ag.cons (PureV.flat rfl) ag.nil))))
theorem xy (x:Node):ag (cl (an x)):=ag.cons (PureV.flat rfl) (ag.cons (iZ _) (ag.cons (PureV.flat rfl) (ag.cons (PureV.flat rfl) ag.nil)))
theorem yJ (m:Memo):ag (cl (ay m)):=ag.cons (iZ _) (ag.cons (iZ _) (ag.cons (PureV.flat rfl) ag.nil))
theorem xv (c:Circ):ag (cl (ax c)) :=
 ag.cons (PureV.list xy) (ag.cons (PureV.list fun _=>ag.cons (PureV.flat rfl) ag.nil) (ag.cons (PureV.list yJ) (ag.cons (iZ _) ag.nil)))
theorem jq (c:Circ):PureV (ax c):=PureV.agg (xv c)
structure GData where
 kind:Nat
 a:Nat
 b:Nat
 d:Nat
structure CData where
 inp:Nat
 dffs:Nat
 data0:Nat
 data1:Nat
 bus:Bool
 mem:Bool
 port0:Nat
 port1:Nat
 port2:Nat
 port3:Nat
 gates:List GData
 outs:List Nat
def vY (g:GData):Value:=.agg ⟨[u8 (Int.ofNat g.kind),u8 (Int.ofNat g.a),u8 (Int.ofNat g.b),u8 (Int.ofNat g.d)]⟩
def tM (x:CData):Value:=.agg ⟨[n8 x.inp,n8 x.dffs,n8 x.data0,n8 x.data1,.bool x.bus,.bool x.mem,n8 x.port0,n8 x.port1,n8 x.port2,n8 x.port3,FL 4 (x.gates.map vY),FL 1 (x.outs.map n8)]⟩
structure GOk (g:GData):Prop where
 kind:g.kind<256
 a:g.a<256
 b:g.b<256
 d:g.d<256
structure COk (x:CData):Prop where
 inp:x.inp<256
 dffs:x.dffs<256
 data0:x.data0<256
 data1:x.data1<256
 port0:x.port0<256
 port1:x.port1<256
 port2:x.port2<256
 port3:x.port3<256
 gates:∀ g∈x.gates,GOk g
 outs:∀ o∈x.outs,o<256
 gatesLen:x.gates.length<2 ^ 62
 outsLen:x.outs.length<2 ^ 62
def loN (k:Nat):Nat:=(loL (Int.ofNat k)).toNat
def hiZ (k:Nat):Int:=hiL (Int.ofNat k)
theorem DM (k:Nat):Int.ofNat (loN k)=loL (Int.ofNat k):=by
 unfold loN
 have:0<=loL (Int.ofNat k):=by
  rcases kinds (k:=Int.ofNat k) (Int.natCast_nonneg k) with h|h|h|h|h|h|h|h|h|h|h|h|h|h|h|h|⟨n,h⟩ <;> rw[h]
  iterate 16 decide
  rw[xW];decide
 exact Int.toNat_of_nonneg this
def fN (k:Nat) (K:Nat×Int->Prop):Prop:=k<256/\K (loN k,hiZ k)
theorem jg {k:Nat}{K:Nat×Int->Prop} (hm:fN k K) {h0:Heap} (hB:HasB vars h0):∃ r,K r/\CallD Tryz.prog NG 51 ⟨[n8 k]⟩ h0 ((fun r=>Value.tuple ⟨[i64 r.1,z64 r.2]⟩) r) h0:=by
 refine⟨_,hm.2,?_⟩
 have:=Aw (k:=Int.ofNat k) (Int.natCast_nonneg k) (by have:=hm.1;simp only[Int.ofNat_eq_natCast];omega) (pY hB)
 rw[<- DM] at this
 exact this
structure Ln where
 node:Nat
 pin:Nat
def bS (x:Ln):Value:=.agg ⟨[i64 x.node,i64 x.pin]⟩
theorem vV (x:Ln):ag (cl (bS x)):=ag.cons (PureV.flat rfl) (ag.cons (PureV.flat rfl) ag.nil)
def NamesOk (c:Circ):Prop:=FnV Tryz.prog NG vars 111 ⟨[ax c]⟩ (i64 0)
def fI (c:Circ) (K:Nat->Prop):Prop:=NamesOk c/\K 0
theorem lz {c:Circ}{K:Nat->Prop} (hm:fI c K) {h0:Heap} (hB:HasB vars h0):∃ r,K r/\CallD Tryz.prog NG 111 ⟨[ax c]⟩ h0 (i64 r) h0:=FnV.walk hm.1 hm.2 hB
def bB (n i:Nat) (ins:List Nat):List Ln:=(ins.zipIdx.filter fun p=>p.1==n).map fun p=>⟨i,p.2⟩
def mO (c:Circ):List (List Ln):=(List.range c.nodes.length).map fun n=>c.nodes.zipIdx.flatMap fun p=>bB n p.2 p.1.ins
def FanOk (c:Circ):Prop:=FnV Tryz.prog NG vars 82 ⟨[ax c]⟩ (ah 1 (ah 2 bS) (mO c))
def eM (c:Circ) (K:List (List Ln)->Prop):Prop:=FanOk c/\K (mO c)
theorem kY {c:Circ}{K:List (List Ln)->Prop} (hm:eM c K) {h0:Heap} (hB:HasB vars h0):∃ r,K r/\CallD Tryz.prog NG 82 ⟨[ax c]⟩ h0 ((ah 1 (ah 2 bS)) r) h0:=FnV.walk hm.1 hm.2 hB
def Cc (s:ByteArray):Prop:=FnV Tryz.prog NG vars 140 ⟨[.string s]⟩ (.bool true)
def iC (s:ByteArray) (K:Bool->Prop):Prop:=Cc s/\K true
theorem kN {s:ByteArray}{K:Bool->Prop} (hm:iC s K) {h0:Heap} (hB:HasB vars h0):∃ r,K r/\CallD Tryz.prog NG 140 ⟨[Value.string s]⟩ h0 (Value.bool r) h0:=FnV.walk (enc:=Value.bool) hm.1 hm.2 hB
theorem fw {f:FuncId}{fn:Func}{c:Code} (hf:Tryz.prog.funcs[f]?=some fn) {vs:Array Value}{h:Heap} (hB:HasB vars h) {R:Type}{enc:R->Value} (hp:∀ r,PureV (enc r)) {K:R->Prop}
  (hk:Own vars h [] h->CodeS Tryz.prog NG c (bZ fn.ntmps vs) h fun x e1 h1=>match x with
   |.exit _=>False
   |_=>mj Tryz.prog e1 h1 fn.results.toList fun vs=>∃ r,K r/\Ext h h1/\∀ h2,Frozen h.size h1 h2->VLe h2 (qM vs) (enc r))
  (hb:fn.body=some c:=by exact rfl) (hs:Nat.ble vs.size fn.ntmps=true:=by exact rfl):∃ r,K r/\CallD Tryz.prog NG f vs h (enc r) h :=
 fnW hM hf hb (hP _ _ rfl hf) (Nat.le_of_ble_eq_true hs) hB hp hk
theorem fg {f:FuncId}{fn:Func}{c:Code} (hf:Tryz.prog.funcs[f]?=some fn) {vs:Array Value}{h:Heap}{Q:Value->Heap->Prop}
  (hk:CodeS Tryz.prog NG c (bZ fn.ntmps vs) h fun x e1 h1=>match x with
   |.exit _=>False
   |_=>mj Tryz.prog e1 h1 fn.results.toList fun vs=>Q (qM vs) h1)
  (hb:fn.body=some c:=by exact rfl) (hs:Nat.ble vs.size fn.ntmps=true:=by exact rfl):∃ v h',CallD Tryz.prog NG f vs h v h'/\Q v h' :=
 fnG hM hf hb (hP _ _ rfl hf) (Nat.le_of_ble_eq_true hs) hk
theorem fk {f:FuncId}{fn:Func}{c:Code} (hf:Tryz.prog.funcs[f]?=some fn) (hb:fn.body=some c:=by exact rfl):fnOk Tryz.prog f=true:=(jH hf hb (hP _ _ rfl hf)).1
set_option maxHeartbeats 8000000
def gU (p0:(List Nat)) (p1:Nat) (K:Int->Prop):Prop :=
 ar (α:=Unit) (fun k1=>aB (S:=Nat) (fun v2 nx3=>((ltN v2 p0.length)=true->∃ x4,p0[v2]?=some x4/\((eqN p1 x4)=true->K (Int.ofNat v2))/\((eqN p1 x4)=false->v2+1<2 ^ 63/\nx3 (v2+1)))/\((ltN v2 p0.length)=false->k1 ())) 0) (fun _=>K (Int.negSucc 0))
theorem rU {p0:(List Nat)}{p1:Nat}{K:Int->Prop} (hm:gU p0 p1 K) {h0:Heap} (hB:HasB vars h0):∃ r,K r/\CallD Tryz.prog NG 144 ⟨[(ah 1 n8) p0,n8 p1]⟩ h0 (z64 r) h0:=by
 unfold gU at hm
 refine fw Tryz.func144 hB (enc:=z64) (fun r=>PureV.flat rfl) fun O=>?_;conv=>whnf
 apply Cs;conv=>whnf
 apply Cs;refine gH ?_
 refine jn hm 19 [] (fun s=>s) (fun _ h=>Own vars h0 [] h) (fun _=>[]) (fun hm=>?_) ?_
 ·refine gX ?_
  refine lw 19 [0,1,7] (σ:=Nat) (fun s=>s) (fun v2 h=>Own vars h0 [] h) (fun v2=>[(8,(i64 v2))]) 0 hm O ?_
  clear hm;rintro v2 nx3 base h hm O
  refine gX ?_
  refine br hm (fun hm=>?_) fun hm=>?_
  ·refine gX ?_
   refine atF hm fun x4 hx4 hm=>?_;refine gX ?_
   refine br hm (fun hm=>?_) fun hm=>?_
   ·refine gX ?_
    exact fe hm O
   ·refine gX ?_
    refine aR hm fun hm=>?_;refine gH ?_
    exact jx (v2+1) hm O
  ·refine gX ?_
   exact jx () hm O
 ·clear hm;rintro _ base h hm O
  refine gX ?_
  exact fe hm O
def cE (p0:(List Nat)) (p1:Nat) (K:Bool->Prop):Prop :=
 gU p0 p1 (fun r1=>K (!ltI r1 (Int.ofNat 0)))
theorem iJ {p0:(List Nat)}{p1:Nat}{K:Bool->Prop} (hm:cE p0 p1 K) {h0:Heap} (hB:HasB vars h0):∃ r,K r/\CallD Tryz.prog NG 117 ⟨[(ah 1 n8) p0,n8 p1]⟩ h0 (Value.bool r) h0:=by
 unfold cE at hm
 refine fw Tryz.func117 hB (enc:=Value.bool) (fun r=>PureV.flat rfl) fun O=>?_;conv=>whnf
 refine gX ?_
 refine ca (rU hm O.has) fun r1 hm=>?_;refine gX ?_
 exact fe hm O
def cS (p0:Nat) (K:Nat->Prop):Prop :=
 ((ltN 3 p0)=true->K 2)/\((ltN 3 p0)=false->K p0)
theorem jv {p0:Nat}{K:Nat->Prop} (hm:cS p0 K) {h0:Heap} (hB:HasB vars h0):∃ r,K r/\CallD Tryz.prog NG 91 ⟨[n8 p0]⟩ h0 (n8 r) h0:=by
 unfold cS at hm
 refine fw Tryz.func91 hB (enc:=n8) (fun r=>PureV.flat rfl) fun O=>?_;conv=>whnf
 refine gX ?_
 refine br hm (fun hm=>?_) fun hm=>?_
 ·refine gX ?_
  exact fe hm O
 ·refine gX ?_
  exact fe hm O
def fJ (p0:(List Nat)) (K:Int->Prop):Prop :=
 ar (α:=Unit) (fun k1=>aB (S:=Nat) (fun v2 nx3=>((ltN v2 p0.length)=true->∃ x4,p0[v2]?=some x4/\cS x4 (fun r5=>((eqN r5 2)=true->K (Int.ofNat v2))/\((eqN r5 2)=false->v2+1<2 ^ 63/\nx3 (v2+1))))/\((ltN v2 p0.length)=false->k1 ())) 0) (fun _=>K (Int.negSucc 0))
theorem oB {p0:(List Nat)}{K:Int->Prop} (hm:fJ p0 K) {h0:Heap} (hB:HasB vars h0):∃ r,K r/\CallD Tryz.prog NG 88 ⟨[(ah 1 n8) p0,(.func (.func 90) ⟨[]⟩ ⟨[]⟩)]⟩ h0 (z64 r) h0:=by
 unfold fJ at hm
 refine fw Tryz.func88 hB (enc:=z64) (fun r=>PureV.flat rfl) fun O=>?_;conv=>whnf
 apply Cs;conv=>whnf
 apply Cs;refine gH ?_
 refine jn hm 19 [] (fun s=>s) (fun _ h=>Own vars h0 [] h) (fun _=>[]) (fun hm=>?_) ?_
 ·refine gX ?_
  refine lw 19 [0,1,7] (σ:=Nat) (fun s=>s) (fun v2 h=>Own vars h0 [] h) (fun v2=>[(8,(i64 v2))]) 0 hm O ?_
  clear hm;rintro v2 nx3 base h hm O
  refine gX ?_
  refine br hm (fun hm=>?_) fun hm=>?_
  ·refine gX ?_
   refine atF hm fun x4 hx4 hm=>?_;refine gH ?_
   refine fg Tryz.func90 ?_;refine gX ?_
   refine ca (jv hm O.has) fun r5 hm=>?_;refine gX ?_
   refine br hm (fun hm=>?_) fun hm=>?_
   ·refine gX ?_
    exact fe hm O
   ·refine gX ?_
    refine aR hm fun hm=>?_;refine gH ?_
    exact jx (v2+1) hm O
  ·refine gX ?_
   exact jx () hm O
 ·clear hm;rintro _ base h hm O
  refine gX ?_
  exact fe hm O
def eA (p0:(List Nat)) (K:Bool->Prop):Prop :=
 fJ p0 (fun r1=>K (!ltI r1 (Int.ofNat 0)))
theorem pL {p0:(List Nat)}{K:Bool->Prop} (hm:eA p0 K) {h0:Heap} (hB:HasB vars h0):∃ r,K r/\CallD Tryz.prog NG 49 ⟨[(ah 1 n8) p0,(.func (.func 90) ⟨[]⟩ ⟨[]⟩)]⟩ h0 (Value.bool r) h0:=by
 unfold eA at hm
 refine fw Tryz.func49 hB (enc:=Value.bool) (fun r=>PureV.flat rfl) fun O=>?_;conv=>whnf
 refine gX ?_
 refine ca (oB hm O.has) fun r1 hm=>?_;refine gX ?_
 exact fe hm O
def fC (p0:(List Nat)) (K:Int->Prop):Prop :=
 ar (α:=Unit) (fun k1=>aB (S:=Nat) (fun v2 nx3=>((ltN v2 p0.length)=true->∃ x4,p0[v2]?=some x4/\((neN x4 3)=true->K (Int.ofNat v2))/\((neN x4 3)=false->v2+1<2 ^ 63/\nx3 (v2+1)))/\((ltN v2 p0.length)=false->k1 ())) 0) (fun _=>K (Int.negSucc 0))
theorem qF {p0:(List Nat)}{K:Int->Prop} (hm:fC p0 K) {h0:Heap} (hB:HasB vars h0):∃ r,K r/\CallD Tryz.prog NG 88 ⟨[(ah 1 n8) p0,(.func (.func 92) ⟨[]⟩ ⟨[]⟩)]⟩ h0 (z64 r) h0:=by
 unfold fC at hm
 refine fw Tryz.func88 hB (enc:=z64) (fun r=>PureV.flat rfl) fun O=>?_;conv=>whnf
 apply Cs;conv=>whnf
 apply Cs;refine gH ?_
 refine jn hm 19 [] (fun s=>s) (fun _ h=>Own vars h0 [] h) (fun _=>[]) (fun hm=>?_) ?_
 ·refine gX ?_
  refine lw 19 [0,1,7] (σ:=Nat) (fun s=>s) (fun v2 h=>Own vars h0 [] h) (fun v2=>[(8,(i64 v2))]) 0 hm O ?_
  clear hm;rintro v2 nx3 base h hm O
  refine gX ?_
  refine br hm (fun hm=>?_) fun hm=>?_
  ·refine gX ?_
   refine atF hm fun x4 hx4 hm=>?_;refine gH ?_
   refine fg Tryz.func92 ?_;refine gX ?_
   refine br hm (fun hm=>?_) fun hm=>?_
   ·refine gX ?_
    exact fe hm O
   ·refine gX ?_
    refine aR hm fun hm=>?_;refine gH ?_
    exact jx (v2+1) hm O
  ·refine gX ?_
   exact jx () hm O
 ·clear hm;rintro _ base h hm O
  refine gX ?_
  exact fe hm O
def aP (p0:Nat) (K:Bool->Prop):Prop :=
 K (!ltN 1 p0)
theorem bh {p0:Nat}{K:Bool->Prop} (hm:aP p0 K) {h0:Heap} (hB:HasB vars h0):∃ r,K r/\CallD Tryz.prog NG 35 ⟨[n8 p0]⟩ h0 (Value.bool r) h0:=by
 unfold aP at hm
 refine fw Tryz.func35 hB (enc:=Value.bool) (fun r=>PureV.flat rfl) fun O=>?_;conv=>whnf
 refine gX ?_
 exact fe hm O
def bz (p0:Nat) (K:Nat->Prop):Prop :=
 aP p0 (fun r1=>(r1=true->p0<=1/\1<256/\K (1-p0))/\(r1=false->K 2))
theorem bT {p0:Nat}{K:Nat->Prop} (hm:bz p0 K) {h0:Heap} (hB:HasB vars h0):∃ r,K r/\CallD Tryz.prog NG 12 ⟨[n8 p0]⟩ h0 (n8 r) h0:=by
 unfold bz at hm
 refine fw Tryz.func12 hB (enc:=n8) (fun r=>PureV.flat rfl) fun O=>?_;conv=>whnf
 refine gX ?_
 refine ca (bh hm O.has) fun r1 hm=>?_;refine gX ?_
 refine br hm (fun hm=>?_) fun hm=>?_
 ·refine gX ?_
  refine Db hm fun hm=>?_;refine gX ?_
  exact fe hm O
 ·refine gX ?_
  exact fe hm O
def bq (p0:Nat) (K:Nat->Prop):Prop :=
 K (min p0 2)
theorem cC {p0:Nat}{K:Nat->Prop} (hm:bq p0 K) {h0:Heap} (hB:HasB vars h0):∃ r,K r/\CallD Tryz.prog NG 52 ⟨[n8 p0]⟩ h0 (n8 r) h0:=by
 unfold bq at hm
 refine fw Tryz.func52 hB (enc:=n8) (fun r=>PureV.flat rfl) fun O=>?_;conv=>whnf
 refine gX ?_
 refine⟨_,Dp (a:=p0) (b:=2) rfl rfl,?_⟩;refine gX ?_
 exact fe hm O
def cu (p0:(List Nat)) (p1:Nat) (p2:Nat) (K:Nat->Prop):Prop :=
 ar (α:=Nat) (fun k2=>aB (S:=(Nat×Nat)) (fun (v3,v4) nx5=>((ltN v4 p0.length)=true->ar (α:=Nat) (fun k7=>∃ x8,p0[v4]?=some x8/\((eqN x8 p1)=true->K p1)/\((eqN x8 p1)=false->((neN x8 p2)=true->k7 2)/\((neN x8 p2)=false->k7 v3))) (fun v6=>v4+1<2 ^ 63/\nx5 (v6,(v4+1))))/\((ltN v4 p0.length)=false->k2 v3)) (p2,0)) (fun v1=>K v1)
theorem iv {p0:(List Nat)}{p1:Nat}{p2:Nat}{K:Nat->Prop} (hm:cu p0 p1 p2 K) {h0:Heap} (hB:HasB vars h0):∃ r,K r/\CallD Tryz.prog NG 89 ⟨[(ah 1 n8) p0,n8 p1,n8 p2]⟩ h0 (n8 r) h0:=by
 unfold cu at hm
 refine fw Tryz.func89 hB (enc:=n8) (fun r=>PureV.flat rfl) fun O=>?_;conv=>whnf
 apply Cs;conv=>whnf
 apply Cs;refine gH ?_
 apply Cs;conv=>whnf
 apply Cs;refine gH ?_
 refine jn hm 28 [] (fun s=>s) (fun v1 h=>Own vars h0 [] h) (fun v1=>[(7,(n8 v1))]) (fun hm=>?_) ?_
 ·refine gX ?_
  refine lw 28 [1,2,11,12] (σ:=(Nat×Nat)) (fun s=>s) (fun (v3,v4) h=>Own vars h0 [] h) (fun (v3,v4)=>[(7,(n8 v3)),(13,(i64 v4))]) (p2,0) hm O ?_
  clear hm;rintro⟨v3,v4⟩ nx5 base h hm O
  refine gX ?_
  refine br hm (fun hm=>?_) fun hm=>?_
  ·apply Cs;conv=>whnf
   refine jn hm 28 [1,2,11,12,13] (fun s=>s) (fun v6 h=>Own vars h0 [] h) (fun v6=>[(7,(n8 v6))]) (fun hm=>?_) ?_
   ·refine gX ?_
    refine atF hm fun x8 hx8 hm=>?_;refine gX ?_
    refine br hm (fun hm=>?_) fun hm=>?_
    ·refine gX ?_
     exact fe hm O
    ·refine gX ?_
     refine br hm (fun hm=>?_) fun hm=>?_
     ·refine gX ?_
      exact jx 2 hm O
     ·refine gX ?_
      exact jx v3 hm O
   ·clear hm;rintro v6 base h hm O
    refine gX ?_
    refine aR hm fun hm=>?_;refine gH ?_
    exact jx (v6,(v4+1)) hm O
  ·refine gX ?_
   exact jx v3 hm O
 ·clear hm;rintro v1 base h hm O
  refine gX ?_
  exact fe hm O
def gW (p0:(List Nat)) (K:Nat->Prop):Prop :=
 cu p0 0 1 (fun r1=>K r1)
theorem kP {p0:(List Nat)}{K:Nat->Prop} (hm:gW p0 K) {h0:Heap} (hB:HasB vars h0):∃ r,K r/\CallD Tryz.prog NG 53 ⟨[(ah 1 n8) p0]⟩ h0 (n8 r) h0:=by
 unfold gW at hm
 refine fw Tryz.func53 hB (enc:=n8) (fun r=>PureV.flat rfl) fun O=>?_;conv=>whnf
 refine gX ?_
 refine ca (iv hm O.has) fun r1 hm=>?_;refine gX ?_
 exact fe hm O
def iP (p0:(List Nat)) (K:Nat->Prop):Prop :=
 cu p0 1 0 (fun r1=>K r1)
theorem lX {p0:(List Nat)}{K:Nat->Prop} (hm:iP p0 K) {h0:Heap} (hB:HasB vars h0):∃ r,K r/\CallD Tryz.prog NG 54 ⟨[(ah 1 n8) p0]⟩ h0 (n8 r) h0:=by
 unfold iP at hm
 refine fw Tryz.func54 hB (enc:=n8) (fun r=>PureV.flat rfl) fun O=>?_;conv=>whnf
 refine gX ?_
 refine ca (iv hm O.has) fun r1 hm=>?_;refine gX ?_
 exact fe hm O
def dT (p0:(List Nat)) (K:Nat->Prop):Prop :=
 ar (α:=Nat) (fun k2=>aB (S:=(Nat×Nat)) (fun (v3,v4) nx5=>((ltN v4 p0.length)=true->∃ x6,p0[v4]?=some x6/\aP x6 (fun r7=>((!r7)=true->K 2)/\((!r7)=false->v3<256/\x6<256/\v4+1<2 ^ 63/\nx5 ((v3 ^^^ x6),(v4+1)))))/\((ltN v4 p0.length)=false->k2 v3)) (0,0)) (fun v1=>K v1)
theorem kx {p0:(List Nat)}{K:Nat->Prop} (hm:dT p0 K) {h0:Heap} (hB:HasB vars h0):∃ r,K r/\CallD Tryz.prog NG 55 ⟨[(ah 1 n8) p0]⟩ h0 (n8 r) h0:=by
 unfold dT at hm
 refine fw Tryz.func55 hB (enc:=n8) (fun r=>PureV.flat rfl) fun O=>?_;conv=>whnf
 apply Cs;conv=>whnf
 apply Cs;refine gH ?_
 apply Cs;conv=>whnf
 apply Cs;refine gH ?_
 refine jn hm 20 [] (fun s=>s) (fun v1 h=>Own vars h0 [] h) (fun v1=>[(3,(n8 v1))]) (fun hm=>?_) ?_
 ·refine gX ?_
  refine lw 20 [6,7] (σ:=(Nat×Nat)) (fun s=>s) (fun (v3,v4) h=>Own vars h0 [] h) (fun (v3,v4)=>[(3,(n8 v3)),(8,(i64 v4))]) (0,0) hm O ?_
  clear hm;rintro⟨v3,v4⟩ nx5 base h hm O
  refine gX ?_
  refine br hm (fun hm=>?_) fun hm=>?_
  ·refine gX ?_
   refine atF hm fun x6 hx6 hm=>?_;refine gX ?_
   refine ca (bh hm O.has) fun r7 hm=>?_;refine gX ?_
   refine br hm (fun hm=>?_) fun hm=>?_
   ·refine gX ?_
    exact fe hm O
   ·refine gX ?_
    refine⟨_,DN (a:=v3) (b:=x6) rfl rfl hm.1 hm.2.1,?_⟩;refine gX ?_
    replace hm:=hm.2.2
    refine aR hm fun hm=>?_;refine gH ?_
    exact jx ((v3 ^^^ x6),(v4+1)) hm O
  ·refine gX ?_
   exact jx v3 hm O
 ·clear hm;rintro v1 base h hm O
  refine gX ?_
  exact fe hm O
def fj (p0:Nat) (p1:Nat) (p2:Nat) (K:Nat->Prop):Prop :=
 ((eqN p0 0)=true->bq p1 (fun r1=>K r1))/\((eqN p0 0)=false->((eqN p0 1)=true->bq p2 (fun r2=>K r2))/\((eqN p0 1)=false->((eqN p1 p2)=true->bq p1 (fun r3=>K r3))/\((eqN p1 p2)=false->K 2)))
theorem qo {p0:Nat}{p1:Nat}{p2:Nat}{K:Nat->Prop} (hm:fj p0 p1 p2 K) {h0:Heap} (hB:HasB vars h0):∃ r,K r/\CallD Tryz.prog NG 56 ⟨[n8 p0,n8 p1,n8 p2]⟩ h0 (n8 r) h0:=by
 unfold fj at hm
 refine fw Tryz.func56 hB (enc:=n8) (fun r=>PureV.flat rfl) fun O=>?_;conv=>whnf
 refine gX ?_
 refine br hm (fun hm=>?_) fun hm=>?_
 ·refine gX ?_
  refine ca (cC hm O.has) fun r1 hm=>?_;refine gX ?_
  exact fe hm O
 ·refine gX ?_
  refine br hm (fun hm=>?_) fun hm=>?_
  ·refine gX ?_
   refine ca (cC hm O.has) fun r2 hm=>?_;refine gX ?_
   exact fe hm O
  ·refine gX ?_
   refine br hm (fun hm=>?_) fun hm=>?_
   ·refine gX ?_
    refine ca (cC hm O.has) fun r3 hm=>?_;refine gX ?_
    exact fe hm O
   ·refine gX ?_
    exact fe hm O
def ft (p0:Nat) (p1:Nat) (K:Nat->Prop):Prop :=
 ((eqN p0 0)=true->K 3)/\((eqN p0 0)=false->((eqN p0 1)=true->bq p1 (fun r1=>K r1))/\((eqN p0 1)=false->K 2))
theorem qK {p0:Nat}{p1:Nat}{K:Nat->Prop} (hm:ft p0 p1 K) {h0:Heap} (hB:HasB vars h0):∃ r,K r/\CallD Tryz.prog NG 57 ⟨[n8 p0,n8 p1]⟩ h0 (n8 r) h0:=by
 unfold ft at hm
 refine fw Tryz.func57 hB (enc:=n8) (fun r=>PureV.flat rfl) fun O=>?_;conv=>whnf
 refine gX ?_
 refine br hm (fun hm=>?_) fun hm=>?_
 ·refine gX ?_
  exact fe hm O
 ·refine gX ?_
  refine br hm (fun hm=>?_) fun hm=>?_
  ·refine gX ?_
   refine ca (cC hm O.has) fun r1 hm=>?_;refine gX ?_
   exact fe hm O
  ·refine gX ?_
   exact fe hm O
def dp (p0:(List Nat)) (K:Bool->Prop):Prop :=
 cE p0 0 (fun r1=>(r1=true->cE p0 1 (fun r2=>K r2))/\(r1=false->K false))
theorem ly {p0:(List Nat)}{K:Bool->Prop} (hm:dp p0 K) {h0:Heap} (hB:HasB vars h0):∃ r,K r/\CallD Tryz.prog NG 93 ⟨[(ah 1 n8) p0]⟩ h0 (Value.bool r) h0:=by
 unfold dp at hm
 refine fw Tryz.func93 hB (enc:=Value.bool) (fun r=>PureV.flat rfl) fun O=>?_;conv=>whnf
 refine gX ?_
 refine ca (iJ hm O.has) fun r1 hm=>?_;refine gH ?_
 refine br hm (fun hm=>?_) fun hm=>?_
 ·refine gX ?_
  refine ca (iJ hm O.has) fun r2 hm=>?_;refine gX ?_
  exact fe hm O
 ·refine gX ?_
  exact fe hm O
def fB (p0:(List Nat)) (K:Nat->Prop):Prop :=
 fC p0 (fun r1=>((ltI r1 (Int.ofNat 0))=true->K 3)/\((ltI r1 (Int.ofNat 0))=false->ar (α:=Bool) (fun k3=>dp p0 (fun r4=>(r4=true->k3 true)/\(r4=false->eA p0 (fun r5=>k3 r5)))) (fun v2=>(v2=true->K 2)/\(v2=false->∃ j7:Nat,r1=Int.ofNat j7/\∃ x6,p0[j7]?=some x6/\K x6))))
theorem rE {p0:(List Nat)}{K:Nat->Prop} (hm:fB p0 K) {h0:Heap} (hB:HasB vars h0):∃ r,K r/\CallD Tryz.prog NG 58 ⟨[(ah 1 n8) p0]⟩ h0 (n8 r) h0:=by
 unfold fB at hm
 refine fw Tryz.func58 hB (enc:=n8) (fun r=>PureV.flat rfl) fun O=>?_;conv=>whnf
 refine gX ?_
 refine ca (qF hm O.has) fun r1 hm=>?_;refine gX ?_
 refine br hm (fun hm=>?_) fun hm=>?_
 ·refine gX ?_
  exact fe hm O
 ·refine jn hm 24 [0,5] (fun s=>s) (fun v2 h=>Own vars h0 [] h) (fun v2=>[(12,(.bool v2))]) (fun hm=>?_) ?_
  ·refine gX ?_
   refine ca (ly hm O.has) fun r4 hm=>?_;refine gH ?_
   refine br hm (fun hm=>?_) fun hm=>?_
   ·refine gX ?_
    exact jx true hm O
   ·refine gX ?_
    refine ca (pL hm O.has) fun r5 hm=>?_;refine gH ?_
    exact jx r5 hm O
  ·clear hm;rintro v2 base h hm O
   refine gX ?_
   refine br hm (fun hm=>?_) fun hm=>?_
   ·refine gX ?_
    exact fe hm O
   ·refine gX ?_
    obtain⟨j7,hz,x6,hx6,hm⟩:=hm
    refine tz (s:=1) (enc:=n8) (j:=j7) rfl rfl rfl (congrArg (Value.int .i64) hz) hx6 ?_;refine gX ?_
    exact fe hm O
def ba (p0:Nat) (p1:(List Nat)) (K:Nat->Prop):Prop :=
 fN p0 (fun r1=>ar (α:=Bool) (fun k3=>((ltN p1.length r1.1)=true->k3 true)/\((ltN p1.length r1.1)=false->k3 (ltI r1.2 (Int.ofNat p1.length)))) (fun v2=>(v2=true->K 2)/\(v2=false->((eqN p0 1)=true->K 0)/\((eqN p0 1)=false->((eqN p0 2)=true->K 1)/\((eqN p0 2)=false->((eqN p0 3)=true->∃ x4,p1[0]?=some x4/\bq x4 (fun r5=>K r5))/\((eqN p0 3)=false->((eqN p0 4)=true->∃ x6,p1[0]?=some x6/\bz x6 (fun r7=>K r7))/\((eqN p0 4)=false->((eqN p0 5)=true->gW p1 (fun r8=>K r8))/\((eqN p0 5)=false->((eqN p0 6)=true->gW p1 (fun r9=>bz r9 (fun r10=>K r10)))/\((eqN p0 6)=false->((eqN p0 7)=true->iP p1 (fun r11=>K r11))/\((eqN p0 7)=false->((eqN p0 8)=true->iP p1 (fun r12=>bz r12 (fun r13=>K r13)))/\((eqN p0 8)=false->((eqN p0 9)=true->dT p1 (fun r14=>K r14))/\((eqN p0 9)=false->((eqN p0 10)=true->dT p1 (fun r15=>bz r15 (fun r16=>K r16)))/\((eqN p0 10)=false->((eqN p0 11)=true->∃ x17,p1[0]?=some x17/\∃ x18,p1[1]?=some x18/\∃ x19,p1[2]?=some x19/\fj x17 x18 x19 (fun r20=>K r20))/\((eqN p0 11)=false->((eqN p0 12)=true->∃ x21,p1[0]?=some x21/\∃ x22,p1[1]?=some x22/\ft x21 x22 (fun r23=>K r23))/\((eqN p0 12)=false->((eqN p0 13)=true->fB p1 (fun r24=>K r24))/\((eqN p0 13)=false->K 2))))))))))))))))
theorem gN {p0:Nat}{p1:(List Nat)}{K:Nat->Prop} (hm:ba p0 p1 K) {h0:Heap} (hB:HasB vars h0):∃ r,K r/\CallD Tryz.prog NG 28 ⟨[n8 p0,(ah 1 n8) p1]⟩ h0 (n8 r) h0:=by
 unfold ba at hm
 refine fw Tryz.func28 hB (enc:=n8) (fun r=>PureV.flat rfl) fun O=>?_;conv=>whnf
 refine gX ?_
 refine ca (jg hm O.has) fun r1 hm=>?_;refine gH ?_
 refine jn hm 91 [0,1] (fun s=>s) (fun v2 h=>Own vars h0 [] h) (fun v2=>[(21,(.bool v2))]) (fun hm=>?_) ?_
 ·refine gX ?_
  refine br hm (fun hm=>?_) fun hm=>?_
  ·refine gX ?_
   exact jx true hm O
  ·refine gX ?_
   exact jx (ltI r1.2 (Int.ofNat p1.length)) hm O
 ·clear hm;rintro v2 base h hm O
  refine gX ?_
  refine br hm (fun hm=>?_) fun hm=>?_
  ·refine gX ?_
   exact fe hm O
  ·refine gX ?_
   refine br hm (fun hm=>?_) fun hm=>?_
   ·refine gX ?_
    exact fe hm O
   ·refine gX ?_
    refine br hm (fun hm=>?_) fun hm=>?_
    ·refine gX ?_
     exact fe hm O
    ·refine gX ?_
     refine br hm (fun hm=>?_) fun hm=>?_
     ·refine gX ?_
      refine atF hm fun x4 hx4 hm=>?_;refine gH ?_
      refine ca (cC hm O.has) fun r5 hm=>?_;refine gX ?_
      exact fe hm O
     ·refine gX ?_
      refine br hm (fun hm=>?_) fun hm=>?_
      ·refine gX ?_
       refine atF hm fun x6 hx6 hm=>?_;refine gH ?_
       refine ca (bT hm O.has) fun r7 hm=>?_;refine gX ?_
       exact fe hm O
      ·refine gX ?_
       refine br hm (fun hm=>?_) fun hm=>?_
       ·refine gX ?_
        refine ca (kP hm O.has) fun r8 hm=>?_;refine gX ?_
        exact fe hm O
       ·refine gX ?_
        refine br hm (fun hm=>?_) fun hm=>?_
        ·refine gX ?_
         refine ca (kP hm O.has) fun r9 hm=>?_;refine gH ?_
         refine ca (bT hm O.has) fun r10 hm=>?_;refine gX ?_
         exact fe hm O
        ·refine gX ?_
         refine br hm (fun hm=>?_) fun hm=>?_
         ·refine gX ?_
          refine ca (lX hm O.has) fun r11 hm=>?_;refine gX ?_
          exact fe hm O
         ·refine gX ?_
          refine br hm (fun hm=>?_) fun hm=>?_
          ·refine gX ?_
           refine ca (lX hm O.has) fun r12 hm=>?_;refine gH ?_
           refine ca (bT hm O.has) fun r13 hm=>?_;refine gX ?_
           exact fe hm O
          ·refine gX ?_
           refine br hm (fun hm=>?_) fun hm=>?_
           ·refine gX ?_
            refine ca (kx hm O.has) fun r14 hm=>?_;refine gX ?_
            exact fe hm O
           ·refine gX ?_
            refine br hm (fun hm=>?_) fun hm=>?_
            ·refine gX ?_
             refine ca (kx hm O.has) fun r15 hm=>?_;refine gH ?_
             refine ca (bT hm O.has) fun r16 hm=>?_;refine gX ?_
             exact fe hm O
            ·refine gX ?_
             refine br hm (fun hm=>?_) fun hm=>?_
             ·refine gX ?_
              refine atF hm fun x17 hx17 hm=>?_;refine gH ?_
              refine atF hm fun x18 hx18 hm=>?_;refine gH ?_
              refine atF hm fun x19 hx19 hm=>?_;refine gH ?_
              refine ca (qo hm O.has) fun r20 hm=>?_;refine gH ?_
              refine⟨.inl (Ext.refl _),?_⟩;refine gH ?_
              refine gX ?_
              exact fe hm O
             ·refine gX ?_
              refine br hm (fun hm=>?_) fun hm=>?_
              ·refine gX ?_
               refine atF hm fun x21 hx21 hm=>?_;refine gH ?_
               refine atF hm fun x22 hx22 hm=>?_;refine gH ?_
               refine ca (qK hm O.has) fun r23 hm=>?_;refine gH ?_
               refine⟨.inl (Ext.refl _),?_⟩;refine gH ?_
               refine gX ?_
               exact fe hm O
              ·refine gX ?_
               refine br hm (fun hm=>?_) fun hm=>?_
               ·refine gX ?_
                refine ca (rE hm O.has) fun r24 hm=>?_;refine gX ?_
                exact fe hm O
               ·refine gX ?_
                exact fe hm O
def gR (p0:(List Nat)) (p1:Nat) (K:Int->Prop):Prop :=
 ar (α:=Unit) (fun k1=>aB (S:=Nat) (fun v2 nx3=>((ltN v2 p0.length)=true->∃ x4,p0[v2]?=some x4/\((eqN p1 x4)=true->K (Int.ofNat v2))/\((eqN p1 x4)=false->v2+1<2 ^ 63/\nx3 (v2+1)))/\((ltN v2 p0.length)=false->k1 ())) 0) (fun _=>K (Int.negSucc 0))
theorem qV {p0:(List Nat)}{p1:Nat}{K:Int->Prop} (hm:gR p0 p1 K) {h0:Heap} (hB:HasB vars h0):∃ r,K r/\CallD Tryz.prog NG 116 ⟨[(ah 1 n8) p0,n8 p1]⟩ h0 (z64 r) h0:=by
 unfold gR at hm
 refine fw Tryz.func116 hB (enc:=z64) (fun r=>PureV.flat rfl) fun O=>?_;conv=>whnf
 apply Cs;conv=>whnf
 apply Cs;refine gH ?_
 refine jn hm 19 [] (fun s=>s) (fun _ h=>Own vars h0 [] h) (fun _=>[]) (fun hm=>?_) ?_
 ·refine gX ?_
  refine lw 19 [0,1,7] (σ:=Nat) (fun s=>s) (fun v2 h=>Own vars h0 [] h) (fun v2=>[(8,(i64 v2))]) 0 hm O ?_
  clear hm;rintro v2 nx3 base h hm O
  refine gX ?_
  refine br hm (fun hm=>?_) fun hm=>?_
  ·refine gX ?_
   refine atF hm fun x4 hx4 hm=>?_;refine gX ?_
   refine br hm (fun hm=>?_) fun hm=>?_
   ·refine gX ?_
    exact fe hm O
   ·refine gX ?_
    refine aR hm fun hm=>?_;refine gH ?_
    exact jx (v2+1) hm O
  ·refine gX ?_
   exact jx () hm O
 ·clear hm;rintro _ base h hm O
  refine gX ?_
  exact fe hm O
def dh (p0:(List Nat)) (p1:Nat) (K:Bool->Prop):Prop :=
 gR p0 p1 (fun r1=>K (!ltI r1 (Int.ofNat 0)))
theorem mW {p0:(List Nat)}{p1:Nat}{K:Bool->Prop} (hm:dh p0 p1 K) {h0:Heap} (hB:HasB vars h0):∃ r,K r/\CallD Tryz.prog NG 86 ⟨[(ah 1 n8) p0,n8 p1]⟩ h0 (Value.bool r) h0:=by
 unfold dh at hm
 refine fw Tryz.func86 hB (enc:=Value.bool) (fun r=>PureV.flat rfl) fun O=>?_;conv=>whnf
 refine gX ?_
 refine ca (qV hm O.has) fun r1 hm=>?_;refine gX ?_
 exact fe hm O
def fG (p0:(List Nat)) (c:Circ) (K:Int->Prop):Prop :=
 ar (α:=Unit) (fun k1=>aB (S:=Nat) (fun v2 nx3=>((ltN v2 p0.length)=true->∃ x4,p0[v2]?=some x4/\((ltN x4 0)=true->K (Int.ofNat v2))/\((ltN x4 0)=false->((!ltN x4 c.nodes.length)=true->K (Int.ofNat v2))/\((!ltN x4 c.nodes.length)=false->v2+1<2 ^ 63/\nx3 (v2+1))))/\((ltN v2 p0.length)=false->k1 ())) 0) (fun _=>K (Int.negSucc 0))
theorem oy {p0:(List Nat)}{c:Circ}{K:Int->Prop} (hm:fG p0 c K) {h0:Heap} (hB:HasB vars h0):∃ r,K r/\CallD Tryz.prog NG 104 ⟨[(ah 1 i64) p0,(.func (.func 142) ⟨[]⟩ ⟨[(FP (ax c))]⟩)]⟩ h0 (z64 r) h0:=by
 unfold fG at hm
 refine fw Tryz.func104 hB (enc:=z64) (fun r=>PureV.flat rfl) fun O=>?_;conv=>whnf
 apply Cs;conv=>whnf
 apply Cs;refine gH ?_
 refine jn hm 19 [] (fun s=>s) (fun _ h=>Own vars h0 [] h) (fun _=>[]) (fun hm=>?_) ?_
 ·refine gX ?_
  refine lw 19 [0,1,7] (σ:=Nat) (fun s=>s) (fun v2 h=>Own vars h0 [] h) (fun v2=>[(8,(i64 v2))]) 0 hm O ?_
  clear hm;rintro v2 nx3 base h hm O
  refine gX ?_
  refine br hm (fun hm=>?_) fun hm=>?_
  ·refine gX ?_
   refine atF hm fun x4 hx4 hm=>?_;refine gH ?_
   refine fg Tryz.func142 ?_;refine gX ?_
   refine br hm (fun hm=>?_) fun hm=>?_
   ·refine gX ?_
    refine bt ?_;refine gX ?_
    exact fe hm O
   ·refine gX ?_
    refine br hm (fun hm=>?_) fun hm=>?_
    ·refine gX ?_
     exact fe hm O
    ·refine gX ?_
     refine aR hm fun hm=>?_;refine gH ?_
     exact jx (v2+1) hm O
  ·refine gX ?_
   exact jx () hm O
 ·clear hm;rintro _ base h hm O
  refine gX ?_
  exact fe hm O
def cr (p0:(List Nat)) (c:Circ) (K:Bool->Prop):Prop :=
 fG p0 c (fun r1=>K (!ltI r1 (Int.ofNat 0)))
theorem eI {p0:(List Nat)}{c:Circ}{K:Bool->Prop} (hm:cr p0 c K) {h0:Heap} (hB:HasB vars h0):∃ r,K r/\CallD Tryz.prog NG 71 ⟨[(ah 1 i64) p0,(.func (.func 142) ⟨[]⟩ ⟨[(FP (ax c))]⟩)]⟩ h0 (Value.bool r) h0:=by
 unfold cr at hm
 refine fw Tryz.func71 hB (enc:=Value.bool) (fun r=>PureV.flat rfl) fun O=>?_;conv=>whnf
 refine gX ?_
 refine ca (oy hm O.has) fun r1 hm=>?_;refine gX ?_
 exact fe hm O
def gA (p0:(List Nat)) (c:Circ) (K:Int->Prop):Prop :=
 ar (α:=Unit) (fun k1=>aB (S:=Nat) (fun v2 nx3=>((ltN v2 p0.length)=true->∃ x4,p0[v2]?=some x4/\∃ x5,c.nodes[x4]?=some x5/\((neN x5.kind 12)=true->K (Int.ofNat v2))/\((neN x5.kind 12)=false->v2+1<2 ^ 63/\nx3 (v2+1)))/\((ltN v2 p0.length)=false->k1 ())) 0) (fun _=>K (Int.negSucc 0))
theorem pH {p0:(List Nat)}{c:Circ}{K:Int->Prop} (hm:gA p0 c K) {h0:Heap} (hB:HasB vars h0):∃ r,K r/\CallD Tryz.prog NG 104 ⟨[(ah 1 i64) p0,(.func (.func 138) ⟨[]⟩ ⟨[(FP (ax c))]⟩)]⟩ h0 (z64 r) h0:=by
 unfold gA at hm
 refine fw Tryz.func104 hB (enc:=z64) (fun r=>PureV.flat rfl) fun O=>?_;conv=>whnf
 apply Cs;conv=>whnf
 apply Cs;refine gH ?_
 refine jn hm 19 [] (fun s=>s) (fun _ h=>Own vars h0 [] h) (fun _=>[]) (fun hm=>?_) ?_
 ·refine gX ?_
  refine lw 19 [0,1,7] (σ:=Nat) (fun s=>s) (fun v2 h=>Own vars h0 [] h) (fun v2=>[(8,(i64 v2))]) 0 hm O ?_
  clear hm;rintro v2 nx3 base h hm O
  refine gX ?_
  refine br hm (fun hm=>?_) fun hm=>?_
  ·refine gX ?_
   refine atF hm fun x4 hx4 hm=>?_;refine gH ?_
   refine fg Tryz.func138 ?_;refine gX ?_
   refine atF hm fun x5 hx5 hm=>?_;refine gX ?_
   refine br hm (fun hm=>?_) fun hm=>?_
   ·refine gX ?_
    exact fe hm O
   ·refine gX ?_
    refine aR hm fun hm=>?_;refine gH ?_
    exact jx (v2+1) hm O
  ·refine gX ?_
   exact jx () hm O
 ·clear hm;rintro _ base h hm O
  refine gX ?_
  exact fe hm O
def fK (p0:(List Nat)) (c:Circ) (K:Bool->Prop):Prop :=
 gA p0 c (fun r1=>K (!ltI r1 (Int.ofNat 0)))
theorem rn {p0:(List Nat)}{c:Circ}{K:Bool->Prop} (hm:fK p0 c K) {h0:Heap} (hB:HasB vars h0):∃ r,K r/\CallD Tryz.prog NG 71 ⟨[(ah 1 i64) p0,(.func (.func 138) ⟨[]⟩ ⟨[(FP (ax c))]⟩)]⟩ h0 (Value.bool r) h0:=by
 unfold fK at hm
 refine fw Tryz.func71 hB (enc:=Value.bool) (fun r=>PureV.flat rfl) fun O=>?_;conv=>whnf
 refine gX ?_
 refine ca (pH hm O.has) fun r1 hm=>?_;refine gX ?_
 exact fe hm O
def bN (p0:Nat) (K:Bool->Prop):Prop :=
 ((!ltN p0 1)=true->K (!ltN 13 p0))/\((!ltN p0 1)=false->K false)
theorem eK {p0:Nat}{K:Bool->Prop} (hm:bN p0 K) {h0:Heap} (hB:HasB vars h0):∃ r,K r/\CallD Tryz.prog NG 27 ⟨[n8 p0]⟩ h0 (Value.bool r) h0:=by
 unfold bN at hm
 refine fw Tryz.func27 hB (enc:=Value.bool) (fun r=>PureV.flat rfl) fun O=>?_;conv=>whnf
 refine gX ?_
 refine br hm (fun hm=>?_) fun hm=>?_
 ·refine gX ?_
  exact fe hm O
 ·refine gX ?_
  exact fe hm O
def cB (p0:Circ) (p1:Node) (K:Bool->Prop):Prop :=
 ((neN p1.kind 15)=true->((eqN p1.mem 0)=true->K (eqN p1.bit 0))/\((eqN p1.mem 0)=false->K false))/\((neN p1.kind 15)=false->((!ltN p1.mem 0)=true->((ltN p1.mem p0.mems.length)=true->((!ltN p1.bit 0)=true->∃ x1,p0.mems[p1.mem]?=some x1/\K (ltN p1.bit x1.data.length))/\((!ltN p1.bit 0)=false->K false))/\((ltN p1.mem p0.mems.length)=false->K false))/\((!ltN p1.mem 0)=false->K false))
theorem ny {p0:Circ}{p1:Node}{K:Bool->Prop} (hm:cB p0 p1 K) {h0:Heap} (hB:HasB vars h0):∃ r,K r/\CallD Tryz.prog NG 139 ⟨[ax p0,an p1]⟩ h0 (Value.bool r) h0:=by
 unfold cB at hm
 refine fw Tryz.func139 hB (enc:=Value.bool) (fun r=>PureV.flat rfl) fun O=>?_;conv=>whnf
 refine gX ?_
 refine fz ?_;refine gH ?_
 refine fz ?_;refine gX ?_
 refine br hm (fun hm=>?_) fun hm=>?_
 ·refine gX ?_
  refine br hm (fun hm=>?_) fun hm=>?_
  ·refine gX ?_
   exact fe hm O
  ·refine gX ?_
   exact fe hm O
 ·refine gX ?_
  refine br hm (fun hm=>?_) fun hm=>?_
  ·refine gX ?_
   refine dF ?_
   refine gX ?_
   refine br hm (fun hm=>?_) fun hm=>?_
   ·refine gX ?_
    refine br hm (fun hm=>?_) fun hm=>?_
    ·refine gX ?_
     refine dF ?_
     refine gX ?_
     refine atF hm fun x1 hx1 hm=>?_;refine gH ?_
     refine dF ?_
     refine gX ?_
     exact fe hm O
    ·refine gX ?_
     exact fe hm O
   ·refine gX ?_
    refine bf ?_;refine gX ?_
    exact fe hm O
  ·refine gX ?_
   refine bf ?_;refine gH ?_
   refine bf ?_;refine gX ?_
   exact fe hm O
def cT (p0:Circ) (p1:Node) (K:Nat->Prop):Prop :=
 fN p1.kind (fun r1=>((ltN 15 p1.kind)=true->K 7)/\((ltN 15 p1.kind)=false->ar (α:=Bool) (fun k3=>((ltN p1.ins.length r1.1)=true->k3 true)/\((ltN p1.ins.length r1.1)=false->k3 (ltI r1.2 (Int.ofNat p1.ins.length)))) (fun v2=>(v2=true->K 8)/\(v2=false->cr p1.ins p0 (fun r4=>(r4=true->K 1)/\(r4=false->ar (α:=Bool) (fun k6=>((eqN p1.kind 13)=true->fK p1.ins p0 (fun r7=>k6 r7))/\((eqN p1.kind 13)=false->k6 false)) (fun v5=>(v5=true->K 7)/\(v5=false->cB p0 p1 (fun r8=>((!r8)=true->K 1)/\((!r8)=false->K 0))))))))))
theorem mB {p0:Circ}{p1:Node}{K:Nat->Prop} (hm:cT p0 p1 K) {h0:Heap} (hB:HasB vars h0):∃ r,K r/\CallD Tryz.prog NG 110 ⟨[ax p0,an p1]⟩ h0 (i64 r) h0:=by
 unfold cT at hm
 refine fw Tryz.func110 hB (enc:=i64) (fun r=>PureV.flat rfl) fun O=>?_;conv=>whnf
 refine gX ?_
 refine fz ?_;refine gH ?_
 refine fz ?_;refine gX ?_
 refine ca (jg hm O.has) fun r1 hm=>?_;refine gX ?_
 refine br hm (fun hm=>?_) fun hm=>?_
 ·refine gX ?_
  exact fe hm O
 ·refine jn hm 53 [2,3,7] (fun s=>s) (fun v2 h=>Own vars h0 [] h) (fun v2=>[(19,(.bool v2))]) (fun hm=>?_) ?_
  ·refine gX ?_
   refine br hm (fun hm=>?_) fun hm=>?_
   ·refine gX ?_
    exact jx true hm O
   ·refine gX ?_
    exact jx (ltI r1.2 (Int.ofNat p1.ins.length)) hm O
  ·clear hm;rintro v2 base h hm O
   refine gX ?_
   refine br hm (fun hm=>?_) fun hm=>?_
   ·refine gX ?_
    exact fe hm O
   ·refine gX ?_
    refine dF ?_
    refine gX ?_
    refine dF ?_
    refine gX ?_
    refine fg Tryz.func113 ?_;refine gX ?_
    refine fz ?_;refine gX ?_
    refine⟨.inl (Ext.refl _),?_⟩;refine gH ?_
    refine ca (eI hm O.has) fun r4 hm=>?_;refine gH ?_
    refine⟨.inl (Ext.refl _),?_⟩;refine gH ?_
    refine gX ?_
    refine br hm (fun hm=>?_) fun hm=>?_
    ·refine gX ?_
     exact fe hm O
    ·refine jn hm 53 [2,3] (fun s=>s) (fun v5 h=>Own vars h0 [] h) (fun v5=>[(38,(.bool v5))]) (fun hm=>?_) ?_
     ·refine gX ?_
      refine br hm (fun hm=>?_) fun hm=>?_
      ·refine gX ?_
       refine ca (rn hm O.has) fun r7 hm=>?_;refine gH ?_
       exact jx r7 hm O
      ·refine gX ?_
       exact jx false hm O
     ·clear hm;rintro v5 base h hm O
      refine gX ?_
      refine br hm (fun hm=>?_) fun hm=>?_
      ·refine gX ?_
       exact fe hm O
      ·refine gX ?_
       refine ca (ny hm O.has) fun r8 hm=>?_;refine gX ?_
       refine br hm (fun hm=>?_) fun hm=>?_
       ·refine gX ?_
        exact fe hm O
       ·refine gX ?_
        exact fe hm O
def cv (p0:Circ) (p1:Memo) (K:Nat->Prop):Prop :=
 ar (α:=Bool) (fun k2=>((eqN p1.addr.length 0)=true->k2 true)/\((eqN p1.addr.length 0)=false->((ltN 8 p1.addr.length)=true->k2 true)/\((ltN 8 p1.addr.length)=false->((eqN p1.data.length 0)=true->k2 true)/\((eqN p1.data.length 0)=false->k2 (ltN 32 p1.data.length))))) (fun v1=>(v1=true->K 8)/\(v1=false->ar (α:=Bool) (fun k4=>cr p1.addr p0 (fun r5=>(r5=true->k4 true)/\(r5=false->cr p1.data p0 (fun r6=>(r6=true->k4 true)/\(r6=false->((ltN p1.write 0)=true->k4 true)/\((ltN p1.write 0)=false->k4 (!ltN p1.write p0.nodes.length))))))) (fun v3=>(v3=true->K 1)/\(v3=false->K 0))))
theorem kp {p0:Circ}{p1:Memo}{K:Nat->Prop} (hm:cv p0 p1 K) {h0:Heap} (hB:HasB vars h0):∃ r,K r/\CallD Tryz.prog NG 112 ⟨[ax p0,ay p1]⟩ h0 (i64 r) h0:=by
 unfold cv at hm
 refine fw Tryz.func112 hB (enc:=i64) (fun r=>PureV.flat rfl) fun O=>?_;conv=>whnf
 refine gX ?_
 refine fz ?_;refine gH ?_
 refine fz ?_;refine gX ?_
 refine fg Tryz.func113 ?_;refine gX ?_
 refine fz ?_;refine gH ?_
 apply Cs;conv=>whnf
 apply Cs;refine gH ?_
 apply Cs;conv=>whnf
 refine gH ?_
 apply Cs;conv=>whnf
 apply Cs;conv=>whnf
 refine jn hm 37 [3,6] (fun s=>s) (fun v1 h=>Own vars h0 [] h) (fun v1=>[(9,(.bool v1))]) (fun hm=>?_) ?_
 ·refine gX ?_
  refine fg Tryz.func141 ?_;refine gX ?_
  refine br hm (fun hm=>?_) fun hm=>?_
  ·refine gX ?_
   refine bt ?_;refine gH ?_
   exact jx true hm O
  ·refine gX ?_
   refine br hm (fun hm=>?_) fun hm=>?_
   ·refine gX ?_
    exact jx true hm O
   ·refine gX ?_
    refine fg Tryz.func141 ?_;refine gX ?_
    refine br hm (fun hm=>?_) fun hm=>?_
    ·refine gX ?_
     exact jx true hm O
    ·refine gX ?_
     exact jx (ltN 32 p1.data.length) hm O
 ·clear hm;rintro v1 base h hm O
  refine gX ?_
  refine br hm (fun hm=>?_) fun hm=>?_
  ·refine gX ?_
   exact fe hm O
  ·refine jn hm 37 [] (fun s=>s) (fun v3 h=>Own vars h0 [] h) (fun v3=>[(20,(.bool v3))]) (fun hm=>?_) ?_
   ·refine gX ?_
    refine ca (eI hm O.has) fun r5 hm=>?_;refine gH ?_
    refine br hm (fun hm=>?_) fun hm=>?_
    ·refine gX ?_
     refine bt ?_;refine gH ?_
     exact jx true hm O
    ·refine gX ?_
     refine ca (eI hm O.has) fun r6 hm=>?_;refine gH ?_
     refine br hm (fun hm=>?_) fun hm=>?_
     ·refine gX ?_
      exact jx true hm O
     ·refine gX ?_
      refine fg Tryz.func142 ?_;refine gX ?_
      refine br hm (fun hm=>?_) fun hm=>?_
      ·refine gX ?_
       exact jx true hm O
      ·refine gX ?_
       exact jx (!ltN p1.write p0.nodes.length) hm O
   ·clear hm;rintro v3 base h hm O
    refine gX ?_
    refine br hm (fun hm=>?_) fun hm=>?_
    ·refine gX ?_
     exact fe hm O
    ·refine gX ?_
     exact fe hm O
def cG (p0:Circ) (K:Nat->Prop):Prop :=
 ar (α:=Bool) (fun k2=>((ltN 16384 p0.nodes.length)=true->k2 true)/\((ltN 16384 p0.nodes.length)=false->((ltN 16 p0.mems.length)=true->k2 true)/\((ltN 16 p0.mems.length)=false->k2 (ltN 16384 p0.outs.length)))) (fun v1=>(v1=true->K 3)/\(v1=false->((neN p0.names.length p0.nodes.length)=true->K 8)/\((neN p0.names.length p0.nodes.length)=false->ar (α:=Unit) (fun k3=>aB (S:=Nat) (fun v4 nx5=>((ltN v4 p0.nodes.length)=true->∃ x6,p0.nodes[v4]?=some x6/\cT p0 x6 (fun r9=>((neN r9 0)=true->K r9)/\((neN r9 0)=false->v4+1<2 ^ 63/\nx5 (v4+1))))/\((ltN v4 p0.nodes.length)=false->k3 ())) 0) (fun _=>fI p0 (fun r10=>((neN r10 0)=true->K r10)/\((neN r10 0)=false->ar (α:=Unit) (fun k11=>aB (S:=Nat) (fun v12 nx13=>((ltN v12 p0.mems.length)=true->∃ x14,p0.mems[v12]?=some x14/\cv p0 x14 (fun r17=>((neN r17 0)=true->K r17)/\((neN r17 0)=false->v12+1<2 ^ 63/\nx13 (v12+1))))/\((ltN v12 p0.mems.length)=false->k11 ())) 0) (fun _=>cr p0.outs p0 (fun r18=>(r18=true->K 1)/\(r18=false->K 0)))))))))
theorem lA {p0:Circ}{K:Nat->Prop} (hm:cG p0 K) {h0:Heap} (hB:HasB vars h0):∃ r,K r/\CallD Tryz.prog NG 81 ⟨[ax p0]⟩ h0 (i64 r) h0:=by
 unfold cG at hm
 refine fw Tryz.func81 hB (enc:=i64) (fun r=>PureV.flat rfl) fun O=>?_;conv=>whnf
 refine gX ?_
 refine fz ?_;refine gH ?_
 apply Cs;conv=>whnf
 apply Cs;conv=>whnf
 refine jn hm 73 [1] (fun s=>s) (fun v1 h=>Own vars h0 [] h) (fun v1=>[(10,(.bool v1))]) (fun hm=>?_) ?_
 ·refine gX ?_
  refine br hm (fun hm=>?_) fun hm=>?_
  ·refine gX ?_
   refine bt ?_;refine gH ?_
   exact jx true hm O
  ·refine gX ?_
   refine br hm (fun hm=>?_) fun hm=>?_
   ·refine gX ?_
    exact jx true hm O
   ·refine gX ?_
    exact jx (ltN 16384 p0.outs.length) hm O
 ·clear hm;rintro v1 base h hm O
  refine gX ?_
  refine br hm (fun hm=>?_) fun hm=>?_
  ·refine gX ?_
   exact fe hm O
  ·refine gX ?_
   refine br hm (fun hm=>?_) fun hm=>?_
   ·refine gX ?_
    exact fe hm O
   ·apply Cs;conv=>whnf
    refine jn hm 73 [1] (fun s=>s) (fun _ h=>Own vars h0 [] h) (fun _=>[]) (fun hm=>?_) ?_
    ·refine gX ?_
     refine lw 73 [1,36,37] (σ:=Nat) (fun s=>s) (fun v4 h=>Own vars h0 [] h) (fun v4=>[(38,(i64 v4))]) 0 hm O ?_
     clear hm;rintro v4 nx5 base h hm O
     refine gX ?_
     refine br hm (fun hm=>?_) fun hm=>?_
     ·refine gX ?_
      refine atF hm fun x6 hx6 hm=>?_;refine gH ?_
      refine O.new (ai (l:=[(n8 0),nS,(i64 0),(i64 0)]) rfl rfl rfl) fun g7 h O=>?_;refine gH ?_
      refine O.stC 4 (.head _) [(n8 x6.kind),((ah 1 i64) x6.ins),(i64 x6.mem),(i64 x6.bit)] fun h O=>?_;refine gX ?_
      refine ldA (O.at (.head _)) ?_;refine gH ?_
      refine ca (mB hm O.has) fun r9 hm=>?_;refine gX ?_
      refine br hm (fun hm=>?_) fun hm=>?_
      ·refine gX ?_
       exact fe hm O
      ·refine gX ?_
       refine aR hm fun hm=>?_;refine gH ?_
       exact jx (v4+1) hm (O.sel [] (by decide))
     ·refine gX ?_
      exact jx () hm O
    ·clear hm;rintro _ base h hm O
     refine gX ?_
     refine ca (lz hm O.has) fun r10 hm=>?_;refine gX ?_
     refine br hm (fun hm=>?_) fun hm=>?_
     ·refine gX ?_
      exact fe hm O
     ·apply Cs;conv=>whnf
      refine jn hm 73 [1] (fun s=>s) (fun _ h=>Own vars h0 [] h) (fun _=>[]) (fun hm=>?_) ?_
      ·refine gX ?_
       refine lw 73 [1,55,56] (σ:=Nat) (fun s=>s) (fun v12 h=>Own vars h0 [] h) (fun v12=>[(57,(i64 v12))]) 0 hm O ?_
       clear hm;rintro v12 nx13 base h hm O
       refine gX ?_
       refine br hm (fun hm=>?_) fun hm=>?_
       ·refine gX ?_
        refine atF hm fun x14 hx14 hm=>?_;refine gH ?_
        refine O.new (ai (l:=[nS,nS,(i64 0)]) rfl rfl rfl) fun g15 h O=>?_;refine gH ?_
        refine O.stC 3 (.head _) [((ah 1 i64) x14.addr),((ah 1 i64) x14.data),(i64 x14.write)] fun h O=>?_;refine gX ?_
        refine ldA (O.at (.head _)) ?_;refine gH ?_
        refine ca (kp hm O.has) fun r17 hm=>?_;refine gX ?_
        refine br hm (fun hm=>?_) fun hm=>?_
        ·refine gX ?_
         exact fe hm O
        ·refine gX ?_
         refine aR hm fun hm=>?_;refine gH ?_
         exact jx (v12+1) hm (O.sel [] (by decide))
       ·refine gX ?_
        exact jx () hm O
      ·clear hm;rintro _ base h hm O
       refine gX ?_
       refine dF ?_
       refine gX ?_
       refine dF ?_
       refine gX ?_
       refine fg Tryz.func113 ?_;refine gX ?_
       refine fz ?_;refine gX ?_
       refine⟨.inl (Ext.refl _),?_⟩;refine gH ?_
       refine ca (eI hm O.has) fun r18 hm=>?_;refine gH ?_
       refine⟨.inl (Ext.refl _),?_⟩;refine gH ?_
       refine gX ?_
       refine br hm (fun hm=>?_) fun hm=>?_
       ·refine gX ?_
        exact fe hm O
       ·refine gX ?_
        exact fe hm O
def cw (p0:Circ) (p1:(List Nat)) (K:(List Nat)->Prop):Prop :=
 ar (α:=(List Nat)) (fun k5=>aB (S:=((List Nat)×Nat)) (fun (v7,v8) nx10=>((ltN v8 p0.nodes.length)=true->ar (α:=(List Nat)) (fun k14=>∃ x15,p0.nodes[v8]?=some x15/\dh p1 x15.kind (fun r18=>(r18=true->(v7.length+([v8]:(List Nat)).length)*8<=2 ^ 47/\k14 (v7++([v8]:(List Nat))))/\(r18=false->k14 v7))) (fun v12=>v8+1<2 ^ 63/\nx10 (v12,(v8+1))))/\((ltN v8 p0.nodes.length)=false->k5 v7)) (([]:List Nat),0)) (fun v3=>K v3)
theorem gg {p0:Circ}{p1:(List Nat)}{K:(List Nat)->Prop} (hm:cw p0 p1 K) {h0:Heap} (hB:HasB vars h0):∃ r,K r/\CallD Tryz.prog NG 47 ⟨[ax p0,(ah 1 n8) p1]⟩ h0 ((ah 1 i64) r) h0:=by
 unfold cw at hm
 refine fw Tryz.func47 hB (enc:=(ah 1 i64)) (fun r=>cb (fun _=>ag.cons (PureV.flat rfl) ag.nil)) fun O=>?_;conv=>whnf
 refine gX ?_
 refine fz ?_;refine gH ?_
 apply Cs;conv=>whnf
 apply Cs;refine gH ?_
 have O:=O.bc (.cells (flatC ((([]:List Nat)).map i64)) false)
 refine jn (σ:=(List Nat)×Option Nat) hm 27 [] (fun s=>s.1) (fun (v3,a2) h=>(a2=none->v3=[])/\Own vars h0 [(a2,.cells (flatC (v3.map i64)) false)] h) (fun (v3,a2)=>[(5,(aj 1 a2 (v3.map i64)))]) (fun hm=>?_) ?_
 ·refine gX ?_
  refine lw 27 [1,9,10] (σ:=((List Nat)×Nat)×Option Nat) (fun s=>s.1) (fun ((v7,v8),a6) h=>(a6=none->v7=[])/\Own vars h0 [(a6,.cells (flatC (v7.map i64)) false)] h) (fun ((v7,v8),a6)=>[(5,(aj 1 a6 (v7.map i64))),(11,(i64 v8))]) ((([]:List Nat),0),none) hm ⟨(fun _=>rfl),O⟩ ?_
  clear hm;rintro⟨⟨v7,v8⟩,a6⟩ nx10 base h hm ⟨ha9,O⟩
  refine gX ?_
  refine br hm (fun hm=>?_) fun hm=>?_
  ·apply Cs;conv=>whnf
   refine jn (σ:=(List Nat)×Option Nat) hm 27 [1,9,10,11] (fun s=>s.1) (fun (v12,a11) h=>(a11=none->v12=[])/\Own vars h0 [(a11,.cells (flatC (v12.map i64)) false)] h) (fun (v12,a11)=>[(5,(aj 1 a11 (v12.map i64)))]) (fun hm=>?_) ?_
   ·refine gX ?_
    refine atF hm fun x15 hx15 hm=>?_;refine gH ?_
    refine O.new (ai (l:=[(n8 0),nS,(i64 0),(i64 0)]) rfl rfl rfl) fun g16 h O=>?_;refine gH ?_
    refine O.stC 4 (.head _) [(n8 x15.kind),((ah 1 i64) x15.ins),(i64 x15.mem),(i64 x15.bit)] fun h O=>?_;refine gX ?_
    refine ca (mW hm O.has) fun r18 hm=>?_;refine gX ?_
    refine br hm (fun hm=>?_) fun hm=>?_
    ·refine gX ?_
     refine fz ?_;refine gH ?_
     refine O.apL (enc:=i64) (l:=v7) (new:=([v8]:(List Nat))) 1 (.tail _ (.head _)) ha9 hm fun a19 h ha20 O hm=>?_;refine gH ?_
     exact jx ((v7++([v8]:(List Nat))),a19) hm ⟨ha20,(O.sel [1] (by decide))⟩
    ·refine gX ?_
     exact jx (v7,a6) hm ⟨ha9,(O.sel [1] (by decide))⟩
   ·clear hm;rintro⟨v12,a11⟩ base h hm ⟨ha13,O⟩
    refine gX ?_
    refine aR hm fun hm=>?_;refine gH ?_
    exact jx ((v12,(v8+1)),a11) hm ⟨ha13,O⟩
  ·refine gX ?_
   exact jx (v7,a6) hm ⟨ha9,O⟩
 ·clear hm;rintro⟨v3,a2⟩ base h hm ⟨ha4,O⟩
  refine gX ?_
  refine fg Tryz.func87 ?_;refine gX ?_
  refine lT (s:=1) (enc:=i64) (l:=v3) (n:=v3.length) (m:=v3.length) rfl rfl rfl rfl rfl rfl rfl ?_;refine gX ?_
  exact⟨v3,hm,O.ext,fun h2 F=>O.mM F (Nat.le_refl _) (.head _) ha4 (fun _=>rfl)⟩
def bL (p0:Circ) (K:((List Nat)×Nat)->Prop):Prop :=
 cG p0 (fun r1=>((neN r1 0)=true->K ([],r1))/\((neN r1 0)=false->8*p0.nodes.length<=2 ^ 48/\p0.nodes.length<2 ^ 63/\8*p0.nodes.length<=2 ^ 48/\p0.nodes.length<2 ^ 63/\ar (α:=((List Nat)×(List Nat))) (fun k11=>aB (S:=((List Nat)×(List Nat)×Nat)) (fun (v12,v14,v15) nx17=>((ltN v15 p0.nodes.length)=true->ar (α:=((List Nat)×(List Nat))) (fun k22=>∃ x23,p0.nodes[v15]?=some x23/\ar (α:=(List Nat)) (fun k28=>bN x23.kind (fun r29=>(r29=true->v15<p0.nodes.length/\∃ x30,v12[v15]?=some x30/\k28 (v12.set v15 x23.ins.length))/\(r29=false->k28 v12))) (fun v26=>v15<p0.nodes.length/\∃ x31,v26[v15]?=some x31/\((eqN x31 0)=true->(v14.length+([v15]:(List Nat)).length)*8<=2 ^ 47/\k22 (v26,(v14++([v15]:(List Nat)))))/\((eqN x31 0)=false->k22 (v26,v14)))) (fun (v18,v20)=>v15+1<2 ^ 63/\nx17 (v18,v20,(v15+1))))/\((ltN v15 p0.nodes.length)=false->k11 (v12,v14))) ((List.replicate p0.nodes.length (0:Nat)),([]:List Nat),0)) (fun (v7,v9)=>eM p0 (fun r34=>ar (α:=((List Nat)×Nat)) (fun k37=>aB (S:=((List Nat)×(List Nat)×(List Nat)×Nat)) (fun (v38,v39,v41,v42) nx44=>((ltN v42 v41.length)=true->∃ x45,v41[v42]?=some x45/\v42+1<2 ^ 63/\∃ x47,r34[x45]?=some x47/\((eqN x47.length 0)=true->nx44 (v38,v39,v41,(v42+1)))/\((eqN x47.length 0)=false->∃ x48,r34[x45]?=some x48/\aB (S:=((List Nat)×(List Nat)×(List Nat)×Nat)) (fun (v49,v50,v52,v53) nx55=>((ltN v53 x48.length)=true->ar (α:=((List Nat)×(List Nat)×(List Nat))) (fun k61=>∃ x62,x48[v53]?=some x62/\∃ x65,p0.nodes[x62.node]?=some x65/\bN x65.kind (fun r66=>((!r66)=true->k61 (v49,v50,v52))/\((!r66)=false->x62.node<p0.nodes.length/\∃ x67,v49[x62.node]?=some x67/\x45<p0.nodes.length/\∃ x68,v49[x45]?=some x68/\x68+1<2 ^ 63/\x62.node<p0.nodes.length/\∃ x69,v49[x62.node]?=some x69/\x62.node<p0.nodes.length/\∃ x70,v50[x62.node]?=some x70/\1<=x70/\x70<2 ^ 63/\x62.node<p0.nodes.length/\∃ x71,v50[x62.node]?=some x71/\x62.node<p0.nodes.length/\∃ x72,(v50.set x62.node (x70-1))[x62.node]?=some x72/\((eqN x72 0)=true->(v52.length+([x62.node]:(List Nat)).length)*8<=2 ^ 47/\k61 ((v49.set x62.node (max x67 (x68+1))),(v50.set x62.node (x70-1)),(v52++([x62.node]:(List Nat)))))/\((eqN x72 0)=false->k61 ((v49.set x62.node (max x67 (x68+1))),(v50.set x62.node (x70-1)),v52))))) (fun (v56,v57,v59)=>v53+1<2 ^ 63/\nx55 (v56,v57,v59,(v53+1))))/\((ltN v53 x48.length)=false->nx44 (v49,v50,v52,(v42+1)))) (v38,v39,v41,0)))/\((ltN v42 v41.length)=false->k37 (v38,v42))) ((List.replicate p0.nodes.length (0:Nat)),v7,v9,0)) (fun (v35,v36)=>((ltN v36 p0.nodes.length)=true->K ([],6))/\((ltN v36 p0.nodes.length)=false->p0.nodes.length=v35.length/\K (v35,0)))))))
theorem gK {p0:Circ}{K:((List Nat)×Nat)->Prop} (hm:bL p0 K) {h0:Heap} (hB:HasB vars h0):∃ r,K r/\CallD Tryz.prog NG 41 ⟨[ax p0]⟩ h0 ((fun (r:((List Nat)×Nat))=>Value.tuple ⟨[(ah 1 i64) (r.1),i64 (r.2)]⟩) r) h0:=by
 unfold bL at hm
 refine fw Tryz.func41 hB (enc:=(fun (r:((List Nat)×Nat))=>Value.tuple ⟨[(ah 1 i64) (r.1),i64 (r.2)]⟩)) (fun r=>PureV.tup (ag.cons (cb (fun _=>ag.cons (PureV.flat rfl) ag.nil)) (ag.cons (PureV.flat rfl) (ag.nil)))) fun O=>?_;conv=>whnf
 refine gX ?_
 refine fz ?_;refine gX ?_
 refine ca (lA hm O.has) fun r1 hm=>?_;refine gX ?_
 refine br hm (fun hm=>?_) fun hm=>?_
 ·refine gX ?_
  exact⟨([],r1),hm,O.ext,fun h2 F=>VLe.tup (LLe.cons (VLe.nil _ _) (LLe.cons (VLe.refl _ _) (LLe.nil _)))⟩
 ·refine gX ?_
  refine O.mkL (enc:=i64) 8 1 0 hm fun g2 h O hm=>?_;refine gX ?_
  refine O.mkL (enc:=i64) 8 1 0 hm fun g4 h O hm=>?_;refine gH ?_
  apply Cs;conv=>whnf
  apply Cs;refine gH ?_
  have O:=O.bc (.cells (flatC ((([]:List Nat)).map i64)) false)
  refine jn (σ:=((List Nat)×(List Nat))×Option Nat) hm 131 [1,5,6] (fun s=>s.1) (fun ((v7,v9),a8) h=>(a8=none->v9=[])/\Own vars h0 [(sC g2 (flatC ((List.replicate p0.nodes.length (0:Nat)).map i64))),(sC g4 (flatC (v7.map i64))),(a8,.cells (flatC (v9.map i64)) false)] h) (fun ((v7,v9),a8)=>[(7,(aj 1 a8 (v9.map i64)))]) (fun hm=>?_) ?_
  ·refine gX ?_
   refine lw 131 [1,5,6,29,30] (σ:=((List Nat)×(List Nat)×Nat)×Option Nat) (fun s=>s.1) (fun ((v12,v14,v15),a13) h=>(a13=none->v14=[])/\Own vars h0 [(sC g2 (flatC ((List.replicate p0.nodes.length (0:Nat)).map i64))),(sC g4 (flatC (v12.map i64))),(a13,.cells (flatC (v14.map i64)) false)] h) (fun ((v12,v14,v15),a13)=>[(7,(aj 1 a13 (v14.map i64))),(31,(i64 v15))]) (((List.replicate p0.nodes.length (0:Nat)),([]:List Nat),0),none) hm ⟨(fun _=>rfl),(O.sel [2,1,0] (by decide))⟩ ?_
   clear hm;rintro⟨⟨v12,v14,v15⟩,a13⟩ nx17 base h hm ⟨ha16,O⟩
   refine gX ?_
   refine br hm (fun hm=>?_) fun hm=>?_
   ·apply Cs;conv=>whnf
    refine jn (σ:=((List Nat)×(List Nat))×Option Nat) hm 131 [1,5,6,29,30,31] (fun s=>s.1) (fun ((v18,v20),a19) h=>(a19=none->v20=[])/\Own vars h0 [(sC g2 (flatC ((List.replicate p0.nodes.length (0:Nat)).map i64))),(sC g4 (flatC (v18.map i64))),(a19,.cells (flatC (v20.map i64)) false)] h) (fun ((v18,v20),a19)=>[(7,(aj 1 a19 (v20.map i64)))]) (fun hm=>?_) ?_
    ·refine gX ?_
     refine atF hm fun x23 hx23 hm=>?_;refine gH ?_
     refine O.new (ai (l:=[(n8 0),nS,(i64 0),(i64 0)]) rfl rfl rfl) fun g24 h O=>?_;refine gH ?_
     refine O.stC 4 (.head _) [(n8 x23.kind),((ah 1 i64) x23.ins),(i64 x23.mem),(i64 x23.bit)] fun h O=>?_;refine gH ?_
     refine jn hm 131 [1,5,6,7,8,29,30,31] (fun s=>s) (fun v26 h=>(a13=none->v14=[])/\Own vars h0 [(sC g2 (flatC ((List.replicate p0.nodes.length (0:Nat)).map i64))),(sC g4 (flatC (v26.map i64))),(a13,.cells (flatC (v14.map i64)) false)] h) (fun v26=>[]) (fun hm=>?_) ?_
     ·refine gX ?_
      refine ca (eK hm O.has) fun r29 hm=>?_;refine gX ?_
      refine br hm (fun hm=>?_) fun hm=>?_
      ·refine gX ?_
       refine ix 1 hm fun x30 hx30 hm=>?_;refine gH ?_
       refine O.stE 1 (.tail _ (.tail _ (.head _))) hx30 x23.ins.length fun h O=>?_;refine gH ?_
       exact jx (v12.set v15 x23.ins.length) hm ⟨ha16,(O.sel [1,2,3] (by decide))⟩
      ·refine gX ?_
       exact jx v12 hm ⟨ha16,(O.sel [1,2,3] (by decide))⟩
     ·clear hm;rintro v26 base h hm ⟨ha27,O⟩
      refine gX ?_
      refine ix 1 hm fun x31 hx31 hm=>?_;refine gH ?_
      refine ldE (s:=1) (i:=0) (O.at (.tail _ (.head _))) hx31 ?_;refine gX ?_
      refine br hm (fun hm=>?_) fun hm=>?_
      ·refine gX ?_
       refine fz ?_;refine gH ?_
       refine O.apL (enc:=i64) (l:=v14) (new:=([v15]:(List Nat))) 1 (.tail _ (.tail _ (.head _))) ha27 hm fun a32 h ha33 O hm=>?_;refine gH ?_
       exact jx ((v26,(v14++([v15]:(List Nat)))),a32) hm ⟨ha33,O⟩
      ·refine gX ?_
       exact jx ((v26,v14),a13) hm ⟨ha27,O⟩
    ·clear hm;rintro⟨⟨v18,v20⟩,a19⟩ base h hm ⟨ha21,O⟩
     refine gX ?_
     refine aR hm fun hm=>?_;refine gH ?_
     exact jx ((v18,v20,(v15+1)),a19) hm ⟨ha21,O⟩
   ·refine gX ?_
    exact jx ((v12,v14),a13) hm ⟨ha16,O⟩
  ·clear hm;rintro⟨⟨v7,v9⟩,a8⟩ base h hm ⟨ha10,O⟩
   refine gX ?_
   refine ca (kY hm O.has) fun r34 hm=>?_;refine gH ?_
   apply Cs;conv=>whnf
   apply Cs;refine gH ?_
   apply Cs;conv=>whnf
   apply Cs;conv=>whnf
   refine jn hm 131 [1,5] (fun s=>s) (fun (v35,v36) h=>Own vars h0 [(sC g2 (flatC (v35.map i64)))] h) (fun (v35,v36)=>[(11,(i64 v36))]) (fun hm=>?_) ?_
   ·refine gX ?_
    refine lw 131 [1,5,6,10] (σ:=((List Nat)×(List Nat)×(List Nat)×Nat)×Option Nat) (fun s=>s.1) (fun ((v38,v39,v41,v42),a40) h=>(a40=none->v41=[])/\Own vars h0 [(sC g2 (flatC (v38.map i64))),(sC g4 (flatC (v39.map i64))),(a40,.cells (flatC (v41.map i64)) false)] h) (fun ((v38,v39,v41,v42),a40)=>[(7,(aj 1 a40 (v41.map i64))),(11,(i64 v42))]) (((List.replicate p0.nodes.length (0:Nat)),v7,v9,0),a8) hm ⟨ha10,O⟩ ?_
    clear hm;rintro⟨⟨v38,v39,v41,v42⟩,a40⟩ nx44 base h hm ⟨ha43,O⟩
    refine gX ?_
    refine br hm (fun hm=>?_) fun hm=>?_
    ·refine gX ?_
     obtain⟨x45,hx45,hm⟩:=hm
     have h9:=hm
     obtain⟨g46,rfl⟩:=lx ha43 hx45
     replace hm:=h9
     refine bV (s:=1) (j:=v42) rfl rfl rfl rfl (by rw[List.length_map];exact ak hx45) ?_;refine gH ?_
     refine ldE (s:=1) (i:=0) (O.at (.tail _ (.tail _ (.head _)))) hx45 ?_;refine gX ?_
     refine aR hm fun hm=>?_;refine gX ?_
     refine atF hm fun x47 hx47 hm=>?_;refine gX ?_
     refine br hm (fun hm=>?_) fun hm=>?_
     ·refine gX ?_
      exact jx ((v38,v39,v41,(v42+1)),(some g46)) hm ⟨gG,O⟩
     ·refine gX ?_
      refine atF hm fun x48 hx48 hm=>?_;refine gX ?_
      refine lw 131 [1,5,6,10,11,12,76,77] (σ:=((List Nat)×(List Nat)×(List Nat)×Nat)×Option Nat) (fun s=>s.1) (fun ((v49,v50,v52,v53),a51) h=>(a51=none->v52=[])/\Own vars h0 [(sC g2 (flatC (v49.map i64))),(sC g4 (flatC (v50.map i64))),(a51,.cells (flatC (v52.map i64)) false)] h) (fun ((v49,v50,v52,v53),a51)=>[(7,(aj 1 a51 (v52.map i64))),(78,(i64 v53))]) ((v38,v39,v41,0),(some g46)) hm ⟨gG,O⟩ ?_
      clear hm;rintro⟨⟨v49,v50,v52,v53⟩,a51⟩ nx55 base h hm ⟨ha54,O⟩
      refine gX ?_
      refine br hm (fun hm=>?_) fun hm=>?_
      ·apply Cs;conv=>whnf
       refine jn (σ:=((List Nat)×(List Nat)×(List Nat))×Option Nat) hm 131 [1,5,6,10,11,12,76,77,78] (fun s=>s.1) (fun ((v56,v57,v59),a58) h=>(a58=none->v59=[])/\Own vars h0 [(sC g2 (flatC (v56.map i64))),(sC g4 (flatC (v57.map i64))),(a58,.cells (flatC (v59.map i64)) false)] h) (fun ((v56,v57,v59),a58)=>[(7,(aj 1 a58 (v59.map i64)))]) (fun hm=>?_) ?_
       ·refine gX ?_
        refine atF hm fun x62 hx62 hm=>?_;refine gH ?_
        refine O.new (ai (l:=[(i64 0),(i64 0)]) rfl rfl rfl) fun g63 h O=>?_;refine gH ?_
        refine O.stC 2 (.head _) [(i64 x62.node),(i64 x62.pin)] fun h O=>?_;refine gX ?_
        refine atF hm fun x65 hx65 hm=>?_;refine gH ?_
        refine ca (eK hm O.has) fun r66 hm=>?_;refine gX ?_
        refine br hm (fun hm=>?_) fun hm=>?_
        ·refine gX ?_
         exact jx ((v49,v50,v52),a51) hm ⟨ha54,(O.sel [1,2,3] (by decide))⟩
        ·refine gX ?_
         refine ix 1 hm fun x67 hx67 hm=>?_;refine gH ?_
         refine⟨_,ae rfl (O.at (.tail _ (.head _))) rfl (cR (enc:=i64) (s:=1) (k:=0) (fun _=>rfl) hx67 rfl),?_⟩;refine gH ?_
         refine ix 1 hm fun x68 hx68 hm=>?_;refine gH ?_
         refine⟨_,ae rfl (O.at (.tail _ (.head _))) rfl (cR (enc:=i64) (s:=1) (k:=0) (fun _=>rfl) hx68 rfl),?_⟩;refine gH ?_
         refine aR hm fun hm=>?_;refine gH ?_
         refine⟨_,EG (a:=x67) (b:=(x68+1)) rfl rfl,?_⟩;refine gH ?_
         refine ix 1 hm fun x69 hx69 hm=>?_;refine gH ?_
         refine O.stE 1 (.tail _ (.head _)) hx69 (max x67 (x68+1)) fun h O=>?_;refine gH ?_
         refine gX ?_
         refine ix 1 hm fun x70 hx70 hm=>?_;refine gH ?_
         refine ldE (s:=1) (i:=0) (O.at (.tail _ (.tail _ (.head _)))) hx70 ?_;refine gH ?_
         refine rf hm fun hm=>?_;refine gH ?_
         refine ix 1 hm fun x71 hx71 hm=>?_;refine gH ?_
         refine O.stE 1 (.tail _ (.tail _ (.head _))) hx71 (x70-1) fun h O=>?_;refine gX ?_
         refine ix 1 hm fun x72 hx72 hm=>?_;refine gH ?_
         refine ldE (s:=1) (i:=0) (O.at (.tail _ (.tail _ (.head _)))) hx72 ?_;refine gX ?_
         refine br hm (fun hm=>?_) fun hm=>?_
         ·refine gX ?_
          refine fz ?_;refine gH ?_
          refine O.apL (enc:=i64) (l:=v52) (new:=([x62.node]:(List Nat))) 1 (.tail _ (.tail _ (.tail _ (.head _)))) ha54 hm fun a73 h ha74 O hm=>?_;refine gH ?_
          exact jx (((v49.set x62.node (max x67 (x68+1))),(v50.set x62.node (x70-1)),(v52++([x62.node]:(List Nat)))),a73) hm ⟨ha74,(O.sel [1,2,3] (by decide))⟩
         ·refine gX ?_
          exact jx (((v49.set x62.node (max x67 (x68+1))),(v50.set x62.node (x70-1)),v52),a51) hm ⟨ha54,(O.sel [1,2,3] (by decide))⟩
       ·clear hm;rintro⟨⟨v56,v57,v59⟩,a58⟩ base h hm ⟨ha60,O⟩
        refine gX ?_
        refine aR hm fun hm=>?_;refine gH ?_
        exact jx ((v56,v57,v59,(v53+1)),a58) hm ⟨ha60,O⟩
      ·refine gX ?_
       exact jx ((v49,v50,v52,(v42+1)),a51) hm ⟨ha54,O⟩
    ·refine gX ?_
     exact jx (v38,v42) hm (O.sel [0] (by decide))
   ·clear hm;rintro⟨v35,v36⟩ base h hm O
    refine gX ?_
    refine br hm (fun hm=>?_) fun hm=>?_
    ·refine gX ?_
     exact⟨([],6),hm,O.ext,fun h2 F=>VLe.tup (LLe.cons (VLe.nil _ _) (LLe.cons (VLe.refl _ _) (LLe.nil _)))⟩
    ·refine gX ?_
     obtain⟨hn75,hm⟩:=hm
     exact⟨(v35,0),hm,O.ext,fun h2 F=>VLe.tup (LLe.cons (O.iu F (Nat.le_refl _) (.head _) (fun _=>rfl) hn75) (LLe.cons (VLe.refl _ _) (LLe.nil _)))⟩
def cJ (p0:Circ) (K:Nat->Prop):Prop :=
 bL p0 (fun r1=>K r1.2)
theorem lF {p0:Circ}{K:Nat->Prop} (hm:cJ p0 K) {h0:Heap} (hB:HasB vars h0):∃ r,K r/\CallD Tryz.prog NG 80 ⟨[ax p0]⟩ h0 (i64 r) h0:=by
 unfold cJ at hm
 refine fw Tryz.func80 hB (enc:=i64) (fun r=>PureV.flat rfl) fun O=>?_;conv=>whnf
 refine gX ?_
 refine fz ?_;refine gX ?_
 refine ca (gK hm O.has) fun r1 hm=>?_;refine gX ?_
 exact fe hm O
def fA (p0:Nat) (K:Bool->Prop):Prop :=
 K (neN p0 p0)
theorem kb {p0:Nat}{K:Bool->Prop} (hm:fA p0 K) {h0:Heap} (hB:HasB vars h0):∃ r,K r/\CallD Tryz.prog NG 84 ⟨[i64 p0]⟩ h0 (Value.bool r) h0:=by
 unfold fA at hm
 refine fw Tryz.func84 hB (enc:=Value.bool) (fun r=>PureV.flat rfl) fun O=>?_;conv=>whnf
 refine gX ?_
 exact fe hm O
def dB (p0:Nat) (p1:Nat) (K:Int->Prop):Prop :=
 fA p0 (fun r1=>fA p1 (fun r2=>(r1=true->(r2=true->K (Int.ofNat 0))/\(r2=false->K (Int.negSucc 0)))/\(r1=false->(r2=true->K (Int.ofNat 1))/\(r2=false->((ltN p0 p1)=true->K (Int.negSucc 0))/\((ltN p0 p1)=false->((ltN p1 p0)=true->K (Int.ofNat 1))/\((ltN p1 p0)=false->K (Int.ofNat 0)))))))
theorem nJ {p0:Nat}{p1:Nat}{K:Int->Prop} (hm:dB p0 p1 K) {h0:Heap} (hB:HasB vars h0):∃ r,K r/\CallD Tryz.prog NG 44 ⟨[i64 p0,i64 p1]⟩ h0 (z64 r) h0:=by
 unfold dB at hm
 refine fw Tryz.func44 hB (enc:=z64) (fun r=>PureV.flat rfl) fun O=>?_;conv=>whnf
 refine gX ?_
 refine ca (kb hm O.has) fun r1 hm=>?_;refine gX ?_
 refine ca (kb hm O.has) fun r2 hm=>?_;refine gX ?_
 refine br hm (fun hm=>?_) fun hm=>?_
 ·refine gX ?_
  refine br hm (fun hm=>?_) fun hm=>?_
  ·refine gX ?_
   exact fe hm O
  ·refine gX ?_
   exact fe hm O
 ·refine gX ?_
  refine br hm (fun hm=>?_) fun hm=>?_
  ·refine gX ?_
   exact fe hm O
  ·refine gX ?_
   refine br hm (fun hm=>?_) fun hm=>?_
   ·refine gX ?_
    exact fe hm O
   ·refine gX ?_
    refine br hm (fun hm=>?_) fun hm=>?_
    ·refine gX ?_
     exact fe hm O
    ·refine gX ?_
     exact fe hm O
def eT (data:List Nat) (lev:List Nat) (nd:Nat) (a:Nat) (b:Nat) (K:(List Nat)->Prop):Prop :=
 a+1<2 ^ 63/\aB (S:=((List Nat)×Nat)) (fun (v1,v2) nx3=>((ltN v2 b)=true->ar (α:=(List Nat)) (fun k5=>aB (S:=((List Nat)×Nat)) (fun (v6,v7) nx8=>ar (α:=Bool) (fun k10=>((ltN a v7)=true->v7<nd/\∃ x11,v6[v7]?=some x11/\1<=v7/\v7<2 ^ 63/\(v7-1)<nd/\∃ x12,v6[(v7-1)]?=some x12/\∃ x13,lev[x11]?=some x13/\∃ x14,lev[x12]?=some x14/\dB x13 x14 (fun r15=>k10 (ltI r15 (Int.ofNat 0))))/\((ltN a v7)=false->k10 false)) (fun v9=>(v9=true->1<=v7/\v7<2 ^ 63/\1<=v7/\v7<2 ^ 63/\(v7-1)<nd/\∃ x16,v6[(v7-1)]?=some x16/\v7<nd/\∃ x17,v6[v7]?=some x17/\v7<nd/\∃ x18,v6[v7]?=some x18/\(v7-1)<nd/\∃ x19,(v6.set v7 x16)[(v7-1)]?=some x19/\1<=v7/\v7<2 ^ 63/\nx8 (((v6.set v7 x16).set (v7-1) x17),(v7-1)))/\(v9=false->k5 v6))) (v1,v2)) (fun v4=>v2+1<2 ^ 63/\nx3 (v4,(v2+1))))/\((ltN v2 b)=false->K v1)) (data,(a+1))
theorem lS {data:List Nat}{lev:List Nat}{nd:Nat}{a:Nat}{b:Nat}{gd:Nat}{gl:Nat}{L:List Slot}{K:(List Nat)->Prop} (hm:eT data lev nd a b K) {h0 h:Heap}  (O:Own vars h0 (((some gd),.cells (flatC (data.map i64)) false)::((some gl),.cells [((ah 1 i64) lev)] false)::L) h):∃ v h',CallD Tryz.prog NG 114 ⟨[(.slice (some ⟨gd,0,none⟩) nd nd),(i64 a),(i64 b),(.func (.func 43) ⟨[]⟩ ⟨[(.pointer (some ⟨gl,0,none⟩))]⟩)]⟩ h v h'/\∃ (w0:(List Nat)),K w0/\v=.tuple ⟨[]⟩/\Own vars h0 (((some gd),.cells (flatC (w0.map i64)) false)::((some gl),.cells [((ah 1 i64) lev)] false)::L) h'/\True:=by
 unfold eT at hm
 refine fg Tryz.func114 (Q:=fun v h'=>∃ (w0:(List Nat)),K w0/\v=.tuple ⟨[]⟩/\Own vars h0 (((some gd),.cells (flatC (w0.map i64)) false)::((some gl),.cells [((ah 1 i64) lev)] false)::L) h'/\True) ?_;conv=>whnf
 refine gX ?_
 refine aR hm fun hm=>?_;refine gX ?_
 refine lw 53 [0,1,2,3] (σ:=((List Nat)×Nat)) (fun s=>s) (fun (v1,v2) h=>Own vars h0 (((some gd),.cells (flatC (v1.map i64)) false)::((some gl),.cells [((ah 1 i64) lev)] false)::L) h) (fun (v1,v2)=>[(8,(i64 v2))]) (data,(a+1)) hm O ?_
 clear hm;rintro⟨v1,v2⟩ nx3 base h hm O
 refine gX ?_
 refine br hm (fun hm=>?_) fun hm=>?_
 ·apply Cs;conv=>whnf
  refine jn hm 53 [0,1,2,3,8] (fun s=>s) (fun v4 h=>Own vars h0 (((some gd),.cells (flatC (v4.map i64)) false)::((some gl),.cells [((ah 1 i64) lev)] false)::L) h) (fun v4=>[]) (fun hm=>?_) ?_
  ·refine gX ?_
   refine lw 53 [0,1,2,3,8] (σ:=((List Nat)×Nat)) (fun s=>s) (fun (v6,v7) h=>Own vars h0 (((some gd),.cells (flatC (v6.map i64)) false)::((some gl),.cells [((ah 1 i64) lev)] false)::L) h) (fun (v6,v7)=>[(9,(i64 v7))]) (v1,v2) hm O ?_
   clear hm;rintro⟨v6,v7⟩ nx8 base h hm O
   conv=>whnf
   apply Cs;conv=>whnf
   refine jn hm 53 [0,1,2,3,8,9] (fun s=>s) (fun v9 h=>Own vars h0 (((some gd),.cells (flatC (v6.map i64)) false)::((some gl),.cells [((ah 1 i64) lev)] false)::L) h) (fun v9=>[(34,(.bool v9))]) (fun hm=>?_) ?_
   ·refine gX ?_
    refine br hm (fun hm=>?_) fun hm=>?_
    ·refine gX ?_
     refine ix 1 hm fun x11 hx11 hm=>?_;refine gH ?_
     refine⟨_,ae rfl (O.at (.head _)) rfl (cR (enc:=i64) (s:=1) (k:=0) (fun _=>rfl) hx11 rfl),?_⟩;refine gH ?_
     refine rf hm fun hm=>?_;refine gH ?_
     refine ix 1 hm fun x12 hx12 hm=>?_;refine gH ?_
     refine⟨_,ae rfl (O.at (.head _)) rfl (cR (enc:=i64) (s:=1) (k:=0) (fun _=>rfl) hx12 rfl),?_⟩;refine gH ?_
     refine fg Tryz.func43 ?_;refine gX ?_
     first|refine⟨.inr (.inr (ae rfl (O.at (.tail _ (.head _))) rfl rfl)),?_⟩|refine⟨.inr (.inl (by kernel_rfl)),?_⟩
     refine gX ?_
     refine atF hm fun x13 hx13 hm=>?_;refine gH ?_
     first|refine⟨.inr (.inr (ae rfl (O.at (.tail _ (.head _))) rfl rfl)),?_⟩|refine⟨.inr (.inl (by kernel_rfl)),?_⟩
     refine gX ?_
     refine atF hm fun x14 hx14 hm=>?_;refine gH ?_
     refine ca (nJ hm O.has) fun r15 hm=>?_;refine gH ?_
     refine⟨.inl (Ext.refl _),?_⟩;refine gH ?_
     refine gX ?_
     refine⟨.inl (Ext.refl _),?_⟩;refine gH ?_
     exact jx (ltI r15 (Int.ofNat 0)) hm O
    ·refine gX ?_
     exact jx false hm O
   ·clear hm;rintro v9 base h hm O
    refine gX ?_
    refine br hm (fun hm=>?_) fun hm=>?_
    ·refine gX ?_
     refine rf hm fun hm=>?_;refine gH ?_
     refine rf hm fun hm=>?_;refine gH ?_
     refine ix 1 hm fun x16 hx16 hm=>?_;refine gH ?_
     refine⟨_,ae rfl (O.at (.head _)) rfl (cR (enc:=i64) (s:=1) (k:=0) (fun _=>rfl) hx16 rfl),?_⟩;refine gH ?_
     refine ix 1 hm fun x17 hx17 hm=>?_;refine gH ?_
     refine⟨_,ae rfl (O.at (.head _)) rfl (cR (enc:=i64) (s:=1) (k:=0) (fun _=>rfl) hx17 rfl),?_⟩;refine gH ?_
     refine ix 1 hm fun x18 hx18 hm=>?_;refine gH ?_
     refine O.stE 1 (.head _) hx18 x16 fun h O=>?_;refine gH ?_
     refine ix 1 hm fun x19 hx19 hm=>?_;refine gH ?_
     refine O.stE 1 (.head _) hx19 x17 fun h O=>?_;refine gH ?_
     refine gX ?_
     refine rf hm fun hm=>?_;refine gH ?_
     exact jx (((v6.set v7 x16).set (v7-1) x17),(v7-1)) hm O
    ·refine gX ?_
     exact jx v6 hm O
  ·clear hm;rintro v4 base h hm O
   refine gX ?_
   refine aR hm fun hm=>?_;refine gH ?_
   exact jx (v4,(v2+1)) hm O
 ·refine gX ?_
  exact⟨v1,hm,rfl,O,trivial⟩
def dz (data:List Nat) (lev:List Nat) (nd:Nat) (n:Nat) (K:(List Nat)->Prop):Prop :=
 ar (α:=((List Nat)×Nat)) (fun k3=>aB (S:=((List Nat)×Nat×Nat)) (fun (v4,v5,v6) nx7=>((!ltN n v6)=true->eT v4 lev nd v5 v6 (fun x8=>v6+20<2 ^ 63/\nx7 (x8,v6,(v6+20))))/\((!ltN n v6)=false->k3 (v4,v5))) (data,0,20)) (fun (v1,v2)=>eT v1 lev nd v2 n (fun x9=>aB (S:=Nat) (fun v10 nx11=>((ltN v10 n)=true->2*v10<2 ^ 63/\ar (α:=Unit) (fun k12=>aB (S:=Unit) (fun _ _nx13=>((!ltN n (2*v10))=true->0+v10<2 ^ 63/\False)/\((!ltN n (2*v10))=false->k12 ())) ()) (fun _=>ar (α:=Unit) (fun k14=>0+v10<2 ^ 63/\((ltN (0+v10) n)=true->False)/\((ltN (0+v10) n)=false->k14 ())) (fun _=>v10*2<2 ^ 63/\nx11 (v10*2))))/\((ltN v10 n)=false->K x9)) 20))
theorem oG {data:List Nat}{lev:List Nat}{nd:Nat}{n:Nat}{gd:Nat}{gl:Nat}{L:List Slot}{K:(List Nat)->Prop} (hm:dz data lev nd n K) {h0 h:Heap}  (O:Own vars h0 (((some gd),.cells (flatC (data.map i64)) false)::((some gl),.cells [((ah 1 i64) lev)] false)::L) h):∃ v h',CallD Tryz.prog NG 83 ⟨[(.slice (some ⟨gd,0,none⟩) nd nd),(i64 n),(.func (.func 43) ⟨[]⟩ ⟨[(.pointer (some ⟨gl,0,none⟩))]⟩)]⟩ h v h'/\∃ (w0:(List Nat)),K w0/\v=.tuple ⟨[]⟩/\Own vars h0 (((some gd),.cells (flatC (w0.map i64)) false)::((some gl),.cells [((ah 1 i64) lev)] false)::L) h'/\True:=by
 unfold dz at hm
 refine fg Tryz.func83 (Q:=fun v h'=>∃ (w0:(List Nat)),K w0/\v=.tuple ⟨[]⟩/\Own vars h0 (((some gd),.cells (flatC (w0.map i64)) false)::((some gl),.cells [((ah 1 i64) lev)] false)::L) h'/\True) ?_;conv=>whnf
 apply Cs;conv=>whnf
 apply Cs;refine gH ?_
 apply Cs;conv=>whnf
 apply Cs;refine gH ?_
 refine jn hm 63 [0,1,2,6] (fun s=>s) (fun (v1,v2) h=>Own vars h0 (((some gd),.cells (flatC (v1.map i64)) false)::((some gl),.cells [((ah 1 i64) lev)] false)::L) h) (fun (v1,v2)=>[(7,(i64 v2))]) (fun hm=>?_) ?_
 ·refine gX ?_
  refine lw 63 [0,1,2,6] (σ:=((List Nat)×Nat×Nat)) (fun s=>s) (fun (v4,v5,v6) h=>Own vars h0 (((some gd),.cells (flatC (v4.map i64)) false)::((some gl),.cells [((ah 1 i64) lev)] false)::L) h) (fun (v4,v5,v6)=>[(7,(i64 v5)),(8,(i64 v6))]) (data,0,20) hm O ?_
  clear hm;rintro⟨v4,v5,v6⟩ nx7 base h hm O
  refine gX ?_
  refine br hm (fun hm=>?_) fun hm=>?_
  ·refine gX ?_
   obtain⟨_,h,hcall,x8,hm,rfl,O,_⟩:=lS hm  O
   refine⟨_,_,hcall,?_⟩;refine gX ?_
   refine aR hm fun hm=>?_;refine gH ?_
   exact jx (x8,v6,(v6+20)) hm O
  ·refine gX ?_
   exact jx (v4,v5) hm O
 ·clear hm;rintro⟨v1,v2⟩ base h hm O
  refine gX ?_
  obtain⟨_,h,hcall,x9,hm,rfl,O,_⟩:=lS hm  O
  refine⟨_,_,hcall,?_⟩;refine gX ?_
  refine lw 63 [0,1,2] (σ:=Nat) (fun s=>s) (fun v10 h=>Own vars h0 (((some gd),.cells (flatC (x9.map i64)) false)::((some gl),.cells [((ah 1 i64) lev)] false)::L) h) (fun v10=>[(6,(i64 v10))]) 20 hm O ?_
  clear hm;rintro v10 nx11 base h hm O
  refine gX ?_
  refine br hm (fun hm=>?_) fun hm=>?_
  ·refine gX ?_
   refine Ee hm fun hm=>?_;refine gH ?_
   refine jn hm 63 [0,1,2,6] (fun s=>s) (fun _ h=>Own vars h0 (((some gd),.cells (flatC (x9.map i64)) false)::((some gl),.cells [((ah 1 i64) lev)] false)::L) h) (fun _=>[(7,(i64 0))]) (fun hm=>?_) ?_
   ·refine gX ?_
    refine lw 63 [0,1,2,6] (σ:=Unit) (fun s=>s) (fun _ h=>Own vars h0 (((some gd),.cells (flatC (x9.map i64)) false)::((some gl),.cells [((ah 1 i64) lev)] false)::L) h) (fun _=>[(7,(i64 0)),(8,(i64 (2*v10)))]) () hm O ?_
    clear hm;rintro _ nx13 base h hm O
    refine gX ?_
    refine br hm (fun hm=>?_) fun hm=>?_
    ·refine gX ?_
     refine aR hm fun hm=>?_;refine gH ?_
     exact False.elim hm
    ·refine gX ?_
     exact jx () hm O
   ·clear hm;rintro _ base h hm O
    conv=>whnf
    refine jn hm 63 [0,1,2,6] (fun s=>s) (fun _ h=>Own vars h0 (((some gd),.cells (flatC (x9.map i64)) false)::((some gl),.cells [((ah 1 i64) lev)] false)::L) h) (fun _=>[]) (fun hm=>?_) ?_
    ·refine gX ?_
     refine aR hm fun hm=>?_;refine gX ?_
     refine br hm (fun hm=>?_) fun hm=>?_
     ·refine gX ?_
      exact False.elim hm
     ·refine gX ?_
      exact jx () hm O
    ·clear hm;rintro _ base h hm O
     refine gX ?_
     refine Ee hm fun hm=>?_;refine gH ?_
     exact jx (v10*2) hm O
  ·refine gX ?_
   exact⟨x9,hm,rfl,O,trivial⟩
def iI (data:List Nat) (lev:List Nat) (nd:Nat) (K:(List Nat)->Prop):Prop :=
 dz data lev nd nd (fun x1=>K x1)
theorem sr {data:List Nat}{lev:List Nat}{nd:Nat}{gd:Nat}{gl:Nat}{L:List Slot}{K:(List Nat)->Prop} (hm:iI data lev nd K) {h0 h:Heap}  (O:Own vars h0 (((some gd),.cells (flatC (data.map i64)) false)::((some gl),.cells [((ah 1 i64) lev)] false)::L) h):∃ v h',CallD Tryz.prog NG 42 ⟨[(.slice (some ⟨gd,0,none⟩) nd nd),(.func (.func 43) ⟨[]⟩ ⟨[(.pointer (some ⟨gl,0,none⟩))]⟩)]⟩ h v h'/\∃ (w0:(List Nat)),K w0/\v=.tuple ⟨[]⟩/\Own vars h0 (((some gd),.cells (flatC (w0.map i64)) false)::((some gl),.cells [((ah 1 i64) lev)] false)::L) h'/\True:=by
 unfold iI at hm
 refine fg Tryz.func42 (Q:=fun v h'=>∃ (w0:(List Nat)),K w0/\v=.tuple ⟨[]⟩/\Own vars h0 (((some gd),.cells (flatC (w0.map i64)) false)::((some gl),.cells [((ah 1 i64) lev)] false)::L) h'/\True) ?_;conv=>whnf
 refine gX ?_
 obtain⟨_,h,hcall,x1,hm,rfl,O,_⟩:=oG hm  O
 refine⟨_,_,hcall,?_⟩;refine gH ?_
 exact⟨x1,hm,rfl,O,trivial⟩
def aO (p0:Circ) (K:((List Nat)×Nat)->Prop):Prop :=
 bL p0 (fun r1=>((neN r1.2 0)=true->K ([],r1.2))/\((neN r1.2 0)=false->8*p0.nodes.length<=2 ^ 48/\p0.nodes.length<2 ^ 63/\ar (α:=(List Nat)) (fun k7=>aB (S:=((List Nat)×Nat)) (fun (v8,v9) nx10=>((ltN v9 p0.nodes.length)=true->v9<p0.nodes.length/\∃ x11,v8[v9]?=some x11/\v9+1<2 ^ 63/\nx10 ((v8.set v9 v9),(v9+1)))/\((ltN v9 p0.nodes.length)=false->k7 v8)) ((List.replicate p0.nodes.length (0:Nat)),0)) (fun v6=>iI v6 r1.1 p0.nodes.length (fun x12=>p0.nodes.length=x12.length/\K (x12,0)))))
theorem cm {p0:Circ}{K:((List Nat)×Nat)->Prop} (hm:aO p0 K) {h0:Heap} (hB:HasB vars h0):∃ r,K r/\CallD Tryz.prog NG 15 ⟨[ax p0]⟩ h0 ((fun (r:((List Nat)×Nat))=>Value.tuple ⟨[(ah 1 i64) (r.1),i64 (r.2)]⟩) r) h0:=by
 unfold aO at hm
 refine fw Tryz.func15 hB (enc:=(fun (r:((List Nat)×Nat))=>Value.tuple ⟨[(ah 1 i64) (r.1),i64 (r.2)]⟩)) (fun r=>PureV.tup (ag.cons (cb (fun _=>ag.cons (PureV.flat rfl) ag.nil)) (ag.cons (PureV.flat rfl) (ag.nil)))) fun O=>?_;conv=>whnf
 refine gX ?_
 refine fz ?_;refine gX ?_
 refine ca (gK hm O.has) fun r1 hm=>?_;refine gH ?_
 refine O.new (ai (l:=[nS]) rfl rfl rfl) fun g2 h O=>?_;refine gH ?_
 refine O.stC 1 (.head _) [((ah 1 i64) r1.1)] fun h O=>?_;refine gX ?_
 refine br hm (fun hm=>?_) fun hm=>?_
 ·refine gX ?_
  exact⟨([],r1.2),hm,O.ext,fun h2 F=>VLe.tup (LLe.cons (VLe.nil _ _) (LLe.cons (VLe.refl _ _) (LLe.nil _)))⟩
 ·refine gX ?_
  refine O.mkL (enc:=i64) 8 1 0 hm fun g4 h O hm=>?_;refine gH ?_
  refine jn hm 34 [4,6] (fun s=>s) (fun v6 h=>Own vars h0 [(sC g2 [((ah 1 i64) r1.1)]),(sC g4 (flatC (v6.map i64)))] h) (fun v6=>[]) (fun hm=>?_) ?_
  ·refine gX ?_
   refine lw 34 [4,6,21] (σ:=((List Nat)×Nat)) (fun s=>s) (fun (v8,v9) h=>Own vars h0 [(sC g2 [((ah 1 i64) r1.1)]),(sC g4 (flatC (v8.map i64)))] h) (fun (v8,v9)=>[(22,(i64 v9))]) ((List.replicate p0.nodes.length (0:Nat)),0) hm (O.sel [1,0] (by decide)) ?_
   clear hm;rintro⟨v8,v9⟩ nx10 base h hm O
   refine gX ?_
   refine br hm (fun hm=>?_) fun hm=>?_
   ·refine gX ?_
    refine ix 1 hm fun x11 hx11 hm=>?_;refine gH ?_
    refine O.stE 1 (.tail _ (.head _)) hx11 v9 fun h O=>?_;refine gX ?_
    refine aR hm fun hm=>?_;refine gH ?_
    exact jx ((v8.set v9 v9),(v9+1)) hm O
   ·refine gX ?_
    exact jx v8 hm O
  ·clear hm;rintro v6 base h hm O
   refine gX ?_
   obtain⟨_,h,hcall,x12,hm,rfl,O,_⟩:=sr hm  (O.sel [1,0] (by decide))
   refine⟨_,_,hcall,?_⟩;refine gX ?_
   obtain⟨hn13,hm⟩:=hm
   exact⟨(x12,0),hm,O.ext,fun h2 F=>VLe.tup (LLe.cons (O.iu F (Nat.le_refl _) (.head _) (fun _=>rfl) hn13) (LLe.cons (VLe.refl _ _) (LLe.nil _)))⟩
theorem aQ {a b:Nat}:ltN a b=true↔a<b:=by rw[cW];simp
theorem bk {a b:Nat}:ltN a b=false↔b<=a:=by rw[cW];simp
theorem bD {a b:Nat}:eqN a b=true↔a=b:=by rw[iB];simp
theorem bW {a b:Nat}:eqN a b=false ↔ ¬ a=b:=by rw[iB];simp
theorem dV {a b:Nat}:neN a b=true ↔ ¬ a=b:=by rw[tZ];simp
theorem pD {a b:Nat}:neN a b=false↔a=b:=by rw[tZ];simp
theorem mR {a b:Nat}:(!ltN a b)=true↔b<=a:=by rw[cW];simp
theorem oT {a b:Nat}:(!ltN a b)=false↔a<b:=by rw[cW];simp
theorem dM {α:Type}{first:(α->Prop)->Prop}{rest:α->Prop} (h:first rest):ar first rest:=h
theorem aw {α:Type}{l:List α}{i:Nat} (h:i<l.length):∃ x,l[i]?=some x:=⟨l[i],List.getElem?_eq_getElem h⟩
theorem dQ {α:Type}{l:List α}{body:(Unit->Prop)->Nat->(Nat->Prop)->Prop}{rest:Unit->Prop}
  (step:∀ k i nx x,l[i]?=some x->i+1<=l.length->nx (i+1)->body k i nx)
  (fin:∀ k i nx,l.length<=i->k ()->body k i nx) (h:rest ()):ar (fun k=>aB (fun i nx=>body k i nx) 0) rest:=by
 refine aD (fun i=>i<=l.length) (fun i=>l.length-i) (fun _=>True) ?_ (Nat.zero_le _) (fun _ _=>h)
 intro k i nx hi hn hk
 by_cases c:i<l.length
 ·obtain⟨x,hx⟩:=aw c
  exact step k i nx x hx c (hn (i+1) c (by omega))
 ·exact fin k i nx (by omega) (hk () trivial)
def eY (v:Nat):Nat:=if v<=1 then 1-v else 2
def eo (low high:Nat):List Nat->Nat->Nat
 |[],out=>out
 |v::r,out=>if v=low then low else eo low high r (if v=high then out else 2)
def fW:List Nat->Nat->Nat
 |[],o=>o
 |v::r,o=>if v<=1 then fW r (o ^^^ v) else 2
def se (s a b:Nat):Nat:=if s=0 then min a 2 else if s=1 then min b 2 else if a=b then min a 2 else 2
def lM (k:Nat) (l:List Nat):Nat :=
 if k=1 then 0 else if k=2 then 1 else if k=3 then min (l.getD 0 0) 2 else if k=4 then eY (l.getD 0 0)
 else if k=5 then eo 0 1 l 1 else if k=6 then eY (eo 0 1 l 1) else if k=7 then eo 1 0 l 0 else if k=8 then eY (eo 1 0 l 0)
 else if k=9 then fW l 0 else if k=10 then eY (fW l 0) else if k=11 then se (l.getD 0 0) (l.getD 1 0) (l.getD 2 0) else 2
theorem ij {p:Nat}{K:Bool->Prop} (h:K (decide (p<=1))):aP p K:=by
 unfold aP
 have:(!ltN 1 p)=decide (p<=1):=by
  rw[Bool.eq_iff_iff,mR];simp
 rw[this];exact h
theorem mE {p:Nat}{K:Nat->Prop} (h:K (eY p)):bz p K:=by
 unfold bz
 refine ij ?_
 unfold eY at h
 by_cases c:p<=1
 ·rw[if_pos c] at h
  exact⟨fun _=>⟨c,by decide,h⟩,fun hc=>absurd c (of_decide_eq_false hc)⟩
 ·rw[if_neg c] at h
  exact⟨fun hc=>absurd (of_decide_eq_true hc) c,fun _=>h⟩
theorem je {α:Type}{l:List α}{i:Nat}{x:α} (h:l[i]?=some x):l.drop i=x::l.drop (i+1):=by
 obtain⟨h1,rfl⟩:=List.getElem?_eq_some_iff.1 h
 exact List.drop_eq_getElem_cons h1
theorem jG {l:List Nat}{low high:Nat}{K:Nat->Prop} (hl:l.length<2 ^ 60) (h:K (eo low high l high)):cu l low high K:=by
 unfold cu
 refine aD (fun s=>s.2<=l.length/\eo low high (l.drop s.2) s.1=eo low high l high) (fun s=>l.length-s.2) (fun a=>a=eo low high l high) ?_ ⟨Nat.zero_le _,rfl⟩ (fun a e=>by rw[e];exact h)
 rintro k ⟨o,i⟩ nx ⟨hi,hI⟩ hn hk
 refine⟨fun hc=>?_,fun hc=>?_⟩
 ·have hc:=aQ.1 hc
  obtain⟨x,hx⟩:=aw hc
  simp only[je hx,eo] at hI
  have next:∀ o',eo low high (l.drop (i+1)) o'=eo low high l high->i+1<2 ^ 63/\nx (o',i+1):=fun o' e=>⟨by omega,hn (o',i+1) ⟨hc,e⟩ (by simp only;omega)⟩
  refine⟨x,hx,fun h1=>?_,fun h1=>⟨fun h2=>?_,fun h2=>?_⟩⟩
  ·have h1:=bD.1 h1
   rw[if_pos h1] at hI
   rw[<- hI] at h
   exact h
  ·rw[if_neg (bW.1 h1),if_neg (dV.1 h2)] at hI
   exact next 2 hI
  ·rw[if_neg (bW.1 h1),if_pos (pD.1 h2)] at hI
   exact next o hI
 ·have hc:=bk.1 hc
  rw[List.drop_eq_nil_of_le hc] at hI
  exact hk o hI
theorem BR {l:List Nat}{K:Nat->Prop} (hl:l.length<2 ^ 60) (h:K (fW l 0)):dT l K:=by
 unfold dT
 refine aD (fun s=>s.2<=l.length/\s.1<=1/\fW (l.drop s.2) s.1=fW l 0) (fun s=>l.length-s.2) (fun a=>a=fW l 0) ?_ ⟨Nat.zero_le _,by decide,rfl⟩ (fun a e=>by rw[e];exact h)
 rintro k ⟨o,i⟩ nx ⟨hi,ho,hI⟩ hn hk
 refine⟨fun hc=>?_,fun hc=>?_⟩
 ·have hc:=aQ.1 hc
  obtain⟨x,hx⟩:=aw hc
  simp only[je hx,fW] at hI
  refine⟨x,hx,ij ⟨fun h1=>?_,fun h1=>?_⟩⟩
  ·have h1:¬ x<=1:=by simpa using h1
   rw[if_neg h1] at hI
   rw[<- hI] at h;exact h
  ·have h1:x<=1:=by simpa using h1
   rw[if_pos h1] at hI
   simp only at ho
   refine⟨by omega,by omega,by omega,hn (o ^^^ x,i+1) ⟨hc,?_,hI⟩ (by simp only;omega)⟩
   have q1:o=0\/o=1:=by omega
   have q2:x=0\/x=1:=by omega
   rcases q1 with rfl|rfl <;> rcases q2 with rfl|rfl <;> simp
 ·have hc:=bk.1 hc
  rw[List.drop_eq_nil_of_le hc] at hI
  exact hk o hI
def Arity (k n:Nat):Prop:=loN k<=n/\(Int.ofNat n<=hiZ k)
instance (k n:Nat):Decidable (Arity k n):=by unfold Arity;exact inferInstance
theorem sD {a b:Int}:ltI a b=false↔b<=a:=by rw[dk];simp
theorem qm {a b:Int}:ltI a b=true↔a<b:=by rw[dk];simp
theorem rW {k:Nat}{K:Nat×Int->Prop} (hk:k<256) (h:K (loN k,hiZ k)):fN k K:=⟨hk,h⟩
theorem sM {n:Nat} (h:Arity 3 n):n=1:=by
 obtain⟨h1,h2⟩:=h
 have e1:loN 3=1:=by decide
 have e2:hiZ 3=1:=by decide
 rw[e1] at h1;rw[e2] at h2
 simp only[Int.ofNat_eq_natCast] at h2;omega
theorem tA {n:Nat} (h:Arity 4 n):n=1:=by
 obtain⟨h1,h2⟩:=h
 have e1:loN 4=1:=by decide
 have e2:hiZ 4=1:=by decide
 rw[e1] at h1;rw[e2] at h2
 simp only[Int.ofNat_eq_natCast] at h2;omega
theorem zg {n:Nat} (h:Arity 11 n):n=3:=by
 obtain⟨h1,h2⟩:=h
 have e1:loN 11=3:=by decide
 have e2:hiZ 11=3:=by decide
 rw[e1] at h1;rw[e2] at h2
 simp only[Int.ofNat_eq_natCast] at h2;omega
theorem DT {s a b:Nat}{K:Nat->Prop} (h:K (se s a b)):fj s a b K:=by
 unfold fj bq
 unfold se at h
 refine⟨fun h1=>?_,fun h1=>⟨fun h2=>?_,fun h2=>⟨fun h3=>?_,fun h3=>?_⟩⟩⟩
 ·rw[if_pos (bD.1 h1)] at h;exact h
 ·rw[if_neg (bW.1 h1),if_pos (bD.1 h2)] at h;exact h
 ·rw[if_neg (bW.1 h1),if_neg (bW.1 h2),if_pos (bD.1 h3)] at h;exact h
 ·rw[if_neg (bW.1 h1),if_neg (bW.1 h2),if_neg (bW.1 h3)] at h;exact h
theorem getD_some {l:List Nat}{i:Nat} (h:i<l.length):l[i]?=some (l.getD i 0):=by
 rw[List.getD,List.getElem?_eq_getElem h];rfl
theorem Cu {k:Nat}{l:List Nat}{K:Nat->Prop} (hk0:1<=k) (hk:k<12) (ha:Arity k l.length) (hl:l.length<2 ^ 60) (h:K (lM k l)):ba k l K:=by
 unfold ba
 refine rW (by omega) ?_
 refine dM ?_
 refine⟨fun h1=>?_,fun h1=>?_⟩
 ·have:=aQ.1 h1;have:=ha.1;simp only at *;omega
 ·have e:ltI (hiZ k) (Int.ofNat l.length)=false:=sD.2 ha.2
  show (ltI (hiZ k) (Int.ofNat l.length)=true->_)/\_
  rw[e]
  refine⟨(fun hc=>by cases hc),fun _=>?_⟩
  unfold lM at h
  refine⟨fun c=>?_,fun c1=>⟨fun c=>?_,fun c2=>⟨fun c=>?_,fun c3=>⟨fun c=>?_,fun c4=>⟨fun c=>?_,fun c5=>⟨fun c=>?_,fun c6=>⟨fun c=>?_,fun c7=>⟨fun c=>?_,fun c8=>⟨fun c=>?_,fun c9=>⟨fun c=>?_,fun c10=>⟨fun c=>?_,fun c11=>?_⟩⟩⟩⟩⟩⟩⟩⟩⟩⟩⟩
  ·have c:=bD.1 c;subst c;exact h
  ·have c:=bD.1 c;subst c;exact h
  ·have c:=bD.1 c;subst c
   exact⟨_,getD_some (by rw[sM ha];decide),h⟩
  ·have c:=bD.1 c;subst c
   exact⟨_,getD_some (by rw[tA ha];decide),mE h⟩
  ·have c:=bD.1 c;subst c;exact jG hl h
  ·have c:=bD.1 c;subst c;exact jG hl (mE h)
  ·have c:=bD.1 c;subst c;exact jG hl h
  ·have c:=bD.1 c;subst c;exact jG hl (mE h)
  ·have c:=bD.1 c;subst c;exact BR hl h
  ·have c:=bD.1 c;subst c;exact BR hl (mE h)
  ·have c:=bD.1 c;subst c
   have:=zg ha
   exact⟨_,getD_some (by omega),_,getD_some (by omega),_,getD_some (by omega),DT h⟩
  ·exfalso
   have a1:=bW.1 c1;have a2:=bW.1 c2;have a3:=bW.1 c3;have a4:=bW.1 c4;have a5:=bW.1 c5;have a6:=bW.1 c6;have a7:=bW.1 c7;have a8:=bW.1 c8;have a9:=bW.1 c9;have a10:=bW.1 c10;have a11:=bW.1 c11
   omega
structure GoodN (c:Circ) (i:Nat) (x:Node):Prop where
 kind:x.kind<=15
 arity:Arity x.kind x.ins.length
 ins:∀ k∈x.ins,k<c.nodes.length
 bus:x.kind=13->∀ k∈x.ins,∃ y,c.nodes[k]?=some y/\y.kind=12
 mem:x.kind≠15->x.mem=0/\x.bit=0
 memb:x.kind=15->∃ m,c.mems[x.mem]?=some m/\x.bit<m.data.length
 acyc:1<=x.kind->x.kind<=13->∀ k∈x.ins,k<i
structure GoodM (c:Circ) (m:Memo):Prop where
 addr:1<=m.addr.length/\m.addr.length<=8
 data:1<=m.data.length/\m.data.length<=32
 addrs:∀ k∈m.addr,k<c.nodes.length
 datas:∀ k∈m.data,k<c.nodes.length
 write:m.write<c.nodes.length
structure Good (c:Circ):Prop where
 len:c.nodes.length<=16
 names:c.names.length=c.nodes.length
 namesOk:NamesOk c
 fanOk:FanOk c
 mems:∀ m∈c.mems,GoodM c m
 memsLen:c.mems.length<=16
 outs:∀ o∈c.outs,o<c.nodes.length
 outsLen:c.outs.length<=16
 node:∀ i x,c.nodes[i]?=some x->GoodN c i x
 pos:0<c.nodes.length
theorem Eo (k:Nat) (hk:k<=15):hiZ k<=16:=by
 have:∀ k,k<=15->hiZ k<=16:=by decide
 exact this k hk
theorem GoodN.few {c:Circ}{i:Nat}{x:Node} (g:GoodN c i x):x.ins.length<=16:=by
 have h1:=Eo _ g.kind
 have h2:=g.arity.2
 simp only[Int.ofNat_eq_natCast] at h2
 omega
theorem jD {l:List Nat}{c:Circ}{K:Bool->Prop} (hl:∀ k∈l,k<c.nodes.length) (hn:l.length<2 ^ 60) (h:K false):cr l c K:=by
 unfold cr fG
 refine dQ (l:=l) ?_ ?_ h
 ·intro k i nx x hx hi hnx
  have hx2:=hl x (List.mem_of_getElem? hx)
  exact⟨fun _=>⟨x,hx,fun h1=>absurd (aQ.1 h1) (Nat.not_lt_zero _),fun _=>⟨fun h2=>absurd (mR.1 h2) (by omega),fun _=>⟨by omega,hnx⟩⟩⟩,fun h1=>absurd (bk.1 h1) (by omega)⟩
 ·intro k i nx hi hk
  exact⟨fun h1=>absurd (aQ.1 h1) (by omega),fun _=>hk⟩
theorem zy {l:List Nat}{c:Circ}{K:Bool->Prop} (hl:∀ k∈l,∃ y,c.nodes[k]?=some y/\y.kind=12) (hn:l.length<2 ^ 60) (h:K false):fK l c K:=by
 unfold fK gA
 refine dQ (l:=l) ?_ ?_ h
 ·intro k i nx x hx hi hnx
  obtain⟨y,hy,hk⟩:=hl x (List.mem_of_getElem? hx)
  exact⟨fun _=>⟨x,hx,y,hy,fun h1=>absurd hk (dV.1 h1),fun _=>⟨by omega,hnx⟩⟩,fun h1=>absurd (bk.1 h1) (by omega)⟩
 ·intro k i nx hi hk
  exact⟨fun h1=>absurd (aQ.1 h1) (by omega),fun _=>hk⟩
theorem tY {k:Nat}{K:Bool->Prop} (h:K (decide (1<=k/\k<=13))):bN k K:=by
 unfold bN
 by_cases c1:1<=k
 ·refine⟨fun _=>?_,fun q=>absurd (oT.1 q) (by omega)⟩
  have:(!ltN 13 k)=decide (1<=k/\k<=13):=by rw[Bool.eq_iff_iff,mR];simp[c1]
  rw[this];exact h
 ·refine⟨fun q=>absurd (mR.1 q) c1,fun _=>?_⟩
  have:decide (1<=k/\k<=13)=false:=decide_eq_false (fun q=>c1 q.1)
  rw[this] at h;exact h
theorem Dg {c:Circ}{x:Node}{K:Bool->Prop} (h1:x.kind≠15->x.mem=0/\x.bit=0) (h2:x.kind=15->∃ m,c.mems[x.mem]?=some m/\x.bit<m.data.length) (h:K true):cB c x K:=by
 unfold cB
 refine⟨fun q=>?_,fun q=>?_⟩
 ·obtain⟨a,b⟩:=h1 (dV.1 q)
  refine⟨fun _=>?_,fun q=>absurd a (bW.1 q)⟩
  rw[bD.2 b];exact h
 ·obtain⟨m,a,b⟩:=h2 (pD.1 q)
  refine⟨fun _=>⟨fun _=>⟨fun _=>⟨m,a,?_⟩,fun q=>absurd (oT.1 q) (Nat.not_lt_zero _)⟩,fun q=>absurd (bk.1 q) (by have:=ak a;omega)⟩,fun q=>absurd (oT.1 q) (Nat.not_lt_zero _)⟩
  rw[aQ.2 b];exact h
theorem CX {c:Circ}{i:Nat}{x:Node}{K:Nat->Prop} (g:GoodN c i x) (h:K 0):cT c x K:=by
 have hf:=g.few
 unfold cT
 refine rW (by have:=g.kind;omega) ?_
 refine⟨fun q=>absurd (aQ.1 q) (by have:=g.kind;omega),fun _=>?_⟩
 have e1:ltN x.ins.length (loN x.kind)=false:=bk.2 g.arity.1
 have e2:ltI (hiZ x.kind) (Int.ofNat x.ins.length)=false:=sD.2 g.arity.2
 refine dM ?_
 refine⟨fun q=>absurd (q.symm.trans e1) (by decide),fun _=>?_⟩
 show (ltI (hiZ x.kind) (Int.ofNat x.ins.length)=true->_)/\_
 rw[e2]
 refine⟨(fun q=>by cases q),fun _=>jD g.ins (by omega) ⟨(fun q=>by cases q),fun _=>?_⟩⟩
 have last:(false=true->K 7)/\(false=false->cB c x fun r8=>((!r8)=true->K 1)/\((!r8)=false->K 0)) :=
  ⟨(fun q=>by cases q),fun _=>Dg g.mem g.memb ⟨(fun q=>by cases q),fun _=>h⟩⟩
 exact⟨fun q=>zy (g.bus (bD.1 q)) (by omega) last,fun _=>last⟩
theorem BD {c:Circ}{K:Nat->Prop} (g:NamesOk c) (h:K 0):fI c K:=⟨g,h⟩
theorem zw {c:Circ}{m:Memo}{K:Nat->Prop} (g:GoodM c m) (h:K 0):cv c m K:=by
 have h1:=g.addr
 have h2:=g.data
 unfold cv
 refine dM ⟨fun q=>absurd (bD.1 q) (by omega),fun _=>⟨fun q=>absurd (aQ.1 q) (by omega),fun _=>⟨fun q=>absurd (bD.1 q) (by omega),fun _=>?_⟩⟩⟩
 rw[bk.2 h2.2]
 refine⟨(fun q=>by cases q),fun _=>dM (jD g.addrs (by omega) ⟨(fun q=>by cases q),fun _=>jD g.datas (by omega) ⟨(fun q=>by cases q),fun _=>⟨fun q=>absurd (aQ.1 q) (Nat.not_lt_zero _),fun _=>?_⟩⟩⟩)⟩
 rw[aQ.2 g.write]
 exact⟨(fun q=>by cases q),fun _=>h⟩
theorem Bh {c:Circ}{K:Nat->Prop} (g:Good c) (h:K 0):cG c K:=by
 have hlen:=g.len
 have hol:=g.outsLen
 unfold cG
 have e1:ltN 16384 c.nodes.length=false:=bk.2 (by omega)
 have e2:ltN 16 c.mems.length=false:=bk.2 g.memsLen
 have e3:ltN 16384 c.outs.length=false:=bk.2 (by omega)
 refine dM ?_
 refine⟨fun q=>absurd (q.symm.trans e1) (by decide),fun _=>⟨fun q=>absurd (q.symm.trans e2) (by decide),fun _=>?_⟩⟩
 show (ltN 16384 c.outs.length=true->_)/\_
 rw[e3]
 refine⟨(fun q=>by cases q),fun _=>⟨fun q=>absurd g.names (dV.1 q),fun _=>?_⟩⟩
 refine dQ (l:=c.nodes) ?_ ?_ ?_
 ·intro k i nx x hx hi hnx
  exact⟨fun _=>⟨x,hx,CX (g.node i x hx) ⟨(fun q=>absurd rfl (dV.1 q)),fun _=>⟨by omega,hnx⟩⟩⟩,fun h1=>absurd (bk.1 h1) (by omega)⟩
 ·intro k i nx hi hk
  exact⟨fun h1=>absurd (aQ.1 h1) (by omega),fun _=>hk⟩
 ·refine BD g.namesOk ⟨(fun q=>absurd rfl (dV.1 q)),fun _=>?_⟩
  refine dQ (l:=c.mems) ?_ ?_ ?_
  ·intro k i nx x hx hi hnx
   have:=g.memsLen
   exact⟨fun _=>⟨x,hx,zw (g.mems x (List.mem_of_getElem? hx)) ⟨fun q=>absurd rfl (dV.1 q),fun _=>⟨by omega,hnx⟩⟩⟩,fun h1=>absurd (bk.1 h1) (by omega)⟩
  ·intro k i nx hi hk
   exact⟨fun h1=>absurd (aQ.1 h1) (by omega),fun _=>hk⟩
  ·exact jD g.outs (by omega) ⟨(fun q=>by cases q),fun _=>h⟩
def ofN (c:Circ) (ks:List Nat):List Nat:=(List.range c.nodes.length).filter fun i=>ks.contains ((c.nodes.map Node.kind).getD i 0)
theorem tQ {l:List Nat}{k:Nat}{K:Bool->Prop} (hn:l.length<2 ^ 60) (h:K (l.contains k)):dh l k K:=by
 unfold dh gR
 refine aD (fun i=>i<=l.length/\(l.take i).contains k=false) (fun i=>l.length-i) (fun _=>l.contains k=false) ?_ ⟨Nat.zero_le _,by simp⟩ (fun _ e=>by rw[e] at h;exact h)
 intro kk i nx ⟨hi,hI⟩ hnx hk
 refine⟨fun q=>?_,fun q=>?_⟩
 ·have q:=aQ.1 q
  obtain⟨x,hx⟩:=aw q
  refine⟨x,hx,fun e=>?_,fun e=>⟨by omega,hnx (i+1) ⟨q,?_⟩ (by omega)⟩⟩
  ·have e:=bD.1 e
   have:l.contains k=true:=by simp;rw[e];exact List.mem_of_getElem? hx
   rw[this] at h
   have e2:(!ltI (Int.ofNat i) (Int.ofNat 0))=true:=by
    have:ltI (Int.ofNat i) (Int.ofNat 0)=false:=sD.2 (Int.natCast_nonneg i)
    rw[this];rfl
   show K (!ltI (Int.ofNat i) (Int.ofNat 0))
   rw[e2];exact h
  ·have e:=bW.1 e
   obtain⟨h1,rfl⟩:=List.getElem?_eq_some_iff.1 hx
   rw[List.take_succ_eq_append_getElem h1]
   simp only[List.contains_eq_mem,List.mem_append,List.mem_singleton,decide_eq_false_iff_not] at hI ⊢
   intro q2
   rcases q2 with q2|q2
   ·exact hI q2
   ·exact e q2
 ·have q:=bk.1 q
  rw[List.take_of_length_le q] at hI
  exact hk () hI
theorem zT {c:Circ}{ks:List Nat}{K:List Nat->Prop} (hc:c.nodes.length<2 ^ 40) (hn:ks.length<2 ^ 60) (h:K (ofN c ks)):cw c ks K:=by
 unfold cw
 refine aD (fun s=>s.2<=c.nodes.length/\s.1=(List.range s.2).filter fun i=>ks.contains ((c.nodes.map Node.kind).getD i 0)) (fun s=>c.nodes.length-s.2) (fun a=>a=ofN c ks) ?_ ⟨Nat.zero_le _,rfl⟩ (fun a e=>by rw[e];exact h)
 rintro k ⟨o,i⟩ nx ⟨hi,hI⟩ hnx hk
 simp only at hi hI
 refine⟨fun q=>?_,fun q=>?_⟩
 ·have q:=aQ.1 q
  obtain⟨x,hx⟩:=aw q
  have hkd:(c.nodes.map Node.kind).getD i 0=x.kind:=by rw[List.getD,List.getElem?_map,hx];rfl
  have hol:o.length<=i:=by rw[hI];exact Nat.le_trans (List.length_filter_le _ _) (by simp)
  refine⟨x,hx,tQ hn ⟨fun e=>⟨by simp only[List.length_singleton];omega,by omega,hnx (o++[i],i+1) ⟨q,?_⟩ (by simp only;omega)⟩,fun e=>⟨by omega,hnx (o,i+1) ⟨q,?_⟩ (by simp only;omega)⟩⟩⟩
  ·show o++[i]=_
   rw[List.range_succ,List.filter_append,<- hI]
   simp only[List.filter_cons,hkd,e,if_true,List.filter_nil]
  ·show o=_
   rw[List.range_succ,List.filter_append,<- hI]
   simp only[List.filter_cons,hkd,e,List.filter_nil]
   simp
 ·have q:=bk.1 q
  have:i=c.nodes.length:=by omega
  subst this
  exact hk o hI
def kd (c:Circ) (i:Nat):Nat:=(c.nodes.map Node.kind).getD i 0
def insOf (c:Circ) (i:Nat):List Nat:=(c.nodes.map Node.ins).getD i []
theorem dj {c:Circ}{i:Nat}{x:Node} (h:c.nodes[i]?=some x):kd c i=x.kind:=by unfold kd;rw[List.getD,List.getElem?_map,h];rfl
theorem oK {c:Circ}{i:Nat}{x:Node} (h:c.nodes[i]?=some x):insOf c i=x.ins:=by unfold insOf;rw[List.getD,List.getElem?_map,h];rfl
def isComb (k:Nat):Prop:=1<=k/\k<=13
instance (k:Nat):Decidable (isComb k):=by unfold isComb;exact inferInstance
theorem mn (x:Nat):∀ (l:List Nat) (s:Nat),((l.zipIdx s).filter fun p=>p.1==x).length=l.count x
 |[],_=>rfl
 |a::l,s=>by
  rw[List.zipIdx_cons,List.filter_cons,List.count_cons]
  by_cases c:a=x
  ·simp[c,mn x l (s+1)]
  ·simp[c,mn x l (s+1)]
theorem rZ (x idx i:Nat) (ins:List Nat):(bB x idx ins).countP (fun l=>l.node==i)=if idx=i then ins.count x else 0:=by
 unfold bB
 rw[List.countP_map]
 by_cases c:idx=i
 ·rw[if_pos c,<- mn x ins 0]
  subst c
  rw[List.countP_eq_length.2 (by intro p _;simp)]
 ·rw[if_neg c]
  rw[List.countP_eq_zero]
  intro p _
  simpa using c
def fanOf (c:Circ) (x:Nat):List Ln:=c.nodes.zipIdx.flatMap fun p=>bB x p.2 p.1.ins
theorem mU (x i:Nat):∀ (ns:List Node) (s:Nat),((ns.zipIdx s).flatMap fun p=>bB x p.2 p.1.ins).countP (fun l=>l.node==i)=if s<=i then ((ns.map Node.ins).getD (i-s) []).count x else 0
 |[],s=>by simp
 |a::ns,s=>by
  rw[List.zipIdx_cons,List.flatMap_cons,List.countP_append,rZ,mU x i ns (s+1)]
  by_cases c:s=i
  ·subst c
   rw[if_pos rfl,if_neg (by omega),if_pos (Nat.le_refl _),Nat.sub_self]
   rfl
  ·rw[if_neg c]
   by_cases q:s<=i
   ·rw[if_pos (by omega:s+1<=i),if_pos q]
    have:i-s=(i-(s+1))+1:=by omega
    rw[this,Nat.zero_add]
    rfl
   ·rw[if_neg (by omega:¬ s+1<=i),if_neg q]
theorem tu (c:Circ) (x i:Nat):(fanOf c x).countP (fun l=>l.node==i)=(insOf c i).count x:=by
 have:=mU x i c.nodes 0
 rw[if_pos (Nat.zero_le _),Nat.sub_zero] at this
 exact this
theorem xb {c:Circ}{x:Nat}{l:Ln} (h:l∈fanOf c x):l.node<c.nodes.length:=by
 unfold fanOf at h
 rw[List.mem_flatMap] at h
 obtain⟨p,h1,h2⟩:=h
 unfold bB at h2
 obtain⟨q,_,rfl⟩:=List.mem_map.1 h2
 have:=List.mem_zipIdx h1
 simp only
 omega
theorem wD {c:Circ}{x:Nat} (h:x<c.nodes.length):(mO c)[x]?=some (fanOf c x):=by
 unfold mO
 rw[List.getElem?_map,List.getElem?_range h]
 rfl
structure LevOk (c:Circ) (lev:List Nat):Prop where
 len:lev.length=c.nodes.length
 up:∀ i x,c.nodes[i]?=some x->isComb x.kind->∀ k∈x.ins,lev.getD k 0<lev.getD i 0
theorem ck {l:List Nat}{i j v:Nat} (h:i<l.length):(l.set i v).getD j 0=if i=j then v else l.getD j 0:=by
 rw[List.getD,List.getD,List.getElem?_set]
 by_cases c:i=j
 ·subst c;simp[h]
 ·simp[c]
structure Kahn (c:Circ) (lev left R:List Nat) (d:Nat):Prop where
 levLen:lev.length=c.nodes.length
 leftLen:left.length=c.nodes.length
 dle:d<=R.length
 nodup:R.Nodup
 lt:∀ r∈R,r<c.nodes.length
 cnt:∀ i,i<c.nodes.length->left.getD i 0=if isComb (kd c i) then (insOf c i).countP (fun k=>decide (k ∉ R.take d)) else 0
 rdy:∀ i,i<c.nodes.length->(i∈R↔left.getD i 0=0)
 up:∀ i,i<c.nodes.length->isComb (kd c i)->∀ k∈insOf c i,k∈R.take d->lev.getD k 0<lev.getD i 0
 bnd:∀ i,lev.getD i 0<=d
structure KahnIn (c:Circ) (lev0 R0:List Nat) (d x:Nat) (lev left R:List Nat) (t:Nat):Prop where
 levLen:lev.length=c.nodes.length
 leftLen:left.length=c.nodes.length
 pre:∃ r,R=R0++r
 nodup:R.Nodup
 lt:∀ r∈R,r<c.nodes.length
 cnt:∀ i,i<c.nodes.length->left.getD i 0=if isComb (kd c i) then (insOf c i).countP (fun k=>decide (k ∉ R0.take d/\k≠x))+((fanOf c x).drop t).countP (fun l=>l.node==i) else 0
 rdy:∀ i,i<c.nodes.length->(i∈R↔left.getD i 0=0)
 up:∀ i,i<c.nodes.length->isComb (kd c i)->∀ k∈insOf c i,k∈R0.take d->lev.getD k 0<lev.getD i 0
 upx:∀ l∈(fanOf c x).take t,isComb (kd c l.node)->lev.getD x 0<lev.getD l.node 0
 bnd:∀ i,lev.getD i 0<=d+1
 bndx:lev.getD x 0<=d
theorem tO (l:List Nat) (p:Nat->Prop) [DecidablePred p] (x:Nat) (hx:¬ p x):l.countP (fun k=>decide (¬ p k))=l.countP (fun k=>decide (¬ p k/\k≠x))+l.count x:=by
 induction l with
 |nil=>rfl
 |cons a l ih =>
  rw[List.countP_cons,List.countP_cons,List.count_cons,ih]
  by_cases c:a=x
  ·subst c
   simp[hx]
   omega
  ·by_cases q:p a
   ·simp[q,c]
   ·simp[q,c]
    omega
theorem Kahn.enter {c:Circ}{lev left R:List Nat}{d x:Nat} (K:Kahn c lev left R d) (hx:R[d]?=some x):KahnIn c lev R d x lev left R 0:=by
 have hxn:x ∉ R.take d:=by
  intro m
  obtain⟨h1,rfl⟩:=List.getElem?_eq_some_iff.1 hx
  obtain⟨j,hj,e⟩:=List.getElem_of_mem m
  rw[List.length_take] at hj
  rw[List.getElem_take] at e
  exact List.pairwise_iff_getElem.1 K.nodup j d (by omega) h1 (by omega) e
 refine⟨K.levLen,K.leftLen,⟨[],by simp⟩,K.nodup,K.lt,fun i hi=>?_,K.rdy,K.up,(fun l m=>by simp at m),fun i=>Nat.le_succ_of_le (K.bnd i),K.bnd x⟩
 rw[K.cnt i hi,List.drop_zero,tu]
 by_cases q:isComb (kd c i)
 ·rw[if_pos q,if_pos q]
  exact tO _ (fun k=>k∈R.take d) x (fun h=>hxn h)
 ·rw[if_neg q,if_neg q]
theorem eD {l:List Nat}{d x:Nat} (hx:l[d]?=some x):l.take (d+1)=l.take d++[x]:=by
 obtain⟨h1,rfl⟩:=List.getElem?_eq_some_iff.1 hx
 exact List.take_succ_eq_append_getElem h1
theorem KahnIn.leave {c:Circ}{lev0 R0 lev left R:List Nat}{d x t:Nat} (hx:R0[d]?=some x) (K:KahnIn c lev0 R0 d x lev left R t) (ht:(fanOf c x).length<=t):Kahn c lev left R (d+1):=by
 have hd:d<R0.length:=(List.getElem?_eq_some_iff.1 hx).1
 obtain⟨r,hr⟩:=K.pre
 have htk:R.take (d+1)=R0.take d++[x]:=by
  rw[hr,List.take_append_of_le_length (by omega),eD hx]
 refine⟨K.levLen,K.leftLen,by rw[hr,List.length_append];omega,K.nodup,K.lt,fun i hi=>?_,K.rdy,fun i hi q k hk m=>?_,K.bnd⟩
 ·rw[K.cnt i hi,List.drop_eq_nil_of_le ht]
  by_cases q:isComb (kd c i)
  ·rw[if_pos q,if_pos q]
   simp only[List.countP_nil,Nat.add_zero,htk]
   congr 1
   funext k
   simp
  ·rw[if_neg q,if_neg q]
 ·rw[htk,List.mem_append,List.mem_singleton] at m
  rcases m with m|rfl
  ·exact K.up i hi q k hk m
  ·have:0<(fanOf c k).countP (fun l=>l.node==i):=by
    rw[tu]
    exact List.count_pos_iff.2 hk
   obtain⟨l,m,e⟩:=List.countP_pos_iff.1 this
   have e:l.node=i:=by simpa using e
   have:=K.upx l (by rw[List.take_of_length_le ht];exact m) (by rw[e];exact q)
   rw[e] at this
   exact this
theorem KahnIn.skip {c:Circ}{lev0 R0 lev left R:List Nat}{d x t:Nat}{l:Ln} (K:KahnIn c lev0 R0 d x lev left R t) (hl:(fanOf c x)[t]?=some l) (hc:¬ isComb (kd c l.node)):KahnIn c lev0 R0 d x lev left R (t+1):=by
 have hd:=je hl
 obtain⟨h1,hl2⟩:=List.getElem?_eq_some_iff.1 hl
 refine⟨K.levLen,K.leftLen,K.pre,K.nodup,K.lt,fun i hi=>?_,K.rdy,K.up,fun l' m q=>?_,K.bnd,K.bndx⟩
 ·rw[K.cnt i hi]
  by_cases q:isComb (kd c i)
  ·rw[if_pos q,if_pos q,hd,List.countP_cons]
   have:(l.node==i)=false:=by
    rw[beq_eq_false_iff_ne]
    intro e;rw[e] at hc;exact hc q
   simp[this]
  ·rw[if_neg q,if_neg q]
 ·rw[List.take_succ_eq_append_getElem h1,hl2,List.mem_append,List.mem_singleton] at m
  rcases m with m|rfl
  ·exact K.upx l' m q
  ·exact absurd q hc
theorem KahnIn.pos {c:Circ}{lev0 R0 lev left R:List Nat}{d x t:Nat}{l:Ln} (K:KahnIn c lev0 R0 d x lev left R t) (hl:(fanOf c x)[t]?=some l) (hc:isComb (kd c l.node)):1<=left.getD l.node 0:=by
 rw[K.cnt _ (xb (List.mem_of_getElem? hl)),if_pos hc,je hl,List.countP_cons]
 simp
 omega
theorem KahnIn.step {c:Circ}{lev0 R0 lev left R:List Nat}{d x t:Nat}{l:Ln} (K:KahnIn c lev0 R0 d x lev left R t) (hl:(fanOf c x)[t]?=some l) (hc:isComb (kd c l.node)) (hx:R0[d]?=some x) {R':List Nat}
  (hR:(left.getD l.node 0-1=0/\R'=R++[l.node])\/(left.getD l.node 0-1≠0/\R'=R)) :
  KahnIn c lev0 R0 d x (lev.set l.node (max (lev.getD l.node 0) (lev.getD x 0+1))) (left.set l.node (left.getD l.node 0-1)) R' (t+1):=by
 have hd:=je hl
 obtain⟨h1,hl2⟩:=List.getElem?_eq_some_iff.1 hl
 have hj:=xb (List.mem_of_getElem? hl)
 have hpos:=K.pos hl hc
 have hjR:l.node ∉ R:=fun m=>by
  have:=(K.rdy _ hj).1 m
  omega
 obtain⟨r,hr⟩:=K.pre
 have hxR:x∈R:=by rw[hr];exact List.mem_append_left _ (List.mem_of_getElem? hx)
 have hxne:l.node≠x:=fun e=>hjR (by rw[e];exact hxR)
 have hlev:∀ i,lev.getD i 0<=(lev.set l.node (max (lev.getD l.node 0) (lev.getD x 0+1))).getD i 0:=fun i=>by
  rw[ck (by rw[K.levLen];exact hj)]
  split
  ·rename_i e;subst e;exact Nat.le_max_left _ _
  ·exact Nat.le_refl _
 have hsame:∀ k,k∈R->(lev.set l.node (max (lev.getD l.node 0) (lev.getD x 0+1))).getD k 0=lev.getD k 0:=fun k m=>by
  rw[ck (by rw[K.levLen];exact hj),if_neg (fun e=>hjR (by rw[e];exact m))]
 refine⟨by rw[List.length_set];exact K.levLen,by rw[List.length_set];exact K.leftLen,?_,?_,?_,fun i hi=>?_,fun i hi=>?_,fun i hi q k hk m=>?_,fun l' m q=>?_,fun i=>?_,by rw[hsame x hxR];exact K.bndx⟩
 ·rcases hR with⟨_,rfl⟩|⟨_,rfl⟩
  ·exact⟨r++[l.node],by rw[hr,List.append_assoc]⟩
  ·exact⟨r,hr⟩
 ·rcases hR with⟨_,rfl⟩|⟨_,rfl⟩
  ·rw[List.nodup_append]
   exact⟨K.nodup,by simp,fun a ha b hb=>by rw[List.mem_singleton] at hb;subst hb;exact fun e=>hjR (e ▸ ha)⟩
  ·exact K.nodup
 ·rcases hR with⟨_,rfl⟩|⟨_,rfl⟩
  ·intro a m
   rcases List.mem_append.1 m with m|m
   ·exact K.lt a m
   ·rw[List.mem_singleton] at m;subst m;exact hj
  ·exact K.lt
 ·rw[ck (by rw[K.leftLen];exact hj)]
  have hK:=K.cnt i hi
  rw[hd,List.countP_cons] at hK
  by_cases e:l.node=i
  ·subst e
   rw[if_pos rfl,if_pos hc]
   rw[if_pos hc] at hK
   have hb:(l.node==l.node)=true:=by simp
   rw[if_pos hb] at hK
   omega
  ·rw[if_neg e,hK]
   have:(l.node==i)=false:=beq_eq_false_iff_ne.2 e
   simp[this]
 ·rw[ck (by rw[K.leftLen];exact hj)]
  by_cases e:l.node=i
  ·subst e
   rw[if_pos rfl]
   rcases hR with⟨h0,rfl⟩|⟨h0,rfl⟩
   ·exact⟨fun _=>h0,fun _=>by simp⟩
   ·exact⟨fun m=>absurd m hjR,fun q=>absurd q h0⟩
  ·rw[if_neg e,<- K.rdy i hi]
   rcases hR with⟨_,rfl⟩|⟨_,rfl⟩
   ·rw[List.mem_append,List.mem_singleton]
    exact⟨fun m=>m.resolve_right (fun q=>e q.symm),.inl⟩
   ·exact Iff.rfl
 ·have hkR:k∈R:=by rw[hr];exact List.mem_append_left _ (List.mem_of_mem_take m)
  rw[hsame k hkR]
  exact Nat.lt_of_lt_of_le (K.up i hi q k hk m) (hlev i)
 ·rw[List.take_succ_eq_append_getElem h1,hl2,List.mem_append,List.mem_singleton] at m
  rw[hsame x hxR]
  rcases m with m|rfl
  ·exact Nat.lt_of_lt_of_le (K.upx l' m q) (hlev _)
  ·rw[ck (by rw[K.levLen];exact hj),if_pos rfl]
   omega
 ·rw[ck (by rw[K.levLen];exact hj)]
  have:=K.bnd i
  have:=K.bndx
  have:=K.bnd l.node
  split <;> omega
theorem jb:∀ {l m:List Nat},l.Nodup->(∀ x∈l,x∈m)->l.length<=m.length
 |[],_,_,_=>Nat.zero_le _
 |a::l,m,hn,hs=>by
  obtain⟨h1,h2⟩:=List.nodup_cons.1 hn
  have ha:a∈m:=hs a (.head _)
  have:=jb (m:=m.erase a) h2 fun x hx=>(List.mem_erase_of_ne (fun e=>h1 (by rw[<- e];exact hx))).2 (hs x (.tail _ hx))
  rw[List.length_erase_of_mem ha] at this
  have:=List.length_pos_of_mem ha
  rw[List.length_cons]
  omega
theorem Kahn.all {c:Circ} (g:Good c) {lev left R:List Nat}{d:Nat} (K:Kahn c lev left R d) (hd:R.length<=d):d=c.nodes.length/\LevOk c lev:=by
 have hdR:R.take d=R:=List.take_of_length_le hd
 have mem:∀ i,i<c.nodes.length->i∈R:=by
  intro i
  induction i using Nat.strongRecOn with
  |_ i ih =>
   intro hi
   rw[K.rdy i hi,K.cnt i hi]
   by_cases q:isComb (kd c i)
   ·rw[if_pos q,List.countP_eq_zero]
    intro k hk
    obtain⟨x,hx⟩:=aw hi
    rw[oK hx] at hk
    rw[dj hx] at q
    have:=(g.node i x hx).acyc q.1 q.2 k hk
    simp[hdR,ih k this (by omega)]
   ·rw[if_neg q]
 have h1:c.nodes.length<=R.length:=by
  have:(List.range c.nodes.length).length<=R.length:=jb List.nodup_range (fun i m=>mem i (List.mem_range.1 m))
  simpa using this
 have h2:R.length<=c.nodes.length:=by
  have:R.length<=(List.range c.nodes.length).length:=jb K.nodup (fun i m=>List.mem_range.2 (K.lt i m))
  simpa using this
 refine⟨by have:=K.dle;omega,K.levLen,fun i x hx q k hk=>?_⟩
 have hi:=ak hx
 refine K.up i hi (by rw[dj hx];exact q) k (by rw[oK hx];exact hk) ?_
 rw[hdR]
 exact mem k ((g.node i x hx).ins k hk)
theorem Kahn.start {c:Circ}{left R:List Nat} (h1:left.length=c.nodes.length) (h2:∀ i,i<c.nodes.length->left.getD i 0=if isComb (kd c i) then (insOf c i).length else 0) (h3:R.Nodup) (h4:∀ i,i∈R↔i<c.nodes.length/\left.getD i 0=0):Kahn c (List.replicate c.nodes.length 0) left R 0:=by
 refine⟨by simp,h1,Nat.zero_le _,h3,fun r m=>((h4 r).1 m).1,fun i hi=>?_,fun i hi=>?_,fun i _ _ k _ m=>by simp at m,fun i=>?_⟩
 ·rw[h2 i hi]
  simp
 ·rw[h4 i]
  exact⟨fun h=>h.2,fun h=>⟨hi,h⟩⟩
 ·rw[List.getD,List.getElem?_replicate]
  split <;> simp
theorem zh {c:Circ}{K:List (List Ln)->Prop} (g:FanOk c) (h:K (mO c)):eM c K:=⟨g,h⟩
theorem ET {b:Bool} (h:(!b)=true):b=false:=by cases b;rfl;cases h
theorem EJ {b:Bool} (h:(!b)=false):b=true:=by cases b;cases h;rfl
structure Init (c:Circ) (left R:List Nat) (i:Nat):Prop where
 ile:i<=c.nodes.length
 len:left.length=c.nodes.length
 cnt:∀ j,j<c.nodes.length->left.getD j 0=if j<i/\isComb (kd c j) then (insOf c j).length else 0
 nodup:R.Nodup
 rdy:∀ j,j∈R↔j<i/\left.getD j 0=0
 rlen:R.length<=i
theorem Init.step {c:Circ}{left R:List Nat}{i:Nat}{x:Node} (I:Init c left R i) (hx:c.nodes[i]?=some x) {left' R':List Nat}
  (hl:left'=if isComb x.kind then left.set i x.ins.length else left) (hR:(left'.getD i 0=0/\R'=R++[i])\/(left'.getD i 0≠0/\R'=R)):Init c left' R' (i+1):=by
 have hi:=ak hx
 have hiR:i ∉ R:=fun m=>by have:=((I.rdy i).1 m).1;omega
 have hg:∀ j,left'.getD j 0=if j=i then (if isComb x.kind then x.ins.length else 0) else left.getD j 0:=fun j=>by
  have h0:=I.cnt i hi
  rw[if_neg (by omega)] at h0
  rw[hl]
  by_cases q:isComb x.kind
  ·rw[if_pos q,ck (by rw[I.len];exact hi),if_pos q]
   by_cases e:i=j
   ·rw[if_pos e,if_pos e.symm]
   ·rw[if_neg e,if_neg (fun q=>e q.symm)]
  ·rw[if_neg q,if_neg q]
   by_cases e:j=i
   ·rw[if_pos e,e,h0]
   ·rw[if_neg e]
 have hlen:left'.length=c.nodes.length:=by rw[hl];split <;> simp[I.len]
 have hmem:∀ j,j∈R'↔j∈R\/(j=i/\left'.getD i 0=0):=fun j=>by
  rcases hR with⟨h0,rfl⟩|⟨h0,rfl⟩
  ·rw[List.mem_append,List.mem_singleton]
   exact⟨fun h=>h.imp id fun e=>⟨e,h0⟩,fun h=>h.imp id fun e=>e.1⟩
  ·exact⟨.inl,fun h=>h.resolve_right (fun q=>h0 q.2)⟩
 refine⟨hi,hlen,fun j hj=>?_,?_,fun j=>?_,?_⟩
 ·rw[hg j]
  by_cases e:j=i
  ·subst e
   rw[if_pos rfl,dj hx,oK hx]
   by_cases q:isComb x.kind
   ·rw[if_pos q,if_pos ⟨by omega,q⟩]
   ·rw[if_neg q,if_neg (fun h=>q h.2)]
  ·rw[if_neg e,I.cnt j hj]
   by_cases q:j<i/\isComb (kd c j)
   ·rw[if_pos q,if_pos ⟨by omega,q.2⟩]
   ·rw[if_neg q,if_neg (fun h=>q ⟨by omega,h.2⟩)]
 ·rcases hR with⟨_,rfl⟩|⟨_,rfl⟩
  ·rw[List.nodup_append]
   exact⟨I.nodup,by simp,fun a ha b hb=>by rw[List.mem_singleton] at hb;subst hb;exact fun e=>hiR (by rw[<- e];exact ha)⟩
  ·exact I.nodup
 ·rw[hmem,I.rdy j]
  constructor
  ·rintro (⟨h1,h2⟩|⟨rfl,h2⟩)
   ·refine⟨by omega,?_⟩
    rw[hg j,if_neg (by omega)];exact h2
   ·exact⟨by omega,h2⟩
  ·rintro⟨h1,h2⟩
   by_cases e:j=i
   ·subst e;exact .inr ⟨rfl,h2⟩
   ·rw[hg j,if_neg e] at h2
    exact .inl ⟨by omega,h2⟩
 ·have:=I.rlen
  rcases hR with⟨_,rfl⟩|⟨_,rfl⟩
  ·rw[List.length_append,List.length_singleton];omega
  ·omega
theorem Kahn.rlen {c:Circ}{lev left R:List Nat}{d:Nat} (K:Kahn c lev left R d):R.length<=c.nodes.length:=by
 have:R.length<=(List.range c.nodes.length).length:=jb K.nodup (fun i m=>List.mem_range.2 (K.lt i m))
 simpa using this
theorem KahnIn.rlen {c:Circ}{lev0 R0 lev left R:List Nat}{d x t:Nat} (K:KahnIn c lev0 R0 d x lev left R t):R.length<=c.nodes.length:=by
 have:R.length<=(List.range c.nodes.length).length:=jb K.nodup (fun i m=>List.mem_range.2 (K.lt i m))
 simpa using this
theorem jf {l:List Nat}{n i:Nat} (hl:l.length=n) (hi:i<n):l[i]?=some (l.getD i 0):=getD_some (by omega)
theorem Cx {c:Circ} (g:Good c) {x:Nat} (_hx:x<c.nodes.length):(fanOf c x).length<=1000:=by
 have hl:=g.len
 unfold fanOf
 rw[List.length_flatMap]
 have h1:∀ p∈c.nodes.zipIdx,(bB x p.2 p.1.ins).length<=16:=by
  intro p m
  unfold bB
  rw[List.length_map]
  refine Nat.le_trans (List.length_filter_le _ _) ?_
  rw[List.length_zipIdx]
  have hm:=List.mem_zipIdx m
  have h3:p.2<c.nodes.length:=by omega
  have h4:c.nodes[p.2]?=some p.1:=by
   rw[hm.2.2,List.getElem?_eq_getElem h3]
   simp
  exact (g.node _ _ h4).few
 have h2:∀ (l:List (Node×Nat)),(∀ p∈l,(bB x p.2 p.1.ins).length<=16)->(l.map fun p=>(bB x p.2 p.1.ins).length).sum<=l.length*16:=by
  intro l
  induction l with
  |nil=>intro _;simp
  |cons a l ih =>
   intro h
   have:=ih fun p m=>h p (.tail _ m)
   have:=h a (.head _)
   simp only[List.map_cons,List.sum_cons,List.length_cons]
   omega
 have:=h2 _ h1
 rw[List.length_zipIdx] at this
 omega
set_option maxHeartbeats 2000000 in
theorem su {c:Circ}{K:List Nat×Nat->Prop} (g:Good c) (h:∀ lev,LevOk c lev->K (lev,0)):bL c K:=by
 have hlen:=g.len
 unfold bL
 refine Bh g ⟨fun q=>absurd rfl (dV.1 q),fun _=>⟨by omega,by omega,by omega,by omega,?_⟩⟩
 refine aD (fun s=>Init c s.1 s.2.1 s.2.2) (fun s=>c.nodes.length-s.2.2) (fun a=>Init c a.1 a.2 c.nodes.length) ?_ ?_ ?_
 ·rintro k ⟨left,R,i⟩ nx I hnx hk
  dsimp only at I
  have hrl:=I.rlen
  have hile:=I.ile
  refine⟨fun q=>?_,fun q=>?_⟩
  ·have q:=aQ.1 q
   obtain⟨x,hx⟩:=aw q
   refine dM ⟨x,hx,dM (tY ?_)⟩
   have main:∀ left',left'=(if isComb x.kind then left.set i x.ins.length else left)->i<c.nodes.length/\∃ x31,left'[i]?=some x31/\(eqN x31 0=true->(R.length+([i]:List Nat).length)*8<=2 ^ 47/\i+1<2 ^ 63/\nx (left',R++[i],i+1))/\(eqN x31 0=false->i+1<2 ^ 63/\nx (left',R,i+1)):=by
    intro left' hl
    have hlen':left'.length=c.nodes.length:=by rw[hl];split <;> simp[I.len]
    refine⟨q,_,jf hlen' q,fun e=>⟨by simp only[List.length_singleton];omega,by omega,hnx (left',R++[i],i+1) (I.step hx hl (.inl ⟨bD.1 e,rfl⟩)) (by dsimp only;omega)⟩,fun e=>⟨by omega,hnx (left',R,i+1) (I.step hx hl (.inr ⟨bW.1 e,rfl⟩)) (by dsimp only;omega)⟩⟩
   refine⟨fun e=>⟨q,_,jf I.len q,main _ ?_⟩,fun e=>main _ ?_⟩
   ·rw[if_pos (show isComb x.kind from of_decide_eq_true e)]
   ·rw[if_neg (show ¬ isComb x.kind from of_decide_eq_false e)]
  ·have q:=bk.1 q
   have:i=c.nodes.length:=by omega
   subst this
   exact hk (left,R) I
 ·refine⟨Nat.zero_le _,by simp,fun j hj=>?_,List.nodup_nil,fun j=>by simp,Nat.zero_le _⟩
  dsimp only
  rw[List.getD,List.getElem?_replicate,if_pos hj,if_neg (by omega)]
  rfl
 ·rintro⟨left0,R0⟩ I
  dsimp only at I ⊢
  refine zh g.fanOk ?_
  have K0:Kahn c (List.replicate c.nodes.length 0) left0 R0 0:=Kahn.start I.len (fun i hi=>by rw[I.cnt i hi];simp only[hi,true_and]) I.nodup I.rdy
  refine aD (fun s=>Kahn c s.1 s.2.1 s.2.2.1 s.2.2.2) (fun s=>c.nodes.length-s.2.2.2) (fun a=>a.2=c.nodes.length/\LevOk c a.1) ?_ K0 ?_
  ·rintro k ⟨lev,left,R,d⟩ nx Kh hnx hk
   dsimp only at Kh
   try dsimp only
   have hrl:=Kh.rlen
   refine⟨fun q=>?_,fun q=>?_⟩
   ·have q:=aQ.1 q
    try dsimp only at q
    obtain⟨x,hx⟩:=aw q
    have hxn:=Kh.lt x (List.mem_of_getElem? hx)
    have hfl:=Cx g hxn
    refine⟨x,hx,by omega,_,wD hxn,fun e=>?_,fun e=>⟨_,wD hxn,?_⟩⟩
    ·have e:=bD.1 e
     exact hnx _ ((Kh.enter hx).leave hx (by omega)) (by dsimp only;omega)
    ·refine bl (fun s=>KahnIn c lev R d x s.1 s.2.1 s.2.2.1 s.2.2.2) (fun s=>(fanOf c x).length-s.2.2.2) ?_ (Kh.enter hx)
     rintro⟨lev1,left1,R1,t⟩ nx1 K1 hnx1
     dsimp only at K1
     try dsimp only
     have hrl1:=K1.rlen
     refine⟨fun q1=>?_,fun q1=>hnx (lev1,left1,R1,d+1) (K1.leave hx (bk.1 q1)) (by dsimp only;omega)⟩
     have q1:=aQ.1 q1
     try dsimp only at q1
     obtain⟨l,hl⟩:=aw q1
     have hj:=xb (List.mem_of_getElem? hl)
     obtain⟨y,hy⟩:=aw hj
     have hky:=dj hy
     refine dM ⟨l,hl,y,hy,tY ⟨fun e=>?_,fun e=>?_⟩⟩
     ·have e:¬ isComb (kd c l.node):=by rw[hky];exact of_decide_eq_false (ET e)
      exact⟨by omega,hnx1 (lev1,left1,R1,t+1) (K1.skip hl e) (by dsimp only;omega)⟩
     ·have e:isComb (kd c l.node):=by rw[hky];exact of_decide_eq_true (EJ e)
      have hp:=K1.pos hl e
      have hb:=K1.bndx
      have hll:=jf K1.leftLen hj
      have hb2:left1.getD l.node 0<2 ^ 63:=by
       rw[K1.cnt _ hj,if_pos e]
       have h1:=List.countP_le_length (p:=fun k=>decide (k ∉ R.take d/\k≠x)) (l:=insOf c l.node)
       have h2:=List.countP_le_length (p:=fun l':Ln=>l'.node==l.node) (l:=(fanOf c x).drop t)
       have h3:(insOf c l.node).length<=16:=by rw[oK hy];exact (g.node _ _ hy).few
       rw[List.length_drop] at h2
       omega
      refine⟨hj,_,jf K1.levLen hj,hxn,_,jf K1.levLen hxn,by omega,hj,_,jf K1.levLen hj,hj,_,hll,hp,hb2,hj,_,hll,hj,left1.getD l.node 0-1,?_,fun e2=>?_,fun e2=>?_⟩
      ·rw[List.getElem?_set_self (by rw[K1.leftLen];exact hj)]
      ·exact⟨by simp only[List.length_singleton];omega,by omega,hnx1 _ (K1.step hl e hx (.inl ⟨bD.1 e2,rfl⟩)) (by dsimp only;omega)⟩
      ·exact⟨by omega,hnx1 _ (K1.step hl e hx (.inr ⟨bW.1 e2,rfl⟩)) (by dsimp only;omega)⟩
   ·obtain⟨h1,h2⟩:=Kh.all g (bk.1 q)
    exact hk (lev,d) ⟨h1,h2⟩
  ·rintro⟨lev,d⟩ ⟨hd,hl⟩
   dsimp only at hd hl ⊢
   exact⟨fun q=>absurd (aQ.1 q) (by omega),fun _=>⟨hl.len.symm,h lev hl⟩⟩
theorem AL {c:Circ}{K:Nat->Prop} (g:Good c) (h:K 0):cJ c K:=by
 unfold cJ
 exact su g fun _ _=>h
theorem wQ {a b:Nat}{K:Int->Prop} (h:K (if a<b then Int.negSucc 0 else if b<a then Int.ofNat 1 else Int.ofNat 0)):dB a b K:=by
 unfold dB fA
 have e1:neN a a=false:=pD.2 rfl
 have e2:neN b b=false:=pD.2 rfl
 rw[e1,e2]
 refine⟨(fun q=>by cases q),fun _=>⟨(fun q=>by cases q),fun _=>⟨fun q=>?_,fun q=>⟨fun q2=>?_,fun q2=>?_⟩⟩⟩⟩
 ·rw[if_pos (aQ.1 q)] at h;exact h
 ·have:=bk.1 q
  rw[if_neg (by omega),if_pos (aQ.1 q2)] at h;exact h
 ·have:=bk.1 q
  have:=bk.1 q2
  rw[if_neg (by omega),if_neg (by omega)] at h;exact h
theorem CS {a b:Nat}:ltI (if a<b then Int.negSucc 0 else if b<a then Int.ofNat 1 else Int.ofNat 0) (Int.ofNat 0)=decide (a<b):=by
 by_cases c:a<b
 ·rw[if_pos c,decide_eq_true c];rfl
 ·rw[if_neg c,decide_eq_false c]
  by_cases q:b<a
  ·rw[if_pos q];rfl
  ·rw[if_neg q];rfl
structure Ins (lev data l:List Nat) (i j:Nat):Prop where
 perm:l.Perm data
 jle:j<=i
 ord:∀ p q,p<q->q<=i->q≠j->lev.getD (l.getD p 0) 0<=lev.getD (l.getD q 0) 0
theorem vQ {l:List Nat}{i j k:Nat} (hi:i<l.length) (hj:j<l.length):((l.set i (l.getD j 0)).set j (l.getD i 0)).getD k 0=if k=j then l.getD i 0 else if k=i then l.getD j 0 else l.getD k 0:=by
 rw[ck (by simpa using hj)]
 by_cases c:j=k
 ·rw[if_pos c,if_pos c.symm]
 ·have c2:¬ k=j:=fun e=>c e.symm
  rw[if_neg c,if_neg c2,ck hi]
  by_cases q:i=k
  ·rw[if_pos q,if_pos q.symm]
  ·have q2:¬ k=i:=fun e=>q e.symm
   rw[if_neg q,if_neg q2]
theorem swap_perm {l:List Nat}{i j:Nat} (hi:i<l.length) (hj:j<l.length):((l.set i (l.getD j 0)).set j (l.getD i 0)).Perm l:=by
 have e1:l.getD j 0=l[j]:=by rw[List.getD,List.getElem?_eq_getElem hj];rfl
 have e2:l.getD i 0=l[i]:=by rw[List.getD,List.getElem?_eq_getElem hi];rfl
 rw[e1,e2]
 exact List.set_set_perm hi hj
theorem Ins.swap {lev data l:List Nat}{i j:Nat} (I:Ins lev data l i j) (hi:i<l.length) (hj:0<j) (h:lev.getD (l.getD j 0) 0<lev.getD (l.getD (j-1) 0) 0):Ins lev data ((l.set j (l.getD (j-1) 0)).set (j-1) (l.getD j 0)) i (j-1):=by
 have:=I.jle
 refine⟨(swap_perm (by omega) (by omega)).trans I.perm,by omega,fun p q hpq hq hne=>?_⟩
 rw[vQ (by omega) (by omega),vQ (by omega) (by omega),if_neg hne]
 by_cases c:q=j
 ·subst c
  rw[if_pos rfl]
  by_cases e:p=q-1
  ·rw[if_pos e];omega
  ·rw[if_neg e,if_neg (by omega)]
   exact I.ord p (q-1) (by omega) (by omega) (by omega)
 ·rw[if_neg c]
  by_cases e:p=j-1
  ·rw[if_pos e]
   exact I.ord j q (by omega) hq c
  ·rw[if_neg e]
   by_cases e2:p=j
   ·rw[if_pos e2]
    exact I.ord (j-1) q (by omega) hq c
   ·rw[if_neg e2]
    exact I.ord p q hpq hq c
theorem Ins.fin {lev data l:List Nat}{i j:Nat} (I:Ins lev data l i j) (h:j=0\/lev.getD (l.getD (j-1) 0) 0<=lev.getD (l.getD j 0) 0):∀ p q,p<q->q<=i->lev.getD (l.getD p 0) 0<=lev.getD (l.getD q 0) 0:=by
 intro p q hpq hq
 by_cases c:q=j
 ·subst c
  have h:=h.resolve_left (by omega)
  by_cases e:p=q-1
  ·subst e;exact h
  ·exact Nat.le_trans (I.ord p (q-1) (by omega) (by omega) (by omega)) h
 ·exact I.ord p q hpq hq c
structure Sorted (lev data l:List Nat):Prop where
 perm:l.Perm data
 ord:∀ p q,p<q->q<l.length->lev.getD (l.getD p 0) 0<=lev.getD (l.getD q 0) 0
theorem DK {data lev:List Nat}{K:List Nat->Prop} (hn:data.length<=16) (hlev:∀ x∈data,x<lev.length) (h:∀ l,Sorted lev data l->K l):eT data lev data.length 0 data.length K:=by
 unfold eT
 refine⟨by omega,?_⟩
 refine bl (fun s=>s.1.Perm data/\1<=s.2/\∀ p q,p<q->q<s.2->q<data.length->lev.getD (s.1.getD p 0) 0<=lev.getD (s.1.getD q 0) 0) (fun s=>data.length-s.2) ?_ ⟨List.Perm.refl _,by dsimp only;omega,fun p q h1 h2=>by dsimp only at h2;omega⟩
 rintro⟨l,i⟩ nx ⟨hp,hi1,hord⟩ hnx
 dsimp only at hp hi1 hord
 have hl:=hp.length_eq
 refine⟨fun q=>?_,fun q=>?_⟩
 ·have q:=aQ.1 q
  try dsimp only at q
  refine aD (fun s=>Ins lev data s.1 i s.2) (fun s=>s.2) (fun a=>a.Perm data/\∀ p q,p<q->q<=i->lev.getD (a.getD p 0) 0<=lev.getD (a.getD q 0) 0) ?_ ?_ ?_
  ·rintro k ⟨m,j⟩ nx2 I hnx2 hk
   dsimp only at I
   try dsimp only
   have hm:=I.perm.length_eq
   have hji:=I.jle
   have gm:∀ p,p<data.length->m[p]?=some (m.getD p 0):=fun p hp=>jf hm hp
   have gl:∀ p,p<data.length->lev[m.getD p 0]?=some (lev.getD (m.getD p 0) 0):=fun p hp=>jf rfl (hlev _ (I.perm.mem_iff.1 (List.mem_of_getElem? (gm p hp))))
   refine dM ⟨fun c=>?_,fun c=>?_⟩
   ·have c:=aQ.1 c
    refine⟨by omega,_,gm j (by omega),by omega,by omega,by omega,_,gm (j-1) (by omega),_,gl j (by omega),_,gl (j-1) (by omega),wQ ?_⟩
    rw[CS]
    refine⟨fun e=>?_,fun e=>?_⟩
    ·have e:=of_decide_eq_true e
     refine⟨by omega,by omega,by omega,by omega,by omega,_,gm (j-1) (by omega),by omega,_,gm j (by omega),by omega,_,gm j (by omega),by omega,?_⟩
     have hj2:j-1<(m.set j (m.getD (j-1) 0)).length:=by rw[List.length_set];omega
     exact⟨_,List.getElem?_eq_getElem hj2,by omega,by omega,hnx2 _ (I.swap (by omega) c e) (by dsimp only;omega)⟩
    ·have e:=of_decide_eq_false e
     exact hk m ⟨I.perm,I.fin (.inr (by omega))⟩
   ·have c:=bk.1 c
    exact⟨(fun q=>by cases q),fun _=>hk m ⟨I.perm,I.fin (.inl (by omega))⟩⟩
  ·refine⟨hp,Nat.le_refl _,fun p q2 h1 h2 h3=>hord p q2 h1 (by omega) (by omega)⟩
  ·rintro a ⟨ha,hb⟩
   exact⟨by omega,hnx (a,i+1) ⟨ha,by dsimp only;omega,fun p q2 h1 h2 h3=>hb p q2 h1 (by dsimp only at h2;omega)⟩ (by dsimp only;omega)⟩
 ·have q:=bk.1 q
  exact h l ⟨hp,fun p q2 h1 h2=>hord p q2 h1 (by omega) (by omega)⟩
theorem yF {data lev:List Nat}{K:List Nat->Prop} (hn:data.length<=16) (hlev:∀ x∈data,x<lev.length) (h:∀ l,Sorted lev data l->K l):dz data lev data.length data.length K:=by
 unfold dz
 refine aD (fun s=>s=(data,0,20)) (fun _=>0) (fun a=>a=(data,0)) ?_ rfl ?_
 ·rintro k s nx rfl _ hk
  exact⟨fun q=>absurd (mR.1 q) (by omega),fun _=>hk _ rfl⟩
 ·rintro a rfl
  refine DK hn hlev fun l hl=>?_
  refine bl (fun s=>s=20) (fun _=>0) ?_ rfl
  rintro s nx rfl _
  exact⟨fun q=>absurd (aQ.1 q) (by omega),fun _=>h l hl⟩
structure OrdOk (c:Circ) (o:List Nat):Prop where
 perm:o.Perm (List.range c.nodes.length)
 before:∀ (a i:Nat) (x:Node) (k:Nat),o[a]?=some i->c.nodes[i]?=some x->isComb x.kind->k∈x.ins->∃ b,b<a/\o[b]?=some k
theorem Dn {c:Circ} (g:Good c) {lev o:List Nat} (hl:LevOk c lev) (hs:Sorted lev (List.range c.nodes.length) o):OrdOk c o:=by
 refine⟨hs.perm,fun a i x k ha hx hc hk=>?_⟩
 have hk2:k<c.nodes.length:=(g.node i x hx).ins k hk
 have hko:k∈o:=hs.perm.mem_iff.2 (List.mem_range.2 hk2)
 obtain⟨b,hb,e⟩:=List.getElem_of_mem hko
 have hb2:o[b]?=some k:=by rw[List.getElem?_eq_getElem hb,e]
 refine⟨b,?_,hb2⟩
 have hup:=hl.up i x hx hc k hk
 have ga:o.getD a 0=i:=by rw[List.getD,ha];rfl
 have gb:o.getD b 0=k:=by rw[List.getD,hb2];rfl
 rcases Nat.lt_trichotomy b a with q|q|q
 ·exact q
 ·subst q;rw[ha] at hb2;cases hb2;omega
 ·have:=hs.ord a b q hb
  rw[ga,gb] at this
  omega
theorem kc {c:Circ}{K:List Nat×Nat->Prop} (g:Good c) (h:∀ o,OrdOk c o->K (o,0)):aO c K:=by
 have hlen:=g.len
 unfold aO
 refine su g fun lev hl=>⟨fun q=>absurd rfl (dV.1 q),fun _=>⟨by omega,by omega,?_⟩⟩
 refine aD (fun s=>s.2<=c.nodes.length/\s.1.length=c.nodes.length/\∀ j,j<s.2->s.1[j]?=some j) (fun s=>c.nodes.length-s.2) (fun a=>a=List.range c.nodes.length) ?_ ⟨Nat.zero_le _,by simp,fun j hj=>absurd hj (Nat.not_lt_zero _)⟩ ?_
 ·rintro k ⟨l,i⟩ nx ⟨hi,h1,h2⟩ hnx hk
  dsimp only at hi h1 h2
  refine⟨fun q=>?_,fun q=>?_⟩
  ·have q:=aQ.1 q
   try dsimp only at q
   refine⟨q,_,jf h1 q,by omega,hnx (l.set i i,i+1) ⟨q,by simp[h1],fun j hj=>?_⟩ (by dsimp only;omega)⟩
   dsimp only at hj ⊢
   rw[List.getElem?_set]
   by_cases e:i=j
   ·rw[if_pos e,if_pos (by omega),e]
   ·rw[if_neg e];exact h2 j (by omega)
  ·have q:=bk.1 q
   try dsimp only at q
   refine hk l (List.ext_getElem? fun j=>?_)
   by_cases e:j<c.nodes.length
   ·rw[h2 j (by omega),List.getElem?_range e]
   ·rw[List.getElem?_eq_none (by omega),List.getElem?_eq_none (by simp;omega)]
 ·rintro a rfl
  unfold iI
  have e:(List.range c.nodes.length).length=c.nodes.length:=by simp
  have:=yF (data:=List.range c.nodes.length) (lev:=lev) (K:=fun x1=>c.nodes.length=x1.length/\K (x1,0)) (by omega) (fun x m=>by rw[hl.len];exact List.mem_range.1 m) (fun l hs=>⟨by have:=hs.perm.length_eq;omega,h l (Dn g hl hs)⟩)
  rw[e] at this
  exact this
end Go.Proofs.YtlbeebglhebpjaaGreatDoor
