/-
  Fl1, Circ1, Man1: parts of the proof.
-/
import Derived.Test.YtmhbhclfojmjdaaGreatDoorTh34
namespace Go.Proofs.YtmhbhclfojmjdaaGreatDoor
open Go.Abs
set_option maxRecDepth 100000
theorem u8_wide (n:Nat) (h:n<256):IntKind.i64.wrap (Int.ofNat n)=Int.ofNat n:=IntWalk.i64_in _ (by simp only[Int.ofNat_eq_natCast];omega)
theorem fzVars:∀ o∈vars,o.fz=o:=by
 intro o m
 simp only[vars,List.mem_cons,List.not_mem_nil,or_false] at m
 rcases m with rfl|rfl <;> rfl
theorem hasVars {h:Heap} (b:HasB vars h):Vars h:=b 0 _ rfl
theorem hasSize {h:Heap} (b:HasB vars h):NG<=h.size:=Heap.lt_of_get (b 1 _ rfl)
theorem fn_of {f:FuncId}{vs:Array Value}{r:Value} (hr:flatB r=true) (c:∀ h,Vars h->CallD Tryz.prog NG f vs h r h):FnV Tryz.prog NG vars f vs r:=⟨PureV.flatB hr,fun h b=>c h (hasVars b)⟩
structure Node where
 kind:Nat
 ins:List Nat
 mem:Nat
 bit:Nat
structure Memo where
 addr:List Nat
 data:List Nat
 write:Nat
structure Circ where
 nodes:List Node
 names:List ByteArray
 mems:List Memo
 outs:List Nat
def encNode (x:Node):Value:=.agg ⟨[u8 (Int.ofNat x.kind),FL 1 (x.ins.map i64),i64 x.mem,i64 x.bit]⟩
def encMem (m:Memo):Value:=.agg ⟨[FL 1 (m.addr.map i64),FL 1 (m.data.map i64),i64 m.write]⟩
def encCirc (c:Circ):Value:=.agg ⟨[FL 4 (c.nodes.map encNode),FL 1 (c.names.map .string),FL 3 (c.mems.map encMem),FL 1 (c.outs.map i64)]⟩
theorem pure_nats (l:List Nat):PureV (FL 1 (l.map i64)):=PureV.list fun _=>AllPure.cons (PureV.flat rfl) AllPure.nil
theorem pure_node (x:Node):PureV (encNode x):=PureV.agg (AllPure.cons (PureV.flat rfl) (AllPure.cons (pure_nats _) (AllPure.cons (PureV.flat rfl) (AllPure.cons (PureV.flat rfl) AllPure.nil))))
theorem pure_nodeC (x:Node):AllPure (cl (encNode x)):=AllPure.cons (PureV.flat rfl) (AllPure.cons (pure_nats _) (AllPure.cons (PureV.flat rfl) (AllPure.cons (PureV.flat rfl) AllPure.nil)))
theorem pure_memC (m:Memo):AllPure (cl (encMem m)):=AllPure.cons (pure_nats _) (AllPure.cons (pure_nats _) (AllPure.cons (PureV.flat rfl) AllPure.nil))
theorem pure_circC (c:Circ):AllPure (cl (encCirc c)) :=
 AllPure.cons (PureV.list pure_nodeC) (AllPure.cons (PureV.list fun _=>AllPure.cons (PureV.flat rfl) AllPure.nil) (AllPure.cons (PureV.list pure_memC) (AllPure.cons (pure_nats _) AllPure.nil)))
theorem pure_circ (c:Circ):PureV (encCirc c):=PureV.agg (pure_circC c)
structure GData where
 kind:Nat
 a:Nat
 b:Nat
 d:Nat
structure CData where
 inp:Nat
 dffs:Nat
 data0:Nat
 data1:Nat
 bus:Bool
 mem:Bool
 port0:Nat
 port1:Nat
 port2:Nat
 port3:Nat
 gates:List GData
 outs:List Nat
def encG (g:GData):Value:=.agg ⟨[u8 (Int.ofNat g.kind),u8 (Int.ofNat g.a),u8 (Int.ofNat g.b),u8 (Int.ofNat g.d)]⟩
def encC (x:CData):Value:=.agg ⟨[n8 x.inp,n8 x.dffs,n8 x.data0,n8 x.data1,.bool x.bus,.bool x.mem,n8 x.port0,n8 x.port1,n8 x.port2,n8 x.port3,FL 4 (x.gates.map encG),FL 1 (x.outs.map n8)]⟩
structure GOk (g:GData):Prop where
 kind:g.kind<256
 a:g.a<256
 b:g.b<256
 d:g.d<256
structure COk (x:CData):Prop where
 inp:x.inp<256
 dffs:x.dffs<256
 data0:x.data0<256
 data1:x.data1<256
 port0:x.port0<256
 port1:x.port1<256
 port2:x.port2<256
 port3:x.port3<256
 gates:∀ g∈x.gates,GOk g
 outs:∀ o∈x.outs,o<256
 gatesLen:x.gates.length<2 ^ 62
 outsLen:x.outs.length<2 ^ 62
def loN (k:Nat):Nat:=(loL (Int.ofNat k)).toNat
def hiZ (k:Nat):Int:=hiL (Int.ofNat k)
theorem loN_eq (k:Nat):Int.ofNat (loN k)=loL (Int.ofNat k):=by
 unfold loN
 have:0<=loL (Int.ofNat k):=by
  rcases kinds (k:=Int.ofNat k) (Int.natCast_nonneg k) with h|h|h|h|h|h|h|h|h|h|h|h|h|h|h|h|⟨n,h⟩ <;> rw[h]
  iterate 16 decide
  rw[loL_big];decide
 exact Int.toNat_of_nonneg this
def logic_Fanin_wp (k:Nat) (K:Nat×Int->Prop):Prop:=k<256/\K (loN k,hiZ k)
theorem logic_Fanin_walk {k:Nat}{K:Nat×Int->Prop} (hm:logic_Fanin_wp k K) {h0:Heap} (hB:HasB vars h0):∃ r,K r/\CallD Tryz.prog NG 39 ⟨[n8 k]⟩ h0 ((fun r=>Value.tuple ⟨[i64 r.1,z64 r.2]⟩) r) h0:=by
 refine⟨_,hm.2,?_⟩
 have:=fanin_ok (k:=Int.ofNat k) (Int.natCast_nonneg k) (by have:=hm.1;simp only[Int.ofNat_eq_natCast];omega) (hasVars hB)
 rw[<- loN_eq] at this
 exact this
structure Ln where
 node:Nat
 pin:Nat
def encLn (x:Ln):Value:=.agg ⟨[i64 x.node,i64 x.pin]⟩
theorem pure_lnC (x:Ln):AllPure (cl (encLn x)):=AllPure.cons (PureV.flat rfl) (AllPure.cons (PureV.flat rfl) AllPure.nil)
def NamesOk (c:Circ):Prop:=FnV Tryz.prog NG vars 118 ⟨[encCirc c]⟩ (i64 0)
def netlists_names_wp (c:Circ) (K:Nat->Prop):Prop:=NamesOk c/\K 0
theorem netlists_names_walk {c:Circ}{K:Nat->Prop} (hm:netlists_names_wp c K) {h0:Heap} (hB:HasB vars h0):∃ r,K r/\CallD Tryz.prog NG 118 ⟨[encCirc c]⟩ h0 (i64 r) h0:=FnV.walk hm.1 hm.2 hB
def fanNode (n i:Nat) (ins:List Nat):List Ln:=(ins.zipIdx.filter fun p=>p.1==n).map fun p=>⟨i,p.2⟩
def fanL (c:Circ):List (List Ln):=(List.range c.nodes.length).map fun n=>c.nodes.zipIdx.flatMap fun p=>fanNode n p.2 p.1.ins
def FanOk (c:Circ):Prop:=FnV Tryz.prog NG vars 82 ⟨[encCirc c]⟩ (encL 1 (encL 2 encLn) (fanL c))
def netlists_Fanout_wp (c:Circ) (K:List (List Ln)->Prop):Prop:=FanOk c/\K (fanL c)
theorem netlists_Fanout_walk {c:Circ}{K:List (List Ln)->Prop} (hm:netlists_Fanout_wp c K) {h0:Heap} (hB:HasB vars h0):∃ r,K r/\CallD Tryz.prog NG 82 ⟨[encCirc c]⟩ h0 ((encL 1 (encL 2 encLn)) r) h0:=FnV.walk hm.1 hm.2 hB
def IsNm (s:ByteArray):Prop:=FnV Tryz.prog NG vars 136 ⟨[.string s]⟩ (.bool true)
def netlists_IsName_wp (s:ByteArray) (K:Bool->Prop):Prop:=IsNm s/\K true
theorem netlists_IsName_walk {s:ByteArray}{K:Bool->Prop} (hm:netlists_IsName_wp s K) {h0:Heap} (hB:HasB vars h0):∃ r,K r/\CallD Tryz.prog NG 136 ⟨[Value.string s]⟩ h0 (Value.bool r) h0:=FnV.walk (enc:=Value.bool) hm.1 hm.2 hB
end Go.Proofs.YtmhbhclfojmjdaaGreatDoor
