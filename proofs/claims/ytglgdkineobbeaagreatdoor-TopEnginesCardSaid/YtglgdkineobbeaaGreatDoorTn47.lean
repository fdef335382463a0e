/- Parts of the proof. -/
import Derived.Test.YtglgdkineobbeaaGreatDoorTn46
import Derived.Test.YtglgdkineobbeaaGreatDoorProg
import Derived.KernelRfl
import Derived.Test.YtglgdkineobbeaaGreatDoorTie
import Derived.LaidMore
import Derived.Stop.Joined
import Derived.ChangeAt
import Derived.SevenTiedAt
open False renaming elim->Nn
open Go.IntWalk renaming i64_in->Ow
open Go.Value renaming bool->L0,string->L5,tuple->MD
open Int renaming negSucc->Mj,ofNat->LQ
open List renaming count_cons->Sd,filter_nil->Sc,getD->Mh,length_zipIdx->RR,mem_zipIdx->Se,range->Ma,replicate->LY
open Nat renaming ble->NK
open UInt8 renaming ofNat->SE
namespace Go.Proofs.YtglgdkineobbeaaGreatDoor
open Go.Abs
set_option maxRecDepth 100000
abbrev NG:Nat:=3
def u8(a:Int):Value:=.int .u8 a
theorem hM:Tryz.prog.follows .mixedOrders=true:=by kernel_rfl
theorem K6:Tryz.prog.funcs.toList.all (jO NG)=true:=by kernel_rfl
theorem hP(f:FuncId)(fn:Func)(_:([]:List FuncId).contains f=false)(h:Tryz.prog.funcs[f]?=some fn):jO NG fn=true:=by
 have:=Md.1 K6 fn (by
  have:=M5 h
  simpa using this)
 exact this
def i2(a b:Int):List Value:=[.int .i64 a,.int .i64 b]
def B6:List Value:=i2 0 0++i2 0 0++i2 0 0++i2 1 1++i2 1 1++i2 2 16++i2 2 16++i2 2 16++i2 2 16++i2 2 16++i2 2 16++i2 3 3++i2 2 2++i2 1 16++i2 1 1++i2 0 0
def zy(a b:Int):List Value:=[.int .u64 a,.int .u64 b]
def tF:List Value:=zy 0 1++zy 1 0++zy 0 0++zy 1 1
def vars:List AObj:=[.cells tF true,.cells B6 true,.cells [] true]
def isTrue:Option (Value×Heap)->Bool
 |some (.bool true,_)=>true
 |_=>false
theorem xf{x:Option (Value×Heap)}(h:isTrue x=true):∃h',x=some (.bool true,h'):=by
 unfold isTrue at h;split at h
 .exact⟨_,rfl⟩
 .cases h
def bare:List AObj:=LY NG .dead
noncomputable def AP(l:List AObj)(f:FuncId)(vs:Array Value):Option Value:=(km Tryz.prog [] (pe Tryz.prog) 60 f vs (cj l)).map (·.1)
theorem Bf{l:List AObj}{f:FuncId}{vs:Array Value}{v:Value}(e:AP l f vs=some v):∃h',al Tryz.prog NG f vs (cj l) v h':=by
 unfold AP at e
 cases q:km Tryz.prog [] (pe Tryz.prog) 60 f vs (cj l) with
 |none=>simp[q] at e
 |some r =>
  obtain⟨v',h'⟩:=r;simp[q] at e;subst e;exact⟨h',(kp hM hP (λf vs h v e=>jy f vs h v e) 60 _ _ _ _ _ q).1⟩
theorem CD{h:Heap}(hs:NG<=h.size):Bears NG (cj bare) h:=by
 refine⟨rfl,hs,λg o e=>.inl ?_⟩;rw[eh] at e;have:=LS e;simp only[bare,List.mem_replicate] at this;exact this.2
theorem Ip{f:FuncId}{vs:Array Value}{v:Value}{h:Heap}(e:AP bare f vs=some v)(h1:vs.all plain=true)(h2:oR v=true):al Tryz.prog NG f vs h v h:=by
 obtain⟨h',c⟩:=Bf e;exact al.sized λhs=>c.lift h1 h2 (CD hs)
variable {h:Heap}
def Ht(h:Heap):Prop:=∀(i:Nat) (o:AObj),vars[i]?=some o->h.get i=some o
def Hj:AObj->Bool
 |.cells cs true=>cs.all plain
 |_=>false
theorem qV{g:Nat}{o:AObj}(e:vars[g]?=some o):∃cs,o=.cells cs true/\cs.all plain=true:=by
 have h:vars.all Hj=true:=by kernel_rfl
 have:=Md.1 h o (LS e);unfold Hj at this;split at this
 .exact⟨_,rfl,this⟩
 .cases this
theorem ri{h:Heap}(hs:NG<=h.size)(v:Ht h):Bears NG (cj vars) h:=by
 refine⟨rfl,hs,λg o e=>?_⟩;rw[eh] at e;obtain⟨cs,rfl,hp⟩:=qV e;exact .inr ⟨_,rfl,v _ _ e,hp⟩
theorem IK{f:FuncId}{vs:Array Value}{v:Value}{h:Heap}(hv:Ht h)(e:AP vars f vs=some v)(h1:vs.all plain=true)(h2:oR v=true):al Tryz.prog NG f vs h v h:=by
 obtain⟨h',c⟩:=Bf e;exact al.sized λhs=>c.lift h1 h2 (ri hs hv)
theorem kinds{k:Int}(h:0<=k):k=0\/k=1\/k=2\/k=3\/k=4\/k=5\/k=6\/k=7\/k=8\/k=9\/k=10\/k=11\/k=12\/k=13\/k=14\/k=15\/∃n:Nat,k=LQ (n+16):=by
 by_cases c:k<16
 .omega
 .iterate 16 refine .inr ?_
  exact⟨(k-16).toNat,by simp only[L4];omega⟩
def loL(k:Int):Int:=if k<16 then ([0,0,0,1,1,2,2,2,2,2,2,3,2,1,1,0]:List Int).getD k.toNat 0 else 0
def hiL(k:Int):Int:=if k<16 then ([0,0,0,1,1,16,16,16,16,16,16,3,2,16,1,0]:List Int).getD k.toNat 0 else -1
theorem Dz(n:Nat):loL (LQ (n+16))=0:=by unfold loL;rw[if_neg (by simp only[L4];omega)]
theorem I6(n:Nat):hiL (LQ (n+16)) = -1:=by unfold hiL;rw[if_neg (by simp only[L4];omega)]
theorem Hi{k:Int}(hk:0<=k)(hk2:k<256){h:Heap}(hv:Ht h):al Tryz.prog NG 108 #[u8 k] h (.tuple #[.int .i64 (loL k),.int .i64 (hiL k)]) h:=by
 rcases kinds hk with rfl|rfl|rfl|rfl|rfl|rfl|rfl|rfl|rfl|rfl|rfl|rfl|rfl|rfl|rfl|rfl|⟨n,rfl⟩
 iterate 16 exact IK hv (by kernel_rfl) (by kernel_rfl) (by kernel_rfl)
 rw[Dz,I6];refine fnP hM Tryz.func108 rfl (hP _ _ rfl Tryz.func108) (lbE rfl) (by kernel_rfl) ?_;refine gW ?_;refine⟨_,oB rfl rfl rfl (Ow _ (by omega)),?_⟩;refine gW ?_;refine⟨true,rfl,λ_=>?_,λhc=>by cases hc⟩;refine gW ?_;exact⟨rfl,Ext.refl _⟩
variable {h:Heap} {a:Option Addr} {n cap:Nat} {l:List Int}
theorem qt{a b:Int}(h:ltI a b=true):a<b:=by rw[fG] at h;simpa using h
theorem re{a b:Int}(h:ltI a b=false):b<=a:=by rw[fG] at h;simpa using h
end Go.Proofs.YtglgdkineobbeaaGreatDoor

namespace Go.Proofs.YtglgdkineobbeaaGreatDoor
open Go.Abs Go.ChangeShapes Go.RowKit Go.ChangeAt
set_option maxRecDepth 100000
theorem own:ownKnob Tryz.prog.godebug=none:=by kernel_rfl
theorem laidOut:laidOutB Tryz.prog=true:=by kernel_rfl
def laid : List (String × DataW Unit) := [("probecard/logic.fanins", Rows.laid_probecard_logic_fanins), ("probecard/words.masks", Rows.laid_probecard_words_masks)]
theorem DN : Tryz.prog.globalNamed "probecard/logic.fanins" = some 1 := by kernel_rfl
theorem HG(os:Os)(args:Array Value):laidMetH Tryz.prog laid ((World.doorLaid Tryz.prog 400 os).forCall (λ_ _=>0) ⟨#[],args,[]⟩).memory :=
 laidMetH_of_parts3 (fuel:=8) (laidMet_of_run' 8 (by kernel_rfl) (by kernel_rfl)) (by kernel_rfl) (by kernel_rfl)
theorem D5:E1 Tryz.prog 5 (((Tryz.prog.globals[1]?).map (·.type)).getD 0)=true:=by kernel_rfl
theorem C6:flat (H:=Unit) Rows.laid_probecard_logic_fanins=some B6:=by kernel_rfl
theorem Gl : Tryz.prog.globalNamed "probecard/words.masks" = some 0 := by kernel_rfl
theorem Hw:Co Tryz.prog 5 (((Tryz.prog.globals[0]?).map (·.type)).getD 0)=true:=by kernel_rfl
theorem ES:flat (H:=Unit) Rows.laid_probecard_words_masks=some tF:=by kernel_rfl
theorem DP{W:World}(h:laidMetH Tryz.prog laid W)(i:Nat):W.cell? ⟨1,i,none⟩=B6[i]?/\W.cell? ⟨0,i,none⟩=tF[i]?:=by
 rw[MakeChecks.laidMetH_plain _ _ _ (by kernel_rfl)] at h;obtain⟨ps,⟨g0,t0,cs0,f0,p0,q0,hg0,ht0,hv0,hd0,hl,_⟩,_,_⟩:=h;obtain⟨g1,t1,cs1,f1,p1,q1,hg1,ht1,hv1,hd1,_⟩:=hl
 have ht:t0=(((Tryz.prog.globals[1]?).map (·.type)).getD 0):=by
  obtain rfl:=Ni (DN.symm.trans hg0);rw[ht0];rfl
 have ht2:t1=(((Tryz.prog.globals[0]?).map (·.type)).getD 0):=by
  obtain rfl:=Ni (Gl.symm.trans hg1);rw[ht1];rfl
 subst ht ht2;obtain rfl:=Ni (DN.symm.trans hg0);obtain rfl:=Ni (Gl.symm.trans hg1);exact⟨CV hg0 hv0 hd0 D5 C6 i,Bh hg1 hv1 hd1 Hw ES i⟩
theorem block{W:World}(h:W.ShapedOpen Tryz.prog)(g:Nat)(hg:g<Tryz.prog.globals.size)(hb:(((begin Tryz.prog (λ_ _=>0) default).world.heap[g]?).bind Obj.row?).isSome=true):∃C ty fr,W.heap[g]?=some (.cells C ty fr):=by
 obtain⟨⟨zero,t⟩,e⟩:=QV.1 hb;obtain⟨cs,h1,_⟩:=h.1 g zero t hg e;exact⟨cs,t,_,h1⟩
theorem start{W:World}(hsh:W.ShapedOpen Tryz.prog)(hl:laidMetH Tryz.prog laid W):∃l0 l1 l2:Abs.Loc,HRel 3 (lH [l0,l1,l2] W) (cj vars) W:=by
 obtain⟨C0,ty0,fr0,h0⟩:=block hsh 0 (of_decide_eq_true (by kernel_rfl)) (by kernel_rfl);obtain⟨C1,ty1,fr1,h1⟩:=block hsh 1 (of_decide_eq_true (by kernel_rfl)) (by kernel_rfl);obtain⟨C2,ty2,fr2,h2⟩:=block hsh 2 (of_decide_eq_true (by kernel_rfl)) (by kernel_rfl);have lt:∀(g:Nat) (C:Array Value) (ty:TypeId) (fr:Nat×Nat),W.heap[g]?=some (.cells C ty fr)->g<W.heap.size:=λg C ty fr e=>(L3.1 e).1;refine⟨⟨0,0,C0.size⟩,⟨1,0,C1.size⟩,⟨2,0,C2.size⟩,HRel.start vars [_,_,_] rfl ?_ ?_ ?_ ?_⟩
 .intro g hg
  match g,hg with
  |0,_=>exact⟨_,rfl,rfl,rfl⟩
  |1,_=>exact⟨_,rfl,rfl,rfl⟩
  |2,_=>exact⟨_,rfl,rfl,rfl⟩
 .intro l hl;simp only[MF,Np,or_false] at hl
  rcases hl with rfl|rfl|rfl
  .exact lt _ _ _ _ h0
  .exact lt _ _ _ _ h1
  .exact lt _ _ _ _ h2
 .intro g l o e1 e2
  match g,e1,e2 with
  |0,e1,e2 =>
   simp only[My,LR] at e1;simp only[vars,My,LR] at e2;subst e1 e2;exact iL.vq h0 (λi _=>(DP hl i).2) (by kernel_rfl)
  |1,e1,e2 =>
   simp only[My,M9,LR] at e1;simp only[vars,My,M9,LR] at e2;subst e1 e2;exact iL.vq h1 (λi _=>(DP hl i).1) (by kernel_rfl)
  |2,e1,e2 =>
   simp only[My,M9,LR] at e1;simp only[vars,My,M9,LR] at e2;subst e1 e2;exact iL.vq h2 (λi hi=>absurd hi (Mu _)) rfl
  |g+3,e1,e2=>simp at e1
 .intro o ho;simp only[vars,MF,Np,or_false] at ho
  rcases ho with rfl|rfl|rfl <;> rfl
theorem Ji{H:Type}{enc:TypeId×Value->H}{f:FuncId}{fn:Func}{c:Code}{d:Nat}(L:List (Sh×Bool))(hfn:Tryz.prog.funcs[f]?=some fn)(hb:fn.body=some c)(hp:xx Tryz.prog d fn.params.toList L)
  (call:∀x:Ev L,wfL L x->FnV Tryz.prog NG vars f ⟨Hr L x⟩ (.bool true))
  (W:World) (base:Nat) (args:Array Value) (hsh:W.ShapedOpen Tryz.prog) (_:args.size=fn.params.size)
  (hval:∀(j:Nat) t v,fn.params[j]?=some t->args[j]?=some v->Value.okWide Tryz.prog W .any base t v) (hl:laidMetH Tryz.prog laid W)
  (hA:∃(ds:List (DataW H)) (p:List MemPlace),DataW.TrodAll enc Tryz.prog W 0 (λ_=>true) true fn.params.toList args.toList ds p) :
  Calls Tryz.prog f args W λe W'=>e=.returned (.bool true)/\Below W.heap.size W W':=by
 obtain⟨ds,p,hA⟩:=hA;obtain⟨l0,l1,l2,H⟩:=start hsh hl;obtain⟨x,hw,r⟩:=ym (ι:=lH [l0,l1,l2] W) (λb C ty fr e=>by simp only[lH,e]) fn.params.toList L hp args.toList ds p hA (λj t v e1 e2=>hval j t v (by simpa using e1) (by simpa using e2));refine BS hfn hb ((call x hw).call _ λi o e=>by rw[eh];exact e) rfl H ?_ ?_
 .intro o ho;simp only[vars,MF,Np,or_false] at ho
  rcases ho with rfl|rfl|rfl <;> rfl
 .have:=ba.array r;simpa using this
theorem G9{n:Int}(h:(Lit.int .u8 n).wf=true):0<=n/\n<256:=by
 simp[Lit.wf,IntKind.min,IntKind.max,IntKind.signed,IntKind.bits] at h;omega
theorem Dr(n:Nat)(h:n<256):IntKind.i64.wrap (LQ n)=LQ n:=Ow _ (by simp only[L4];omega)
theorem sL:∀o∈vars,o.fz=o:=by
 intro o m;simp only[vars,MF,Np,or_false] at m
 rcases m with rfl|rfl|rfl <;> rfl
theorem ve{h:Heap}(b:aH vars h):Ht h:=b
theorem DE{h:Heap}(b:aH vars h):NG<=h.size:=Heap.ai (b 2 _ rfl)
theorem Lq{f:FuncId}{vs:Array Value}{r:Value}(hr:wX r=true)(c:∀h,Ht h->al Tryz.prog NG f vs h r h):FnV Tryz.prog NG vars f vs r:=⟨aq.wX hr,λh b=>c h (ve b)⟩
structure Node where
 kind:Nat
 ins:List Nat
 mem:Nat
 bit:Nat
structure Memo where
 addr:List Nat
 data:List Nat
 write:Nat
structure Circ where
 nodes:List Node
 names:List ByteArray
 mems:List Memo
 outs:List Nat
def au(x:Node):Value:=.agg ⟨[u8 (LQ x.kind),FL 1 (x.ins.map i64),i64 x.mem,i64 x.bit]⟩
def bc(m:Memo):Value:=.agg ⟨[FL 1 (m.addr.map i64),FL 1 (m.data.map i64),i64 m.write]⟩
def az(c:Circ):Value:=.agg ⟨[FL 4 (c.nodes.map au),FL 1 (c.names.map .string),FL 3 (c.mems.map bc),FL 1 (c.outs.map i64)]⟩
theorem nb(l:List Nat):aq (FL 1 (l.map i64)):=aq.list λ_=>ag.cons (aq.flat rfl) ag.nil
theorem EG(x:Node):aq (au x):=aq.agg (ag.cons (aq.flat rfl) (ag.cons (nb _) (ag.cons (aq.flat rfl) (ag.cons (aq.flat rfl) ag.nil))))
theorem CW(x:Node):ag (cl (au x)):=ag.cons (aq.flat rfl) (ag.cons (nb _) (ag.cons (aq.flat rfl) (ag.cons (aq.flat rfl) ag.nil)))
theorem DZ(m:Memo):ag (cl (bc m)):=ag.cons (nb _) (ag.cons (nb _) (ag.cons (aq.flat rfl) ag.nil))
theorem vn(c:Circ):ag (cl (az c)) :=
 ag.cons (aq.list CW) (ag.cons (aq.list λ_=>ag.cons (aq.flat rfl) ag.nil) (ag.cons (aq.list DZ) (ag.cons (nb _) ag.nil)))
theorem mZ(c:Circ):aq (az c):=aq.agg (vn c)
structure GData where
 kind:Nat
 a:Nat
 b:Nat
 d:Nat
structure CData where
 inp:Nat
 dffs:Nat
 data0:Nat
 data1:Nat
 bus:Bool
 mem:Bool
 port0:Nat
 port1:Nat
 port2:Nat
 port3:Nat
 gates:List GData
 outs:List Nat
def BN(g:GData):Value:=.agg ⟨[u8 (LQ g.kind),u8 (LQ g.a),u8 (LQ g.b),u8 (LQ g.d)]⟩
def Ac(x:CData):Value:=.agg ⟨[n8 x.inp,n8 x.dffs,n8 x.data0,n8 x.data1,.bool x.bus,.bool x.mem,n8 x.port0,n8 x.port1,n8 x.port2,n8 x.port3,FL 4 (x.gates.map BN),FL 1 (x.outs.map n8)]⟩
structure GOk (g:GData):Prop where
 kind:g.kind<256
 a:g.a<256
 b:g.b<256
 d:g.d<256
structure COk (x:CData):Prop where
 inp:x.inp<256
 dffs:x.dffs<256
 data0:x.data0<256
 data1:x.data1<256
 port0:x.port0<256
 port1:x.port1<256
 port2:x.port2<256
 port3:x.port3<256
 gates:∀g∈x.gates,GOk g
 outs:∀o∈x.outs,o<256
 gatesLen:x.gates.length<2^62
 outsLen:x.outs.length<2^62
def loN(k:Nat):Nat:=(loL (LQ k)).toNat
def hiZ(k:Nat):Int:=hiL (LQ k)
theorem JV(k:Nat):LQ (loN k)=loL (LQ k):=by
 unfold loN
 have:0<=loL (LQ k):=by
  rcases kinds (k:=LQ k) (MN k) with h|h|h|h|h|h|h|h|h|h|h|h|h|h|h|h|⟨n,h⟩ <;> rw[h]
  iterate 16 decide
  rw[Dz];decide
 exact Int.toNat_of_nonneg this
def gD(k:Nat)(K:Nat×Int->Prop):Prop:=k<256/\K (loN k,hiZ k)
theorem jL{k:Nat}{K:Nat×Int->Prop}(hm:gD k K){h0:Heap}(hB:aH vars h0):∃r,K r/\al Tryz.prog NG 108 ⟨[n8 k]⟩ h0 ((λr=>MD ⟨[i64 r.1,z64 r.2]⟩) r) h0:=by
 refine⟨_,hm.2,?_⟩;have:=Hi (k:=LQ k) (MN k) (by have:=hm.1;simp only[L4];omega) (ve hB);rw[<- JV] at this;exact this
structure Ln where
 node:Nat
 pin:Nat
def cI(x:Ln):Value:=.agg ⟨[i64 x.node,i64 x.pin]⟩
theorem BG(x:Ln):ag (cl (cI x)):=ag.cons (aq.flat rfl) (ag.cons (aq.flat rfl) ag.nil)
def rY(c:Circ):Prop:=FnV Tryz.prog NG vars 174 ⟨[az c]⟩ (i64 0)
def js(c:Circ)(K:Nat->Prop):Prop:=rY c/\K 0
theorem pY{c:Circ}{K:Nat->Prop}(hm:js c K){h0:Heap}(hB:aH vars h0):∃r,K r/\al Tryz.prog NG 174 ⟨[az c]⟩ h0 (i64 r) h0:=FnV.walk hm.1 hm.2 hB
def bR(n i:Nat)(ins:List Nat):List Ln:=(ins.zipIdx.filter λp=>p.1==n).map λp=>⟨i,p.2⟩
def pX(c:Circ):List (List Ln):=(Ma c.nodes.length).map λn=>c.nodes.zipIdx.flatMap λp=>bR n p.2 p.1.ins
def xY(c:Circ):Prop:=FnV Tryz.prog NG vars 135 ⟨[az c]⟩ (ae 1 (ae 2 cI) (pX c))
def iO(c:Circ)(K:List (List Ln)->Prop):Prop:=xY c/\K (pX c)
theorem kn{c:Circ}{K:List (List Ln)->Prop}(hm:iO c K){h0:Heap}(hB:aH vars h0):∃r,K r/\al Tryz.prog NG 135 ⟨[az c]⟩ h0 ((ae 1 (ae 2 cI)) r) h0:=FnV.walk hm.1 hm.2 hB
def Iv(s:ByteArray):Prop:=FnV Tryz.prog NG vars 202 ⟨[.string s]⟩ (.bool true)
def lD(s:ByteArray)(K:Bool->Prop):Prop:=Iv s/\K true
theorem oy{s:ByteArray}{K:Bool->Prop}(hm:lD s K){h0:Heap}(hB:aH vars h0):∃r,K r/\al Tryz.prog NG 202 ⟨[L5 s]⟩ h0 (L0 r) h0:=FnV.walk (enc:=L0) hm.1 hm.2 hB
theorem fw{f:FuncId}{fn:Func}{c:Code}(hf:Tryz.prog.funcs[f]?=some fn){vs:Array Value}{h:Heap}(hB:aH vars h){R:Type}{enc:R->Value}(hp:∀r,aq (enc r)){K:R->Prop}
  (hk:Own vars h [] h->CodeS Tryz.prog NG c (cM fn.ntmps vs) h λx e1 h1=>match x with
   |.exit _=>False
   |_=>mu Tryz.prog e1 h1 fn.results.toList λvs=>∃r,K r/\Ext h h1/\∀h2,Frozen h.size h1 h2->VLe h2 (sQ vs) (enc r))
  (hb:fn.body=some c:=by exact rfl) (hs:NK vs.size fn.ntmps=true:=by exact rfl):∃r,K r/\al Tryz.prog NG f vs h (enc r) h :=
 fnW hM hf hb (hP _ _ rfl hf) (Mq hs) hB hp hk
theorem fg{f:FuncId}{fn:Func}{c:Code}(hf:Tryz.prog.funcs[f]?=some fn){vs:Array Value}{h:Heap}{Q:Value->Heap->Prop}
  (hk:CodeS Tryz.prog NG c (cM fn.ntmps vs) h λx e1 h1=>match x with
   |.exit _=>False
   |_=>mu Tryz.prog e1 h1 fn.results.toList λvs=>Q (sQ vs) h1)
  (hb:fn.body=some c:=by exact rfl) (hs:NK vs.size fn.ntmps=true:=by exact rfl):∃v h',al Tryz.prog NG f vs h v h'/\Q v h' :=
 fnG hM hf hb (hP _ _ rfl hf) (Mq hs) hk
theorem fk{f:FuncId}{fn:Func}{c:Code}(hf:Tryz.prog.funcs[f]?=some fn)(hb:fn.body=some c:=by exact rfl):lp Tryz.prog f=true:=(nw hf hb (hP _ _ rfl hf)).1
set_option maxHeartbeats 8000000
def gI(p0:Nat)(K:Nat->Prop):Prop :=
 ((ltN 3 p0)=true->K 2)/\((ltN 3 p0)=false->K p0)
theorem tM{p0:Nat}{K:Nat->Prop}(hm:gI p0 K){h0:Heap}(hB:aH vars h0):∃r,K r/\al Tryz.prog NG 107 ⟨[n8 p0]⟩ h0 (n8 r) h0:=by
 unfold gI at hm
 refine fw Tryz.func107 hB (enc:=n8) (λr=>aq.flat rfl) λO=>?_;conv=>whnf
 refine gX ?_;refine br hm (λhm=>?_) λhm=>?_
 .refine gX ?_;exact fe hm O
 .refine gX ?_;exact fe hm O
def dE(p0:Nat)(K:Bool->Prop):Prop :=
 K (!ltN 1 p0)
theorem jT{p0:Nat}{K:Bool->Prop}(hm:dE p0 K){h0:Heap}(hB:aH vars h0):∃r,K r/\al Tryz.prog NG 77 ⟨[n8 p0]⟩ h0 (L0 r) h0:=by
 unfold dE at hm
 refine fw Tryz.func77 hB (enc:=L0) (λr=>aq.flat rfl) λO=>?_;conv=>whnf
 refine gX ?_;exact fe hm O
def cY(p0:Nat)(K:Nat->Prop):Prop :=
 dE p0 (λr1=>(r1=true->p0<=1/\1<256/\K (1-p0))/\(r1=false->K 2))
theorem dC{p0:Nat}{K:Nat->Prop}(hm:cY p0 K){h0:Heap}(hB:aH vars h0):∃r,K r/\al Tryz.prog NG 87 ⟨[n8 p0]⟩ h0 (n8 r) h0:=by
 unfold cY at hm
 refine fw Tryz.func87 hB (enc:=n8) (λr=>aq.flat rfl) λO=>?_;conv=>whnf
 refine gX ?_;refine ca (jT hm O.has) λr1 hm=>?_;refine gX ?_;refine br hm (λhm=>?_) λhm=>?_
 .refine gX ?_;refine KG hm λhm=>?_;refine gX ?_;exact fe hm O
 .refine gX ?_;exact fe hm O
def db(p0:Nat)(K:Nat->Prop):Prop :=
 K (min p0 2)
theorem fC{p0:Nat}{K:Nat->Prop}(hm:db p0 K){h0:Heap}(hB:aH vars h0):∃r,K r/\al Tryz.prog NG 126 ⟨[n8 p0]⟩ h0 (n8 r) h0:=by
 unfold db at hm
 refine fw Tryz.func126 hB (enc:=n8) (λr=>aq.flat rfl) λO=>?_;conv=>whnf
 refine gX ?_;refine⟨_,H5 (a:=p0) (b:=2) rfl rfl,?_⟩;refine gX ?_;exact fe hm O
def dA(p0:(List Nat))(p1:Nat)(p2:Nat)(K:Nat->Prop):Prop :=
 aw (α:=Nat) (λk2=>aF (S:=(Nat×Nat)) (λ(v3,v4) nx5=>((ltN v4 p0.length)=true->aw (α:=Nat) (λk7=>∃x8,p0[v4]?=some x8/\((eqN x8 p1)=true->K p1)/\((eqN x8 p1)=false->((neN x8 p2)=true->k7 2)/\((neN x8 p2)=false->k7 v3))) (λv6=>v4+1<2^63/\nx5 (v6,(v4+1))))/\((ltN v4 p0.length)=false->k2 v3)) (p2,0)) (λv1=>K v1)
theorem lA{p0:(List Nat)}{p1:Nat}{p2:Nat}{K:Nat->Prop}(hm:dA p0 p1 p2 K){h0:Heap}(hB:aH vars h0):∃r,K r/\al Tryz.prog NG 160 ⟨[(ae 1 n8) p0,n8 p1,n8 p2]⟩ h0 (n8 r) h0:=by
 unfold dA at hm
 refine fw Tryz.func160 hB (enc:=n8) (λr=>aq.flat rfl) λO=>?_;conv=>whnf
 apply Cs;conv=>whnf
 apply Cs;refine gH ?_
 apply Cs;conv=>whnf
 apply Cs;refine gH ?_;refine jn hm 28 [] (λs=>s) (λv1 h=>Own vars h0 [] h) (λv1=>[(7,(n8 v1))]) (λhm=>?_) ?_
 .refine gX ?_;refine lw 28 [1,2,11,12] (σ:=(Nat×Nat)) (λs=>s) (λ(v3,v4) h=>Own vars h0 [] h) (λ(v3,v4)=>[(7,(n8 v3)),(13,(i64 v4))]) (p2,0) hm O ?_;clear hm;rintro⟨v3,v4⟩ nx5 base h hm O;refine gX ?_;refine br hm (λhm=>?_) λhm=>?_
  .apply Cs;conv=>whnf
   refine jn hm 28 [1,2,11,12,13] (λs=>s) (λv6 h=>Own vars h0 [] h) (λv6=>[(7,(n8 v6))]) (λhm=>?_) ?_
   .refine gX ?_;refine atF hm λx8 hx8 hm=>?_;refine gX ?_;refine br hm (λhm=>?_) λhm=>?_
    .refine gX ?_;exact fe hm O
    .refine gX ?_;refine br hm (λhm=>?_) λhm=>?_
     .refine gX ?_;exact jx 2 hm O
     .refine gX ?_;exact jx v3 hm O
   .clear hm;rintro v6 base h hm O;refine gX ?_;refine aJ hm λhm=>?_;refine gH ?_;exact jx (v6,(v4+1)) hm O
  .refine gX ?_;exact jx v3 hm O
 .clear hm;rintro v1 base h hm O;refine gX ?_;exact fe hm O
def kW(p0:(List Nat))(K:Nat->Prop):Prop :=
 dA p0 0 1 (λr1=>K r1)
theorem oF{p0:(List Nat)}{K:Nat->Prop}(hm:kW p0 K){h0:Heap}(hB:aH vars h0):∃r,K r/\al Tryz.prog NG 127 ⟨[(ae 1 n8) p0]⟩ h0 (n8 r) h0:=by
 unfold kW at hm
 refine fw Tryz.func127 hB (enc:=n8) (λr=>aq.flat rfl) λO=>?_;conv=>whnf
 refine gX ?_;refine ca (lA hm O.has) λr1 hm=>?_;refine gX ?_;exact fe hm O
def lR(p0:(List Nat))(K:Nat->Prop):Prop :=
 dA p0 1 0 (λr1=>K r1)
theorem qa{p0:(List Nat)}{K:Nat->Prop}(hm:lR p0 K){h0:Heap}(hB:aH vars h0):∃r,K r/\al Tryz.prog NG 128 ⟨[(ae 1 n8) p0]⟩ h0 (n8 r) h0:=by
 unfold lR at hm
 refine fw Tryz.func128 hB (enc:=n8) (λr=>aq.flat rfl) λO=>?_;conv=>whnf
 refine gX ?_;refine ca (lA hm O.has) λr1 hm=>?_;refine gX ?_;exact fe hm O
def gV(p0:(List Nat))(K:Nat->Prop):Prop :=
 aw (α:=Nat) (λk2=>aF (S:=(Nat×Nat)) (λ(v3,v4) nx5=>((ltN v4 p0.length)=true->∃x6,p0[v4]?=some x6/\dE x6 (λr7=>((!r7)=true->K 2)/\((!r7)=false->v3<256/\x6<256/\v4+1<2^63/\nx5 ((v3 ^^^ x6),(v4+1)))))/\((ltN v4 p0.length)=false->k2 v3)) (0,0)) (λv1=>K v1)
theorem ph{p0:(List Nat)}{K:Nat->Prop}(hm:gV p0 K){h0:Heap}(hB:aH vars h0):∃r,K r/\al Tryz.prog NG 129 ⟨[(ae 1 n8) p0]⟩ h0 (n8 r) h0:=by
 unfold gV at hm
 refine fw Tryz.func129 hB (enc:=n8) (λr=>aq.flat rfl) λO=>?_;conv=>whnf
 apply Cs;conv=>whnf
 apply Cs;refine gH ?_
 apply Cs;conv=>whnf
 apply Cs;refine gH ?_;refine jn hm 20 [] (λs=>s) (λv1 h=>Own vars h0 [] h) (λv1=>[(3,(n8 v1))]) (λhm=>?_) ?_
 .refine gX ?_;refine lw 20 [6,7] (σ:=(Nat×Nat)) (λs=>s) (λ(v3,v4) h=>Own vars h0 [] h) (λ(v3,v4)=>[(3,(n8 v3)),(8,(i64 v4))]) (0,0) hm O ?_;clear hm;rintro⟨v3,v4⟩ nx5 base h hm O;refine gX ?_;refine br hm (λhm=>?_) λhm=>?_
  .refine gX ?_;refine atF hm λx6 hx6 hm=>?_;refine gX ?_;refine ca (jT hm O.has) λr7 hm=>?_;refine gX ?_;refine br hm (λhm=>?_) λhm=>?_
   .refine gX ?_;exact fe hm O
   .refine gX ?_;refine⟨_,J0 (a:=v3) (b:=x6) rfl rfl hm.1 hm.2.1,?_⟩;refine gX ?_;replace hm:=hm.2.2;refine aJ hm λhm=>?_;refine gH ?_;exact jx ((v3 ^^^ x6),(v4+1)) hm O
  .refine gX ?_;exact jx v3 hm O
 .clear hm;rintro v1 base h hm O;refine gX ?_;exact fe hm O
def jF(p0:Nat)(p1:Nat)(p2:Nat)(K:Nat->Prop):Prop :=
 ((eqN p0 0)=true->db p1 (λr1=>K r1))/\((eqN p0 0)=false->((eqN p0 1)=true->db p2 (λr2=>K r2))/\((eqN p0 1)=false->((eqN p1 p2)=true->db p1 (λr3=>K r3))/\((eqN p1 p2)=false->K 2)))
theorem vV{p0:Nat}{p1:Nat}{p2:Nat}{K:Nat->Prop}(hm:jF p0 p1 p2 K){h0:Heap}(hB:aH vars h0):∃r,K r/\al Tryz.prog NG 130 ⟨[n8 p0,n8 p1,n8 p2]⟩ h0 (n8 r) h0:=by
 unfold jF at hm
 refine fw Tryz.func130 hB (enc:=n8) (λr=>aq.flat rfl) λO=>?_;conv=>whnf
 refine gX ?_;refine br hm (λhm=>?_) λhm=>?_
 .refine gX ?_;refine ca (fC hm O.has) λr1 hm=>?_;refine gX ?_;exact fe hm O
 .refine gX ?_;refine br hm (λhm=>?_) λhm=>?_
  .refine gX ?_;refine ca (fC hm O.has) λr2 hm=>?_;refine gX ?_;exact fe hm O
  .refine gX ?_;refine br hm (λhm=>?_) λhm=>?_
   .refine gX ?_;refine ca (fC hm O.has) λr3 hm=>?_;refine gX ?_;exact fe hm O
   .refine gX ?_;exact fe hm O
def bL(p0:Nat)(p1:(List Nat))(K:Nat->Prop):Prop :=
 gD p0 (λr1=>aw (α:=Bool) (λk3=>((ltN p1.length r1.1)=true->k3 true)/\((ltN p1.length r1.1)=false->k3 (ltI r1.2 (LQ p1.length)))) (λv2=>(v2=true->K 2)/\(v2=false->((eqN p0 1)=true->K 0)/\((eqN p0 1)=false->((eqN p0 2)=true->K 1)/\((eqN p0 2)=false->((eqN p0 3)=true->∃x4,p1[0]?=some x4/\db x4 (λr5=>K r5))/\((eqN p0 3)=false->((eqN p0 4)=true->∃x6,p1[0]?=some x6/\cY x6 (λr7=>K r7))/\((eqN p0 4)=false->((eqN p0 5)=true->kW p1 (λr8=>K r8))/\((eqN p0 5)=false->((eqN p0 6)=true->kW p1 (λr9=>cY r9 (λr10=>K r10)))/\((eqN p0 6)=false->((eqN p0 7)=true->lR p1 (λr11=>K r11))/\((eqN p0 7)=false->((eqN p0 8)=true->lR p1 (λr12=>cY r12 (λr13=>K r13)))/\((eqN p0 8)=false->((eqN p0 9)=true->gV p1 (λr14=>K r14))/\((eqN p0 9)=false->((eqN p0 10)=true->gV p1 (λr15=>cY r15 (λr16=>K r16)))/\((eqN p0 10)=false->((eqN p0 11)=true->∃x17,p1[0]?=some x17/\∃x18,p1[1]?=some x18/\∃x19,p1[2]?=some x19/\jF x17 x18 x19 (λr20=>K r20))/\((eqN p0 11)=false->((eqN p0 12)=true->False)/\((eqN p0 12)=false->((eqN p0 13)=true->False)/\((eqN p0 13)=false->K 2))))))))))))))))
theorem iC{p0:Nat}{p1:(List Nat)}{K:Nat->Prop}(hm:bL p0 p1 K){h0:Heap}(hB:aH vars h0):∃r,K r/\al Tryz.prog NG 82 ⟨[n8 p0,(ae 1 n8) p1]⟩ h0 (n8 r) h0:=by
 unfold bL at hm
 refine fw Tryz.func82 hB (enc:=n8) (λr=>aq.flat rfl) λO=>?_;conv=>whnf
 refine gX ?_;refine ca (jL hm O.has) λr1 hm=>?_;refine gH ?_;refine jn hm 91 [0,1] (λs=>s) (λv2 h=>Own vars h0 [] h) (λv2=>[(21,(.bool v2))]) (λhm=>?_) ?_
 .refine gX ?_;refine br hm (λhm=>?_) λhm=>?_
  .refine gX ?_;exact jx true hm O
  .refine gX ?_;exact jx (ltI r1.2 (LQ p1.length)) hm O
 .clear hm;rintro v2 base h hm O;refine gX ?_;refine br hm (λhm=>?_) λhm=>?_
  .refine gX ?_;exact fe hm O
  .refine gX ?_;refine br hm (λhm=>?_) λhm=>?_
   .refine gX ?_;exact fe hm O
   .refine gX ?_;refine br hm (λhm=>?_) λhm=>?_
    .refine gX ?_;exact fe hm O
    .refine gX ?_;refine br hm (λhm=>?_) λhm=>?_
     .refine gX ?_;refine atF hm λx4 hx4 hm=>?_;refine gH ?_;refine ca (fC hm O.has) λr5 hm=>?_;refine gX ?_;exact fe hm O
     .refine gX ?_;refine br hm (λhm=>?_) λhm=>?_
      .refine gX ?_;refine atF hm λx6 hx6 hm=>?_;refine gH ?_;refine ca (dC hm O.has) λr7 hm=>?_;refine gX ?_;exact fe hm O
      .refine gX ?_;refine br hm (λhm=>?_) λhm=>?_
       .refine gX ?_;refine ca (oF hm O.has) λr8 hm=>?_;refine gX ?_;exact fe hm O
       .refine gX ?_;refine br hm (λhm=>?_) λhm=>?_
        .refine gX ?_;refine ca (oF hm O.has) λr9 hm=>?_;refine gH ?_;refine ca (dC hm O.has) λr10 hm=>?_;refine gX ?_;exact fe hm O
        .refine gX ?_;refine br hm (λhm=>?_) λhm=>?_
         .refine gX ?_;refine ca (qa hm O.has) λr11 hm=>?_;refine gX ?_;exact fe hm O
         .refine gX ?_;refine br hm (λhm=>?_) λhm=>?_
          .refine gX ?_;refine ca (qa hm O.has) λr12 hm=>?_;refine gH ?_;refine ca (dC hm O.has) λr13 hm=>?_;refine gX ?_;exact fe hm O
          .refine gX ?_;refine br hm (λhm=>?_) λhm=>?_
           .refine gX ?_;refine ca (ph hm O.has) λr14 hm=>?_;refine gX ?_;exact fe hm O
           .refine gX ?_;refine br hm (λhm=>?_) λhm=>?_
            .refine gX ?_;refine ca (ph hm O.has) λr15 hm=>?_;refine gH ?_;refine ca (dC hm O.has) λr16 hm=>?_;refine gX ?_;exact fe hm O
            .refine gX ?_;refine br hm (λhm=>?_) λhm=>?_
             .refine gX ?_;refine atF hm λx17 hx17 hm=>?_;refine gH ?_;refine atF hm λx18 hx18 hm=>?_;refine gH ?_;refine atF hm λx19 hx19 hm=>?_;refine gH ?_;refine ca (vV hm O.has) λr20 hm=>?_;refine gH ?_;refine⟨.inl (Ext.refl _),?_⟩;refine gH ?_;refine gX ?_;exact fe hm O
             .refine gX ?_;refine br hm (λhm=>?_) λhm=>?_
              .refine gX ?_;exact Nn hm
              .refine gX ?_;refine br hm (λhm=>?_) λhm=>?_
               .refine gX ?_;exact Nn hm
               .refine gX ?_;exact fe hm O
def kV(p0:(List Nat))(p1:Nat)(K:Int->Prop):Prop :=
 aw (α:=Unit) (λk1=>aF (S:=Nat) (λv2 nx3=>((ltN v2 p0.length)=true->∃x4,p0[v2]?=some x4/\((eqN p1 x4)=true->K (LQ v2))/\((eqN p1 x4)=false->v2+1<2^63/\nx3 (v2+1)))/\((ltN v2 p0.length)=false->k1 ())) 0) (λ_=>K (Mj 0))
theorem wk{p0:(List Nat)}{p1:Nat}{K:Int->Prop}(hm:kV p0 p1 K){h0:Heap}(hB:aH vars h0):∃r,K r/\al Tryz.prog NG 156 ⟨[(ae 1 n8) p0,n8 p1]⟩ h0 (z64 r) h0:=by
 unfold kV at hm
 refine fw Tryz.func156 hB (enc:=z64) (λr=>aq.flat rfl) λO=>?_;conv=>whnf
 apply Cs;conv=>whnf
 apply Cs;refine gH ?_;refine jn hm 19 [] (λs=>s) (λ_ h=>Own vars h0 [] h) (λ_=>[]) (λhm=>?_) ?_
 .refine gX ?_;refine lw 19 [0,1,7] (σ:=Nat) (λs=>s) (λv2 h=>Own vars h0 [] h) (λv2=>[(8,(i64 v2))]) 0 hm O ?_;clear hm;rintro v2 nx3 base h hm O;refine gX ?_;refine br hm (λhm=>?_) λhm=>?_
  .refine gX ?_;refine atF hm λx4 hx4 hm=>?_;refine gX ?_;refine br hm (λhm=>?_) λhm=>?_
   .refine gX ?_;exact fe hm O
   .refine gX ?_;refine aJ hm λhm=>?_;refine gH ?_;exact jx (v2+1) hm O
  .refine gX ?_;exact jx () hm O
 .clear hm;rintro _ base h hm O;refine gX ?_;exact fe hm O
def fx(p0:(List Nat))(p1:Nat)(K:Bool->Prop):Prop :=
 kV p0 p1 (λr1=>K (!ltI r1 (LQ 0)))
theorem rR{p0:(List Nat)}{p1:Nat}{K:Bool->Prop}(hm:fx p0 p1 K){h0:Heap}(hB:aH vars h0):∃r,K r/\al Tryz.prog NG 120 ⟨[(ae 1 n8) p0,n8 p1]⟩ h0 (L0 r) h0:=by
 unfold fx at hm
 refine fw Tryz.func120 hB (enc:=L0) (λr=>aq.flat rfl) λO=>?_;conv=>whnf
 refine gX ?_;refine ca (wk hm O.has) λr1 hm=>?_;refine gX ?_;exact fe hm O
def jm(p0:(List Nat))(c:Circ)(K:Int->Prop):Prop :=
 aw (α:=Unit) (λk1=>aF (S:=Nat) (λv2 nx3=>((ltN v2 p0.length)=true->∃x4,p0[v2]?=some x4/\((ltN x4 0)=true->K (LQ v2))/\((ltN x4 0)=false->((!ltN x4 c.nodes.length)=true->K (LQ v2))/\((!ltN x4 c.nodes.length)=false->v2+1<2^63/\nx3 (v2+1))))/\((ltN v2 p0.length)=false->k1 ())) 0) (λ_=>K (Mj 0))
theorem tz{p0:(List Nat)}{c:Circ}{K:Int->Prop}(hm:jm p0 c K){h0:Heap}(hB:aH vars h0):∃r,K r/\al Tryz.prog NG 102 ⟨[(ae 1 i64) p0,(.func (.func 191) ⟨[]⟩ ⟨[(FP (az c))]⟩)]⟩ h0 (z64 r) h0:=by
 unfold jm at hm
 refine fw Tryz.func102 hB (enc:=z64) (λr=>aq.flat rfl) λO=>?_;conv=>whnf
 apply Cs;conv=>whnf
 apply Cs;refine gH ?_;refine jn hm 19 [] (λs=>s) (λ_ h=>Own vars h0 [] h) (λ_=>[]) (λhm=>?_) ?_
 .refine gX ?_;refine lw 19 [0,1,7] (σ:=Nat) (λs=>s) (λv2 h=>Own vars h0 [] h) (λv2=>[(8,(i64 v2))]) 0 hm O ?_;clear hm;rintro v2 nx3 base h hm O;refine gX ?_;refine br hm (λhm=>?_) λhm=>?_
  .refine gX ?_;refine atF hm λx4 hx4 hm=>?_;refine gH ?_;refine fg Tryz.func191 ?_;refine gX ?_;refine br hm (λhm=>?_) λhm=>?_
   .refine gX ?_;refine bt ?_;refine gX ?_;exact fe hm O
   .refine gX ?_;refine br hm (λhm=>?_) λhm=>?_
    .refine gX ?_;exact fe hm O
    .refine gX ?_;refine aJ hm λhm=>?_;refine gH ?_;exact jx (v2+1) hm O
  .refine gX ?_;exact jx () hm O
 .clear hm;rintro _ base h hm O;refine gX ?_;exact fe hm O
def fD(p0:(List Nat))(c:Circ)(K:Bool->Prop):Prop :=
 jm p0 c (λr1=>K (!ltI r1 (LQ 0)))
theorem oa{p0:(List Nat)}{c:Circ}{K:Bool->Prop}(hm:fD p0 c K){h0:Heap}(hB:aH vars h0):∃r,K r/\al Tryz.prog NG 176 ⟨[(ae 1 i64) p0,(.func (.func 191) ⟨[]⟩ ⟨[(FP (az c))]⟩)]⟩ h0 (L0 r) h0:=by
 unfold fD at hm
 refine fw Tryz.func176 hB (enc:=L0) (λr=>aq.flat rfl) λO=>?_;conv=>whnf
 refine gX ?_;refine ca (tz hm O.has) λr1 hm=>?_;refine gX ?_;exact fe hm O
def mw(p0:(List Nat))(c:Circ)(K:Int->Prop):Prop :=
 aw (α:=Unit) (λk1=>aF (S:=Nat) (λv2 nx3=>((ltN v2 p0.length)=true->∃x4,p0[v2]?=some x4/\∃x5,c.nodes[x4]?=some x5/\((neN x5.kind 12)=true->K (LQ v2))/\((neN x5.kind 12)=false->v2+1<2^63/\nx3 (v2+1)))/\((ltN v2 p0.length)=false->k1 ())) 0) (λ_=>K (Mj 0))
theorem uQ{p0:(List Nat)}{c:Circ}{K:Int->Prop}(hm:mw p0 c K){h0:Heap}(hB:aH vars h0):∃r,K r/\al Tryz.prog NG 102 ⟨[(ae 1 i64) p0,(.func (.func 200) ⟨[]⟩ ⟨[(FP (az c))]⟩)]⟩ h0 (z64 r) h0:=by
 unfold mw at hm
 refine fw Tryz.func102 hB (enc:=z64) (λr=>aq.flat rfl) λO=>?_;conv=>whnf
 apply Cs;conv=>whnf
 apply Cs;refine gH ?_;refine jn hm 19 [] (λs=>s) (λ_ h=>Own vars h0 [] h) (λ_=>[]) (λhm=>?_) ?_
 .refine gX ?_;refine lw 19 [0,1,7] (σ:=Nat) (λs=>s) (λv2 h=>Own vars h0 [] h) (λv2=>[(8,(i64 v2))]) 0 hm O ?_;clear hm;rintro v2 nx3 base h hm O;refine gX ?_;refine br hm (λhm=>?_) λhm=>?_
  .refine gX ?_;refine atF hm λx4 hx4 hm=>?_;refine gH ?_;refine fg Tryz.func200 ?_;refine gX ?_;refine atF hm λx5 hx5 hm=>?_;refine gX ?_;refine br hm (λhm=>?_) λhm=>?_
   .refine gX ?_;exact fe hm O
   .refine gX ?_;refine aJ hm λhm=>?_;refine gH ?_;exact jx (v2+1) hm O
  .refine gX ?_;exact jx () hm O
 .clear hm;rintro _ base h hm O;refine gX ?_;exact fe hm O
def nI(p0:(List Nat))(c:Circ)(K:Bool->Prop):Prop :=
 mw p0 c (λr1=>K (!ltI r1 (LQ 0)))
theorem vz{p0:(List Nat)}{c:Circ}{K:Bool->Prop}(hm:nI p0 c K){h0:Heap}(hB:aH vars h0):∃r,K r/\al Tryz.prog NG 176 ⟨[(ae 1 i64) p0,(.func (.func 200) ⟨[]⟩ ⟨[(FP (az c))]⟩)]⟩ h0 (L0 r) h0:=by
 unfold nI at hm
 refine fw Tryz.func176 hB (enc:=L0) (λr=>aq.flat rfl) λO=>?_;conv=>whnf
 refine gX ?_;refine ca (uQ hm O.has) λr1 hm=>?_;refine gX ?_;exact fe hm O
def cX(p0:Nat)(K:Bool->Prop):Prop :=
 ((!ltN p0 1)=true->K (!ltN 13 p0))/\((!ltN p0 1)=false->K false)
theorem iE{p0:Nat}{K:Bool->Prop}(hm:cX p0 K){h0:Heap}(hB:aH vars h0):∃r,K r/\al Tryz.prog NG 81 ⟨[n8 p0]⟩ h0 (L0 r) h0:=by
 unfold cX at hm
 refine fw Tryz.func81 hB (enc:=L0) (λr=>aq.flat rfl) λO=>?_;conv=>whnf
 refine gX ?_;refine br hm (λhm=>?_) λhm=>?_
 .refine gX ?_;exact fe hm O
 .refine gX ?_;exact fe hm O
def dN(_p0:Circ)(p1:Node)(K:Bool->Prop):Prop :=
 ((neN p1.kind 15)=true->((eqN p1.mem 0)=true->K (eqN p1.bit 0))/\((eqN p1.mem 0)=false->K false))/\((neN p1.kind 15)=false->False)
theorem rE{p0:Circ}{p1:Node}{K:Bool->Prop}(hm:dN p0 p1 K){h0:Heap}(hB:aH vars h0):∃r,K r/\al Tryz.prog NG 201 ⟨[az p0,au p1]⟩ h0 (L0 r) h0:=by
 unfold dN at hm
 refine fw Tryz.func201 hB (enc:=L0) (λr=>aq.flat rfl) λO=>?_;conv=>whnf
 refine gX ?_;refine fz ?_;refine gH ?_;refine fz ?_;refine gX ?_;refine br hm (λhm=>?_) λhm=>?_
 .refine gX ?_;refine br hm (λhm=>?_) λhm=>?_
  .refine gX ?_;exact fe hm O
  .refine gX ?_;exact fe hm O
 .refine gX ?_;exact Nn hm
def eR(p0:Circ)(p1:Node)(K:Nat->Prop):Prop :=
 gD p1.kind (λr1=>((ltN 15 p1.kind)=true->K 7)/\((ltN 15 p1.kind)=false->aw (α:=Bool) (λk3=>((ltN p1.ins.length r1.1)=true->k3 true)/\((ltN p1.ins.length r1.1)=false->k3 (ltI r1.2 (LQ p1.ins.length)))) (λv2=>(v2=true->K 8)/\(v2=false->fD p1.ins p0 (λr4=>(r4=true->K 1)/\(r4=false->aw (α:=Bool) (λk6=>((eqN p1.kind 13)=true->nI p1.ins p0 (λr7=>k6 r7))/\((eqN p1.kind 13)=false->k6 false)) (λv5=>(v5=true->K 7)/\(v5=false->dN p0 p1 (λr8=>((!r8)=true->K 1)/\((!r8)=false->K 0))))))))))
theorem rb{p0:Circ}{p1:Node}{K:Nat->Prop}(hm:eR p0 p1 K){h0:Heap}(hB:aH vars h0):∃r,K r/\al Tryz.prog NG 173 ⟨[az p0,au p1]⟩ h0 (i64 r) h0:=by
 unfold eR at hm
 refine fw Tryz.func173 hB (enc:=i64) (λr=>aq.flat rfl) λO=>?_;conv=>whnf
 refine gX ?_;refine fz ?_;refine gH ?_;refine fz ?_;refine gX ?_;refine ca (jL hm O.has) λr1 hm=>?_;refine gX ?_;refine br hm (λhm=>?_) λhm=>?_
 .refine gX ?_;exact fe hm O
 .refine jn hm 53 [2,3,7] (λs=>s) (λv2 h=>Own vars h0 [] h) (λv2=>[(19,(.bool v2))]) (λhm=>?_) ?_
  .refine gX ?_;refine br hm (λhm=>?_) λhm=>?_
   .refine gX ?_;exact jx true hm O
   .refine gX ?_;exact jx (ltI r1.2 (LQ p1.ins.length)) hm O
  .clear hm;rintro v2 base h hm O;refine gX ?_;refine br hm (λhm=>?_) λhm=>?_
   .refine gX ?_;exact fe hm O
   .refine gX ?_;refine dF ?_;refine gX ?_;refine dF ?_;refine gX ?_;refine fg Tryz.func164 ?_;refine gX ?_;refine fz ?_;refine gX ?_;refine⟨.inl (Ext.refl _),?_⟩;refine gH ?_;refine ca (oa hm O.has) λr4 hm=>?_;refine gH ?_;refine⟨.inl (Ext.refl _),?_⟩;refine gH ?_;refine gX ?_;refine br hm (λhm=>?_) λhm=>?_
    .refine gX ?_;exact fe hm O
    .refine jn hm 53 [2,3] (λs=>s) (λv5 h=>Own vars h0 [] h) (λv5=>[(38,(.bool v5))]) (λhm=>?_) ?_
     .refine gX ?_;refine br hm (λhm=>?_) λhm=>?_
      .refine gX ?_;refine ca (vz hm O.has) λr7 hm=>?_;refine gH ?_;exact jx r7 hm O
      .refine gX ?_;exact jx false hm O
     .clear hm;rintro v5 base h hm O;refine gX ?_;refine br hm (λhm=>?_) λhm=>?_
      .refine gX ?_;exact fe hm O
      .refine gX ?_;refine ca (rE hm O.has) λr8 hm=>?_;refine gX ?_;refine br hm (λhm=>?_) λhm=>?_
       .refine gX ?_;exact fe hm O
       .refine gX ?_;exact fe hm O
def dT(p0:Circ)(K:Nat->Prop):Prop :=
 aw (α:=Bool) (λk2=>((ltN 16384 p0.nodes.length)=true->k2 true)/\((ltN 16384 p0.nodes.length)=false->((ltN 16 p0.mems.length)=true->k2 true)/\((ltN 16 p0.mems.length)=false->k2 (ltN 16384 p0.outs.length)))) (λv1=>(v1=true->K 3)/\(v1=false->((neN p0.names.length p0.nodes.length)=true->K 8)/\((neN p0.names.length p0.nodes.length)=false->aw (α:=Unit) (λk3=>aF (S:=Nat) (λv4 nx5=>((ltN v4 p0.nodes.length)=true->∃x6,p0.nodes[v4]?=some x6/\eR p0 x6 (λr9=>((neN r9 0)=true->K r9)/\((neN r9 0)=false->v4+1<2^63/\nx5 (v4+1))))/\((ltN v4 p0.nodes.length)=false->k3 ())) 0) (λ_=>js p0 (λr10=>((neN r10 0)=true->K r10)/\((neN r10 0)=false->aw (α:=Unit) (λk11=>aF (S:=Unit) (λ_ _nx12=>((ltN 0 p0.mems.length)=true->∃x13,p0.mems[0]?=some x13/\False)/\((ltN 0 p0.mems.length)=false->k11 ())) ()) (λ_=>fD p0.outs p0 (λr16=>(r16=true->K 1)/\(r16=false->K 0)))))))))
theorem pV{p0:Circ}{K:Nat->Prop}(hm:dT p0 K){h0:Heap}(hB:aH vars h0):∃r,K r/\al Tryz.prog NG 152 ⟨[az p0]⟩ h0 (i64 r) h0:=by
 unfold dT at hm
 refine fw Tryz.func152 hB (enc:=i64) (λr=>aq.flat rfl) λO=>?_;conv=>whnf
 refine gX ?_;refine fz ?_;refine gH ?_
 apply Cs;conv=>whnf
 apply Cs;conv=>whnf
 refine jn hm 73 [1] (λs=>s) (λv1 h=>Own vars h0 [] h) (λv1=>[(10,(.bool v1))]) (λhm=>?_) ?_
 .refine gX ?_;refine br hm (λhm=>?_) λhm=>?_
  .refine gX ?_;refine bt ?_;refine gH ?_;exact jx true hm O
  .refine gX ?_;refine br hm (λhm=>?_) λhm=>?_
   .refine gX ?_;exact jx true hm O
   .refine gX ?_;exact jx (ltN 16384 p0.outs.length) hm O
 .clear hm;rintro v1 base h hm O;refine gX ?_;refine br hm (λhm=>?_) λhm=>?_
  .refine gX ?_;exact fe hm O
  .refine gX ?_;refine br hm (λhm=>?_) λhm=>?_
   .refine gX ?_;exact fe hm O
   .apply Cs;conv=>whnf
    refine jn hm 73 [1] (λs=>s) (λ_ h=>Own vars h0 [] h) (λ_=>[]) (λhm=>?_) ?_
    .refine gX ?_;refine lw 73 [1,36,37] (σ:=Nat) (λs=>s) (λv4 h=>Own vars h0 [] h) (λv4=>[(38,(i64 v4))]) 0 hm O ?_;clear hm;rintro v4 nx5 base h hm O;refine gX ?_;refine br hm (λhm=>?_) λhm=>?_
     .refine gX ?_;refine atF hm λx6 hx6 hm=>?_;refine gH ?_;refine O.new (aj (l:=[(n8 0),nS,(i64 0),(i64 0)]) rfl rfl rfl) λg7 h O=>?_;refine gH ?_;refine O.stC 4 (.head _) [(n8 x6.kind),((ae 1 i64) x6.ins),(i64 x6.mem),(i64 x6.bit)] λh O=>?_;refine gX ?_;refine ldA O.i0 ?_;refine gH ?_;refine ca (rb hm O.has) λr9 hm=>?_;refine gX ?_;refine br hm (λhm=>?_) λhm=>?_
      .refine gX ?_;exact fe hm O
      .refine gX ?_;refine aJ hm λhm=>?_;refine gH ?_;exact jx (v4+1) hm (O.sel [] (by decide))
     .refine gX ?_;exact jx () hm O
    .clear hm;rintro _ base h hm O;refine gX ?_;refine ca (pY hm O.has) λr10 hm=>?_;refine gX ?_;refine br hm (λhm=>?_) λhm=>?_
     .refine gX ?_;exact fe hm O
     .apply Cs;conv=>whnf
      refine jn hm 73 [1] (λs=>s) (λ_ h=>Own vars h0 [] h) (λ_=>[]) (λhm=>?_) ?_
      .refine gX ?_;refine lw 73 [1,55,56] (σ:=Unit) (λs=>s) (λ_ h=>Own vars h0 [] h) (λ_=>[(57,(i64 0))]) () hm O ?_;clear hm;rintro _ nx12 base h hm O;refine gX ?_;refine br hm (λhm=>?_) λhm=>?_
       .refine gX ?_;refine atF hm λx13 hx13 hm=>?_;refine gH ?_;refine O.new (aj (l:=[nS,nS,(i64 0)]) rfl rfl rfl) λg14 h O=>?_;refine gH ?_;refine O.stC 3 (.head _) [((ae 1 i64) x13.addr),((ae 1 i64) x13.data),(i64 x13.write)] λh O=>?_;refine gX ?_;exact Nn hm
       .refine gX ?_;exact jx () hm O
      .clear hm;rintro _ base h hm O;refine gX ?_;refine dF ?_;refine gX ?_;refine dF ?_;refine gX ?_;refine fg Tryz.func164 ?_;refine gX ?_;refine fz ?_;refine gX ?_;refine⟨.inl (Ext.refl _),?_⟩;refine gH ?_;refine ca (oa hm O.has) λr16 hm=>?_;refine gH ?_;refine⟨.inl (Ext.refl _),?_⟩;refine gH ?_;refine gX ?_;refine br hm (λhm=>?_) λhm=>?_
       .refine gX ?_;exact fe hm O
       .refine gX ?_;exact fe hm O
def cz(p0:Circ)(p1:(List Nat))(K:(List Nat)->Prop):Prop :=
 aw (α:=(List Nat)) (λk5=>aF (S:=((List Nat)×Nat)) (λ(v7,v8) nx10=>((ltN v8 p0.nodes.length)=true->aw (α:=(List Nat)) (λk14=>∃x15,p0.nodes[v8]?=some x15/\fx p1 x15.kind (λr18=>(r18=true->(v7.length+([v8]:(List Nat)).length)*8<=2^47/\k14 (v7++([v8]:(List Nat))))/\(r18=false->k14 v7))) (λv12=>v8+1<2^63/\nx10 (v12,(v8+1))))/\((ltN v8 p0.nodes.length)=false->k5 v7)) (([]:List Nat),0)) (λv3=>K v3)
theorem eV{p0:Circ}{p1:(List Nat)}{K:(List Nat)->Prop}(hm:cz p0 p1 K){h0:Heap}(hB:aH vars h0):∃r,K r/\al Tryz.prog NG 70 ⟨[az p0,(ae 1 n8) p1]⟩ h0 ((ae 1 i64) r) h0:=by
 unfold cz at hm
 refine fw Tryz.func70 hB (enc:=(ae 1 i64)) (λr=>cg (λ_=>ag.cons (aq.flat rfl) ag.nil)) λO=>?_;conv=>whnf
 refine gX ?_;refine fz ?_;refine gH ?_
 apply Cs;conv=>whnf
 apply Cs;refine gH ?_;have O:=O.aZ (.cells (ah ((([]:List Nat)).map i64)) false);refine jn (σ:=(List Nat)×Option Nat) hm 27 [] (λs=>s.1) (λ(v3,a2) h=>(a2=none->v3=[])/\Own vars h0 [(sM a2 i64 v3)] h) (λ(v3,a2)=>[(5,(ak 1 a2 (v3.map i64)))]) (λhm=>?_) ?_
 .refine gX ?_;refine lw 27 [1,9,10] (σ:=((List Nat)×Nat)×Option Nat) (λs=>s.1) (λ((v7,v8),a6) h=>(a6=none->v7=[])/\Own vars h0 [(sM a6 i64 v7)] h) (λ((v7,v8),a6)=>[(5,(ak 1 a6 (v7.map i64))),(11,(i64 v8))]) ((([]:List Nat),0),none) hm ⟨(λ_=>rfl),O⟩ ?_;clear hm;rintro⟨⟨v7,v8⟩,a6⟩ nx10 base h hm ⟨ha9,O⟩;refine gX ?_;refine br hm (λhm=>?_) λhm=>?_
  .apply Cs;conv=>whnf
   refine jn (σ:=(List Nat)×Option Nat) hm 27 [1,9,10,11] (λs=>s.1) (λ(v12,a11) h=>(a11=none->v12=[])/\Own vars h0 [(sM a11 i64 v12)] h) (λ(v12,a11)=>[(5,(ak 1 a11 (v12.map i64)))]) (λhm=>?_) ?_
   .refine gX ?_;refine atF hm λx15 hx15 hm=>?_;refine gH ?_;refine O.new (aj (l:=[(n8 0),nS,(i64 0),(i64 0)]) rfl rfl rfl) λg16 h O=>?_;refine gH ?_;refine O.stC 4 (.head _) [(n8 x15.kind),((ae 1 i64) x15.ins),(i64 x15.mem),(i64 x15.bit)] λh O=>?_;refine gX ?_;refine ca (rR hm O.has) λr18 hm=>?_;refine gX ?_;refine br hm (λhm=>?_) λhm=>?_
    .refine gX ?_;refine fz ?_;refine gH ?_;refine O.apL (enc:=i64) (l:=v7) (new:=([v8]:(List Nat))) 1 (.tail _ (.head _)) ha9 hm λa19 h ha20 O hm=>?_;refine gH ?_;exact jx ((v7++([v8]:(List Nat))),a19) hm ⟨ha20,(O.sel [1] (by decide))⟩
    .refine gX ?_;exact jx (v7,a6) hm ⟨ha9,(O.sel [1] (by decide))⟩
   .clear hm;rintro⟨v12,a11⟩ base h hm ⟨ha13,O⟩;refine gX ?_;refine aJ hm λhm=>?_;refine gH ?_;exact jx ((v12,(v8+1)),a11) hm ⟨ha13,O⟩
  .refine gX ?_;exact jx (v7,a6) hm ⟨ha9,O⟩
 .clear hm;rintro⟨v3,a2⟩ base h hm ⟨ha4,O⟩;refine gX ?_;refine fg Tryz.func71 ?_;refine gX ?_;refine so (s:=1) (enc:=i64) (l:=v3) (n:=v3.length) (m:=v3.length) rfl rfl rfl rfl rfl rfl rfl ?_;refine gX ?_;exact⟨v3,hm,O.ext,λh2 F=>O.rn F (LV _) (.head _) ha4 (λ_=>rfl)⟩
def cT(p0:Circ)(K:((List Nat)×Nat)->Prop):Prop :=
 dT p0 (λr1=>((neN r1 0)=true->K ([],r1))/\((neN r1 0)=false->8*p0.nodes.length<=2^48/\p0.nodes.length<2^63/\8*p0.nodes.length<=2^48/\p0.nodes.length<2^63/\aw (α:=((List Nat)×(List Nat))) (λk11=>aF (S:=((List Nat)×(List Nat)×Nat)) (λ(v12,v14,v15) nx17=>((ltN v15 p0.nodes.length)=true->aw (α:=((List Nat)×(List Nat))) (λk22=>∃x23,p0.nodes[v15]?=some x23/\aw (α:=(List Nat)) (λk28=>cX x23.kind (λr29=>(r29=true->v15<p0.nodes.length/\∃x30,v12[v15]?=some x30/\k28 (v12.set v15 x23.ins.length))/\(r29=false->k28 v12))) (λv26=>v15<p0.nodes.length/\∃x31,v26[v15]?=some x31/\((eqN x31 0)=true->(v14.length+([v15]:(List Nat)).length)*8<=2^47/\k22 (v26,(v14++([v15]:(List Nat)))))/\((eqN x31 0)=false->k22 (v26,v14)))) (λ(v18,v20)=>v15+1<2^63/\nx17 (v18,v20,(v15+1))))/\((ltN v15 p0.nodes.length)=false->k11 (v12,v14))) ((LY p0.nodes.length (0:Nat)),([]:List Nat),0)) (λ(v7,v9)=>iO p0 (λr34=>aw (α:=((List Nat)×Nat)) (λk37=>aF (S:=((List Nat)×(List Nat)×(List Nat)×Nat)) (λ(v38,v39,v41,v42) nx44=>((ltN v42 v41.length)=true->∃x45,v41[v42]?=some x45/\v42+1<2^63/\∃x47,r34[x45]?=some x47/\((eqN x47.length 0)=true->nx44 (v38,v39,v41,(v42+1)))/\((eqN x47.length 0)=false->∃x48,r34[x45]?=some x48/\aF (S:=((List Nat)×(List Nat)×(List Nat)×Nat)) (λ(v49,v50,v52,v53) nx55=>((ltN v53 x48.length)=true->aw (α:=((List Nat)×(List Nat)×(List Nat))) (λk61=>∃x62,x48[v53]?=some x62/\∃x65,p0.nodes[x62.node]?=some x65/\cX x65.kind (λr66=>((!r66)=true->k61 (v49,v50,v52))/\((!r66)=false->x62.node<p0.nodes.length/\∃x67,v49[x62.node]?=some x67/\x45<p0.nodes.length/\∃x68,v49[x45]?=some x68/\x68+1<2^63/\x62.node<p0.nodes.length/\∃x69,v49[x62.node]?=some x69/\x62.node<p0.nodes.length/\∃x70,v50[x62.node]?=some x70/\1<=x70/\x70<2^63/\x62.node<p0.nodes.length/\∃x71,v50[x62.node]?=some x71/\x62.node<p0.nodes.length/\∃x72,(v50.set x62.node (x70-1))[x62.node]?=some x72/\((eqN x72 0)=true->(v52.length+([x62.node]:(List Nat)).length)*8<=2^47/\k61 ((v49.set x62.node (max x67 (x68+1))),(v50.set x62.node (x70-1)),(v52++([x62.node]:(List Nat)))))/\((eqN x72 0)=false->k61 ((v49.set x62.node (max x67 (x68+1))),(v50.set x62.node (x70-1)),v52))))) (λ(v56,v57,v59)=>v53+1<2^63/\nx55 (v56,v57,v59,(v53+1))))/\((ltN v53 x48.length)=false->nx44 (v49,v50,v52,(v42+1)))) (v38,v39,v41,0)))/\((ltN v42 v41.length)=false->k37 (v38,v42))) ((LY p0.nodes.length (0:Nat)),v7,v9,0)) (λ(v35,v36)=>((ltN v36 p0.nodes.length)=true->K ([],6))/\((ltN v36 p0.nodes.length)=false->p0.nodes.length=v35.length/\K (v35,0)))))))
theorem kh{p0:Circ}{K:((List Nat)×Nat)->Prop}(hm:cT p0 K){h0:Heap}(hB:aH vars h0):∃r,K r/\al Tryz.prog NG 103 ⟨[az p0]⟩ h0 ((λ(r:((List Nat)×Nat))=>MD ⟨[(ae 1 i64) (r.1),i64 (r.2)]⟩) r) h0:=by
 unfold cT at hm
 refine fw Tryz.func103 hB (enc:=(λ(r:((List Nat)×Nat))=>MD ⟨[(ae 1 i64) (r.1),i64 (r.2)]⟩)) (λr=>aq.tup (ag.cons (cg (λ_=>ag.cons (aq.flat rfl) ag.nil)) (ag.cons (aq.flat rfl) (ag.nil)))) λO=>?_;conv=>whnf
 refine gX ?_;refine fz ?_;refine gX ?_;refine ca (pV hm O.has) λr1 hm=>?_;refine gX ?_;refine br hm (λhm=>?_) λhm=>?_
 .refine gX ?_;exact⟨([],r1),hm,O.ext,λh2 F=>VLe.tup (LLe.cons (VLe.nil _ _) (LLe.cons (VLe.refl _ _) (LLe.nil _)))⟩
 .refine gX ?_;refine O.mkL (enc:=i64) 8 1 0 hm λg2 h O hm=>?_;refine gX ?_;refine O.mkL (enc:=i64) 8 1 0 hm λg4 h O hm=>?_;refine gH ?_
  apply Cs;conv=>whnf
  apply Cs;refine gH ?_;have O:=O.aZ (.cells (ah ((([]:List Nat)).map i64)) false);refine jn (σ:=((List Nat)×(List Nat))×Option Nat) hm 131 [1,5,6] (λs=>s.1) (λ((v7,v9),a8) h=>(a8=none->v9=[])/\Own vars h0 [(sG g2 i64 (LY p0.nodes.length (0:Nat))),(sG g4 i64 v7),(sM a8 i64 v9)] h) (λ((v7,v9),a8)=>[(7,(ak 1 a8 (v9.map i64)))]) (λhm=>?_) ?_
  .refine gX ?_;refine lw 131 [1,5,6,29,30] (σ:=((List Nat)×(List Nat)×Nat)×Option Nat) (λs=>s.1) (λ((v12,v14,v15),a13) h=>(a13=none->v14=[])/\Own vars h0 [(sG g2 i64 (LY p0.nodes.length (0:Nat))),(sG g4 i64 v12),(sM a13 i64 v14)] h) (λ((v12,v14,v15),a13)=>[(7,(ak 1 a13 (v14.map i64))),(31,(i64 v15))]) (((LY p0.nodes.length (0:Nat)),([]:List Nat),0),none) hm ⟨(λ_=>rfl),(O.sel [2,1,0] (by decide))⟩ ?_;clear hm;rintro⟨⟨v12,v14,v15⟩,a13⟩ nx17 base h hm ⟨ha16,O⟩;refine gX ?_;refine br hm (λhm=>?_) λhm=>?_
   .apply Cs;conv=>whnf
    refine jn (σ:=((List Nat)×(List Nat))×Option Nat) hm 131 [1,5,6,29,30,31] (λs=>s.1) (λ((v18,v20),a19) h=>(a19=none->v20=[])/\Own vars h0 [(sG g2 i64 (LY p0.nodes.length (0:Nat))),(sG g4 i64 v18),(sM a19 i64 v20)] h) (λ((v18,v20),a19)=>[(7,(ak 1 a19 (v20.map i64)))]) (λhm=>?_) ?_
    .refine gX ?_;refine atF hm λx23 hx23 hm=>?_;refine gH ?_;refine O.new (aj (l:=[(n8 0),nS,(i64 0),(i64 0)]) rfl rfl rfl) λg24 h O=>?_;refine gH ?_;refine O.stC 4 (.head _) [(n8 x23.kind),((ae 1 i64) x23.ins),(i64 x23.mem),(i64 x23.bit)] λh O=>?_;refine gH ?_;refine jn hm 131 [1,5,6,7,8,29,30,31] (λs=>s) (λv26 h=>(a13=none->v14=[])/\Own vars h0 [(sG g2 i64 (LY p0.nodes.length (0:Nat))),(sG g4 i64 v26),(sM a13 i64 v14)] h) (λv26=>[]) (λhm=>?_) ?_
     .refine gX ?_;refine ca (iE hm O.has) λr29 hm=>?_;refine gX ?_;refine br hm (λhm=>?_) λhm=>?_
      .refine gX ?_;refine ix 1 hm λx30 hx30 hm=>?_;refine gH ?_;refine O.stE 1 (.tail _ (.tail _ (.head _))) hx30 x23.ins.length λh O=>?_;refine gH ?_;exact jx (v12.set v15 x23.ins.length) hm ⟨ha16,(O.sel [1,2,3] (by decide))⟩
      .refine gX ?_;exact jx v12 hm ⟨ha16,(O.sel [1,2,3] (by decide))⟩
     .clear hm;rintro v26 base h hm ⟨ha27,O⟩;refine gX ?_;refine ix 1 hm λx31 hx31 hm=>?_;refine gH ?_;refine ldE (s:=1) (i:=0) O.i1 hx31 ?_;refine gX ?_;refine br hm (λhm=>?_) λhm=>?_
      .refine gX ?_;refine fz ?_;refine gH ?_;refine O.apL (enc:=i64) (l:=v14) (new:=([v15]:(List Nat))) 1 (.tail _ (.tail _ (.head _))) ha27 hm λa32 h ha33 O hm=>?_;refine gH ?_;exact jx ((v26,(v14++([v15]:(List Nat)))),a32) hm ⟨ha33,O⟩
      .refine gX ?_;exact jx ((v26,v14),a13) hm ⟨ha27,O⟩
    .clear hm;rintro⟨⟨v18,v20⟩,a19⟩ base h hm ⟨ha21,O⟩;refine gX ?_;refine aJ hm λhm=>?_;refine gH ?_;exact jx ((v18,v20,(v15+1)),a19) hm ⟨ha21,O⟩
   .refine gX ?_;exact jx ((v12,v14),a13) hm ⟨ha16,O⟩
  .clear hm;rintro⟨⟨v7,v9⟩,a8⟩ base h hm ⟨ha10,O⟩;refine gX ?_;refine ca (kn hm O.has) λr34 hm=>?_;refine gH ?_
   apply Cs;conv=>whnf
   apply Cs;refine gH ?_
   apply Cs;conv=>whnf
   apply Cs;conv=>whnf
   refine jn hm 131 [1,5] (λs=>s) (λ(v35,v36) h=>Own vars h0 [(sG g2 i64 v35)] h) (λ(v35,v36)=>[(11,(i64 v36))]) (λhm=>?_) ?_
   .refine gX ?_;refine lw 131 [1,5,6,10] (σ:=((List Nat)×(List Nat)×(List Nat)×Nat)×Option Nat) (λs=>s.1) (λ((v38,v39,v41,v42),a40) h=>(a40=none->v41=[])/\Own vars h0 [(sG g2 i64 v38),(sG g4 i64 v39),(sM a40 i64 v41)] h) (λ((v38,v39,v41,v42),a40)=>[(7,(ak 1 a40 (v41.map i64))),(11,(i64 v42))]) (((LY p0.nodes.length (0:Nat)),v7,v9,0),a8) hm ⟨ha10,O⟩ ?_;clear hm;rintro⟨⟨v38,v39,v41,v42⟩,a40⟩ nx44 base h hm ⟨ha43,O⟩;refine gX ?_;refine br hm (λhm=>?_) λhm=>?_
    .refine gX ?_;obtain⟨x45,hx45,hm⟩:=hm;have h9:=hm;obtain⟨g46,rfl⟩:=lb ha43 hx45;replace hm:=h9;refine cb (s:=1) (j:=v42) rfl rfl rfl rfl (by rw[LZ];exact ai hx45) ?_;refine gH ?_;refine ldE (s:=1) (i:=0) O.i2 hx45 ?_;refine gX ?_;refine aJ hm λhm=>?_;refine gX ?_;refine atF hm λx47 hx47 hm=>?_;refine gX ?_;refine br hm (λhm=>?_) λhm=>?_
     .refine gX ?_;exact jx ((v38,v39,v41,(v42+1)),(some g46)) hm ⟨jo,O⟩
     .refine gX ?_;refine atF hm λx48 hx48 hm=>?_;refine gX ?_;refine lw 131 [1,5,6,10,11,12,76,77] (σ:=((List Nat)×(List Nat)×(List Nat)×Nat)×Option Nat) (λs=>s.1) (λ((v49,v50,v52,v53),a51) h=>(a51=none->v52=[])/\Own vars h0 [(sG g2 i64 v49),(sG g4 i64 v50),(sM a51 i64 v52)] h) (λ((v49,v50,v52,v53),a51)=>[(7,(ak 1 a51 (v52.map i64))),(78,(i64 v53))]) ((v38,v39,v41,0),(some g46)) hm ⟨jo,O⟩ ?_;clear hm;rintro⟨⟨v49,v50,v52,v53⟩,a51⟩ nx55 base h hm ⟨ha54,O⟩;refine gX ?_;refine br hm (λhm=>?_) λhm=>?_
      .apply Cs;conv=>whnf
       refine jn (σ:=((List Nat)×(List Nat)×(List Nat))×Option Nat) hm 131 [1,5,6,10,11,12,76,77,78] (λs=>s.1) (λ((v56,v57,v59),a58) h=>(a58=none->v59=[])/\Own vars h0 [(sG g2 i64 v56),(sG g4 i64 v57),(sM a58 i64 v59)] h) (λ((v56,v57,v59),a58)=>[(7,(ak 1 a58 (v59.map i64)))]) (λhm=>?_) ?_
       .refine gX ?_;refine atF hm λx62 hx62 hm=>?_;refine gH ?_;refine O.new (aj (l:=[(i64 0),(i64 0)]) rfl rfl rfl) λg63 h O=>?_;refine gH ?_;refine O.stC 2 (.head _) [(i64 x62.node),(i64 x62.pin)] λh O=>?_;refine gX ?_;refine atF hm λx65 hx65 hm=>?_;refine gH ?_;refine ca (iE hm O.has) λr66 hm=>?_;refine gX ?_;refine br hm (λhm=>?_) λhm=>?_
        .refine gX ?_;exact jx ((v49,v50,v52),a51) hm ⟨ha54,(O.sel [1,2,3] (by decide))⟩
        .refine gX ?_;refine ix 1 hm λx67 hx67 hm=>?_;refine gH ?_;refine⟨_,bw rfl O.i1 rfl (eK (enc:=i64) (s:=1) (k:=0) (λ_=>rfl) hx67 rfl),?_⟩;refine gH ?_;refine ix 1 hm λx68 hx68 hm=>?_;refine gH ?_;refine⟨_,bw rfl O.i1 rfl (eK (enc:=i64) (s:=1) (k:=0) (λ_=>rfl) hx68 rfl),?_⟩;refine gH ?_;refine aJ hm λhm=>?_;refine gH ?_;refine⟨_,LJ (a:=x67) (b:=(x68+1)) rfl rfl,?_⟩;refine gH ?_;refine ix 1 hm λx69 hx69 hm=>?_;refine gH ?_;refine O.stE 1 (.tail _ (.head _)) hx69 (max x67 (x68+1)) λh O=>?_;refine gH ?_;refine gX ?_;refine ix 1 hm λx70 hx70 hm=>?_;refine gH ?_;refine ldE (s:=1) (i:=0) O.i2 hx70 ?_;refine gH ?_;refine vt hm λhm=>?_;refine gH ?_;refine ix 1 hm λx71 hx71 hm=>?_;refine gH ?_;refine O.stE 1 (.tail _ (.tail _ (.head _))) hx71 (x70-1) λh O=>?_;refine gX ?_;refine ix 1 hm λx72 hx72 hm=>?_;refine gH ?_;refine ldE (s:=1) (i:=0) O.i2 hx72 ?_;refine gX ?_;refine br hm (λhm=>?_) λhm=>?_
         .refine gX ?_;refine fz ?_;refine gH ?_;refine O.apL (enc:=i64) (l:=v52) (new:=([x62.node]:(List Nat))) 1 (.tail _ (.tail _ (.tail _ (.head _)))) ha54 hm λa73 h ha74 O hm=>?_;refine gH ?_;exact jx (((v49.set x62.node (max x67 (x68+1))),(v50.set x62.node (x70-1)),(v52++([x62.node]:(List Nat)))),a73) hm ⟨ha74,(O.sel [1,2,3] (by decide))⟩
         .refine gX ?_;exact jx (((v49.set x62.node (max x67 (x68+1))),(v50.set x62.node (x70-1)),v52),a51) hm ⟨ha54,(O.sel [1,2,3] (by decide))⟩
       .clear hm;rintro⟨⟨v56,v57,v59⟩,a58⟩ base h hm ⟨ha60,O⟩;refine gX ?_;refine aJ hm λhm=>?_;refine gH ?_;exact jx ((v56,v57,v59,(v53+1)),a58) hm ⟨ha60,O⟩
      .refine gX ?_;exact jx ((v49,v50,v52,(v42+1)),a51) hm ⟨ha54,O⟩
    .refine gX ?_;exact jx (v38,v42) hm (O.sel [0] (by decide))
   .clear hm;rintro⟨v35,v36⟩ base h hm O;refine gX ?_;refine br hm (λhm=>?_) λhm=>?_
    .refine gX ?_;exact⟨([],6),hm,O.ext,λh2 F=>VLe.tup (LLe.cons (VLe.nil _ _) (LLe.cons (VLe.refl _ _) (LLe.nil _)))⟩
    .refine gX ?_;obtain⟨hn75,hm⟩:=hm;exact⟨(v35,0),hm,O.ext,λh2 F=>VLe.tup (LLe.cons (O.jC F (LV _) (.head _) (λ_=>rfl) hn75) (LLe.cons (VLe.refl _ _) (LLe.nil _)))⟩
def dh(p0:Circ)(K:Nat->Prop):Prop :=
 cT p0 (λr1=>K r1.2)
theorem kM{p0:Circ}{K:Nat->Prop}(hm:dh p0 K){h0:Heap}(hB:aH vars h0):∃r,K r/\al Tryz.prog NG 96 ⟨[az p0]⟩ h0 (i64 r) h0:=by
 unfold dh at hm
 refine fw Tryz.func96 hB (enc:=i64) (λr=>aq.flat rfl) λO=>?_;conv=>whnf
 refine gX ?_;refine fz ?_;refine gX ?_;refine ca (kh hm O.has) λr1 hm=>?_;refine gX ?_;exact fe hm O
def jg(p0:Nat)(K:Bool->Prop):Prop :=
 K (neN p0 p0)
theorem pz{p0:Nat}{K:Bool->Prop}(hm:jg p0 K){h0:Heap}(hB:aH vars h0):∃r,K r/\al Tryz.prog NG 154 ⟨[i64 p0]⟩ h0 (L0 r) h0:=by
 unfold jg at hm
 refine fw Tryz.func154 hB (enc:=L0) (λr=>aq.flat rfl) λO=>?_;conv=>whnf
 refine gX ?_;exact fe hm O
def fW(p0:Nat)(p1:Nat)(K:Int->Prop):Prop :=
 jg p0 (λr1=>jg p1 (λr2=>(r1=true->(r2=true->K (LQ 0))/\(r2=false->K (Mj 0)))/\(r1=false->(r2=true->K (LQ 1))/\(r2=false->((ltN p0 p1)=true->K (Mj 0))/\((ltN p0 p1)=false->((ltN p1 p0)=true->K (LQ 1))/\((ltN p1 p0)=false->K (LQ 0)))))))
theorem tD{p0:Nat}{p1:Nat}{K:Int->Prop}(hm:fW p0 p1 K){h0:Heap}(hB:aH vars h0):∃r,K r/\al Tryz.prog NG 106 ⟨[i64 p0,i64 p1]⟩ h0 (z64 r) h0:=by
 unfold fW at hm
 refine fw Tryz.func106 hB (enc:=z64) (λr=>aq.flat rfl) λO=>?_;conv=>whnf
 refine gX ?_;refine ca (pz hm O.has) λr1 hm=>?_;refine gX ?_;refine ca (pz hm O.has) λr2 hm=>?_;refine gX ?_;refine br hm (λhm=>?_) λhm=>?_
 .refine gX ?_;refine br hm (λhm=>?_) λhm=>?_
  .refine gX ?_;exact fe hm O
  .refine gX ?_;exact fe hm O
 .refine gX ?_;refine br hm (λhm=>?_) λhm=>?_
  .refine gX ?_;exact fe hm O
  .refine gX ?_;refine br hm (λhm=>?_) λhm=>?_
   .refine gX ?_;exact fe hm O
   .refine gX ?_;refine br hm (λhm=>?_) λhm=>?_
    .refine gX ?_;exact fe hm O
    .refine gX ?_;exact fe hm O
def iX(data:List Nat)(lev:List Nat)(nd:Nat)(a:Nat)(b:Nat)(K:(List Nat)->Prop):Prop :=
 a+1<2^63/\aF (S:=((List Nat)×Nat)) (λ(v1,v2) nx3=>((ltN v2 b)=true->aw (α:=(List Nat)) (λk5=>aF (S:=((List Nat)×Nat)) (λ(v6,v7) nx8=>aw (α:=Bool) (λk10=>((ltN a v7)=true->v7<nd/\∃x11,v6[v7]?=some x11/\1<=v7/\v7<2^63/\(v7-1)<nd/\∃x12,v6[(v7-1)]?=some x12/\∃x13,lev[x11]?=some x13/\∃x14,lev[x12]?=some x14/\fW x13 x14 (λr15=>k10 (ltI r15 (LQ 0))))/\((ltN a v7)=false->k10 false)) (λv9=>(v9=true->1<=v7/\v7<2^63/\1<=v7/\v7<2^63/\(v7-1)<nd/\∃x16,v6[(v7-1)]?=some x16/\v7<nd/\∃x17,v6[v7]?=some x17/\v7<nd/\∃x18,v6[v7]?=some x18/\(v7-1)<nd/\∃x19,(v6.set v7 x16)[(v7-1)]?=some x19/\1<=v7/\v7<2^63/\nx8 (((v6.set v7 x16).set (v7-1) x17),(v7-1)))/\(v9=false->k5 v6))) (v1,v2)) (λv4=>v2+1<2^63/\nx3 (v4,(v2+1))))/\((ltN v2 b)=false->K v1)) (data,(a+1))
theorem qc{data:List Nat}{lev:List Nat}{nd:Nat}{a:Nat}{b:Nat}{gd:Nat}{gl:Nat}{L:List Slot}{K:(List Nat)->Prop}(hm:iX data lev nd a b K){h0 h:Heap}(O:Own vars h0 (((some gd),.cells (ah (data.map i64)) false)::((some gl),.cells [((ae 1 i64) lev)] false)::L) h):∃v h',al Tryz.prog NG 177 ⟨[(.slice (some ⟨gd,0,none⟩) nd nd),(i64 a),(i64 b),(.func (.func 105) ⟨[]⟩ ⟨[(.pointer (some ⟨gl,0,none⟩))]⟩)]⟩ h v h'/\∃(w0:(List Nat)),K w0/\v=.tuple ⟨[]⟩/\Own vars h0 (((some gd),.cells (ah (w0.map i64)) false)::((some gl),.cells [((ae 1 i64) lev)] false)::L) h'/\True:=by
 unfold iX at hm
 refine fg Tryz.func177 (Q:=λv h'=>∃(w0:(List Nat)),K w0/\v=.tuple ⟨[]⟩/\Own vars h0 (((some gd),.cells (ah (w0.map i64)) false)::((some gl),.cells [((ae 1 i64) lev)] false)::L) h'/\True) ?_;conv=>whnf
 refine gX ?_;refine aJ hm λhm=>?_;refine gX ?_;refine lw 53 [0,1,2,3] (σ:=((List Nat)×Nat)) (λs=>s) (λ(v1,v2) h=>Own vars h0 (((some gd),.cells (ah (v1.map i64)) false)::((some gl),.cells [((ae 1 i64) lev)] false)::L) h) (λ(v1,v2)=>[(8,(i64 v2))]) (data,(a+1)) hm O ?_;clear hm;rintro⟨v1,v2⟩ nx3 base h hm O;refine gX ?_;refine br hm (λhm=>?_) λhm=>?_
 .apply Cs;conv=>whnf
  refine jn hm 53 [0,1,2,3,8] (λs=>s) (λv4 h=>Own vars h0 (((some gd),.cells (ah (v4.map i64)) false)::((some gl),.cells [((ae 1 i64) lev)] false)::L) h) (λv4=>[]) (λhm=>?_) ?_
  .refine gX ?_;refine lw 53 [0,1,2,3,8] (σ:=((List Nat)×Nat)) (λs=>s) (λ(v6,v7) h=>Own vars h0 (((some gd),.cells (ah (v6.map i64)) false)::((some gl),.cells [((ae 1 i64) lev)] false)::L) h) (λ(v6,v7)=>[(9,(i64 v7))]) (v1,v2) hm O ?_;clear hm;rintro⟨v6,v7⟩ nx8 base h hm O
   conv=>whnf
   apply Cs;conv=>whnf
   refine jn hm 53 [0,1,2,3,8,9] (λs=>s) (λv9 h=>Own vars h0 (((some gd),.cells (ah (v6.map i64)) false)::((some gl),.cells [((ae 1 i64) lev)] false)::L) h) (λv9=>[(34,(.bool v9))]) (λhm=>?_) ?_
   .refine gX ?_;refine br hm (λhm=>?_) λhm=>?_
    .refine gX ?_;refine ix 1 hm λx11 hx11 hm=>?_;refine gH ?_;refine⟨_,bw rfl O.i0 rfl (eK (enc:=i64) (s:=1) (k:=0) (λ_=>rfl) hx11 rfl),?_⟩;refine gH ?_;refine vt hm λhm=>?_;refine gH ?_;refine ix 1 hm λx12 hx12 hm=>?_;refine gH ?_;refine⟨_,bw rfl O.i0 rfl (eK (enc:=i64) (s:=1) (k:=0) (λ_=>rfl) hx12 rfl),?_⟩;refine gH ?_;refine fg Tryz.func105 ?_;refine gX ?_
     first|refine⟨.inr (.inr (bw rfl O.i1 rfl rfl)),?_⟩|refine⟨.inr (.inl (by kernel_rfl)),?_⟩
     refine gX ?_;refine atF hm λx13 hx13 hm=>?_;refine gH ?_
     first|refine⟨.inr (.inr (bw rfl O.i1 rfl rfl)),?_⟩|refine⟨.inr (.inl (by kernel_rfl)),?_⟩
     refine gX ?_;refine atF hm λx14 hx14 hm=>?_;refine gH ?_;refine ca (tD hm O.has) λr15 hm=>?_;refine gH ?_;refine⟨.inl (Ext.refl _),?_⟩;refine gH ?_;refine gX ?_;refine⟨.inl (Ext.refl _),?_⟩;refine gH ?_;exact jx (ltI r15 (LQ 0)) hm O
    .refine gX ?_;exact jx false hm O
   .clear hm;rintro v9 base h hm O;refine gX ?_;refine br hm (λhm=>?_) λhm=>?_
    .refine gX ?_;refine vt hm λhm=>?_;refine gH ?_;refine vt hm λhm=>?_;refine gH ?_;refine ix 1 hm λx16 hx16 hm=>?_;refine gH ?_;refine⟨_,bw rfl O.i0 rfl (eK (enc:=i64) (s:=1) (k:=0) (λ_=>rfl) hx16 rfl),?_⟩;refine gH ?_;refine ix 1 hm λx17 hx17 hm=>?_;refine gH ?_;refine⟨_,bw rfl O.i0 rfl (eK (enc:=i64) (s:=1) (k:=0) (λ_=>rfl) hx17 rfl),?_⟩;refine gH ?_;refine ix 1 hm λx18 hx18 hm=>?_;refine gH ?_;refine O.stE 1 (.head _) hx18 x16 λh O=>?_;refine gH ?_;refine ix 1 hm λx19 hx19 hm=>?_;refine gH ?_;refine O.stE 1 (.head _) hx19 x17 λh O=>?_;refine gH ?_;refine gX ?_;refine vt hm λhm=>?_;refine gH ?_;exact jx (((v6.set v7 x16).set (v7-1) x17),(v7-1)) hm O
    .refine gX ?_;exact jx v6 hm O
  .clear hm;rintro v4 base h hm O;refine gX ?_;refine aJ hm λhm=>?_;refine gH ?_;exact jx (v4,(v2+1)) hm O
 .refine gX ?_;exact⟨v1,hm,rfl,O,trivial⟩
def fU(data:List Nat)(lev:List Nat)(nd:Nat)(n:Nat)(K:(List Nat)->Prop):Prop :=
 aw (α:=((List Nat)×Nat)) (λk3=>aF (S:=((List Nat)×Nat×Nat)) (λ(v4,v5,v6) nx7=>((!ltN n v6)=true->iX v4 lev nd v5 v6 (λx8=>v6+20<2^63/\nx7 (x8,v6,(v6+20))))/\((!ltN n v6)=false->k3 (v4,v5))) (data,0,20)) (λ(v1,v2)=>iX v1 lev nd v2 n (λx9=>aF (S:=Nat) (λv10 nx11=>((ltN v10 n)=true->2*v10<2^63/\aw (α:=Unit) (λk12=>aF (S:=Unit) (λ_ _nx13=>((!ltN n (2*v10))=true->0+v10<2^63/\False)/\((!ltN n (2*v10))=false->k12 ())) ()) (λ_=>aw (α:=Unit) (λk14=>0+v10<2^63/\((ltN (0+v10) n)=true->False)/\((ltN (0+v10) n)=false->k14 ())) (λ_=>v10*2<2^63/\nx11 (v10*2))))/\((ltN v10 n)=false->K x9)) 20))
theorem tR{data:List Nat}{lev:List Nat}{nd:Nat}{n:Nat}{gd:Nat}{gl:Nat}{L:List Slot}{K:(List Nat)->Prop}(hm:fU data lev nd n K){h0 h:Heap}(O:Own vars h0 (((some gd),.cells (ah (data.map i64)) false)::((some gl),.cells [((ae 1 i64) lev)] false)::L) h):∃v h',al Tryz.prog NG 153 ⟨[(.slice (some ⟨gd,0,none⟩) nd nd),(i64 n),(.func (.func 105) ⟨[]⟩ ⟨[(.pointer (some ⟨gl,0,none⟩))]⟩)]⟩ h v h'/\∃(w0:(List Nat)),K w0/\v=.tuple ⟨[]⟩/\Own vars h0 (((some gd),.cells (ah (w0.map i64)) false)::((some gl),.cells [((ae 1 i64) lev)] false)::L) h'/\True:=by
 unfold fU at hm
 refine fg Tryz.func153 (Q:=λv h'=>∃(w0:(List Nat)),K w0/\v=.tuple ⟨[]⟩/\Own vars h0 (((some gd),.cells (ah (w0.map i64)) false)::((some gl),.cells [((ae 1 i64) lev)] false)::L) h'/\True) ?_;conv=>whnf
 apply Cs;conv=>whnf
 apply Cs;refine gH ?_
 apply Cs;conv=>whnf
 apply Cs;refine gH ?_;refine jn hm 63 [0,1,2,6] (λs=>s) (λ(v1,v2) h=>Own vars h0 (((some gd),.cells (ah (v1.map i64)) false)::((some gl),.cells [((ae 1 i64) lev)] false)::L) h) (λ(v1,v2)=>[(7,(i64 v2))]) (λhm=>?_) ?_
 .refine gX ?_;refine lw 63 [0,1,2,6] (σ:=((List Nat)×Nat×Nat)) (λs=>s) (λ(v4,v5,v6) h=>Own vars h0 (((some gd),.cells (ah (v4.map i64)) false)::((some gl),.cells [((ae 1 i64) lev)] false)::L) h) (λ(v4,v5,v6)=>[(7,(i64 v5)),(8,(i64 v6))]) (data,0,20) hm O ?_;clear hm;rintro⟨v4,v5,v6⟩ nx7 base h hm O;refine gX ?_;refine br hm (λhm=>?_) λhm=>?_
  .refine gX ?_;obtain⟨_,h,hcall,x8,hm,rfl,O,_⟩:=qc hm  O;refine⟨_,_,hcall,?_⟩;refine gX ?_;refine aJ hm λhm=>?_;refine gH ?_;exact jx (x8,v6,(v6+20)) hm O
  .refine gX ?_;exact jx (v4,v5) hm O
 .clear hm;rintro⟨v1,v2⟩ base h hm O;refine gX ?_;obtain⟨_,h,hcall,x9,hm,rfl,O,_⟩:=qc hm  O;refine⟨_,_,hcall,?_⟩;refine gX ?_;refine lw 63 [0,1,2] (σ:=Nat) (λs=>s) (λv10 h=>Own vars h0 (((some gd),.cells (ah (x9.map i64)) false)::((some gl),.cells [((ae 1 i64) lev)] false)::L) h) (λv10=>[(6,(i64 v10))]) 20 hm O ?_;clear hm;rintro v10 nx11 base h hm O;refine gX ?_;refine br hm (λhm=>?_) λhm=>?_
  .refine gX ?_;refine IU hm λhm=>?_;refine gH ?_;refine jn hm 63 [0,1,2,6] (λs=>s) (λ_ h=>Own vars h0 (((some gd),.cells (ah (x9.map i64)) false)::((some gl),.cells [((ae 1 i64) lev)] false)::L) h) (λ_=>[(7,(i64 0))]) (λhm=>?_) ?_
   .refine gX ?_;refine lw 63 [0,1,2,6] (σ:=Unit) (λs=>s) (λ_ h=>Own vars h0 (((some gd),.cells (ah (x9.map i64)) false)::((some gl),.cells [((ae 1 i64) lev)] false)::L) h) (λ_=>[(7,(i64 0)),(8,(i64 (2*v10)))]) () hm O ?_;clear hm;rintro _ nx13 base h hm O;refine gX ?_;refine br hm (λhm=>?_) λhm=>?_
    .refine gX ?_;refine aJ hm λhm=>?_;refine gH ?_;exact Nn hm
    .refine gX ?_;exact jx () hm O
   .clear hm;rintro _ base h hm O
    conv=>whnf
    refine jn hm 63 [0,1,2,6] (λs=>s) (λ_ h=>Own vars h0 (((some gd),.cells (ah (x9.map i64)) false)::((some gl),.cells [((ae 1 i64) lev)] false)::L) h) (λ_=>[]) (λhm=>?_) ?_
    .refine gX ?_;refine aJ hm λhm=>?_;refine gX ?_;refine br hm (λhm=>?_) λhm=>?_
     .refine gX ?_;exact Nn hm
     .refine gX ?_;exact jx () hm O
    .clear hm;rintro _ base h hm O;refine gX ?_;refine IU hm λhm=>?_;refine gH ?_;exact jx (v10*2) hm O
  .refine gX ?_;exact⟨x9,hm,rfl,O,trivial⟩
def mh(data:List Nat)(lev:List Nat)(nd:Nat)(K:(List Nat)->Prop):Prop :=
 fU data lev nd nd (λx1=>K x1)
theorem xO{data:List Nat}{lev:List Nat}{nd:Nat}{gd:Nat}{gl:Nat}{L:List Slot}{K:(List Nat)->Prop}(hm:mh data lev nd K){h0 h:Heap}(O:Own vars h0 (((some gd),.cells (ah (data.map i64)) false)::((some gl),.cells [((ae 1 i64) lev)] false)::L) h):∃v h',al Tryz.prog NG 104 ⟨[(.slice (some ⟨gd,0,none⟩) nd nd),(.func (.func 105) ⟨[]⟩ ⟨[(.pointer (some ⟨gl,0,none⟩))]⟩)]⟩ h v h'/\∃(w0:(List Nat)),K w0/\v=.tuple ⟨[]⟩/\Own vars h0 (((some gd),.cells (ah (w0.map i64)) false)::((some gl),.cells [((ae 1 i64) lev)] false)::L) h'/\True:=by
 unfold mh at hm
 refine fg Tryz.func104 (Q:=λv h'=>∃(w0:(List Nat)),K w0/\v=.tuple ⟨[]⟩/\Own vars h0 (((some gd),.cells (ah (w0.map i64)) false)::((some gl),.cells [((ae 1 i64) lev)] false)::L) h'/\True) ?_;conv=>whnf
 refine gX ?_;obtain⟨_,h,hcall,x1,hm,rfl,O,_⟩:=tR hm  O;refine⟨_,_,hcall,?_⟩;refine gH ?_;exact⟨x1,hm,rfl,O,trivial⟩
def bz(p0:Circ)(K:((List Nat)×Nat)->Prop):Prop :=
 cT p0 (λr1=>((neN r1.2 0)=true->K ([],r1.2))/\((neN r1.2 0)=false->8*p0.nodes.length<=2^48/\p0.nodes.length<2^63/\aw (α:=(List Nat)) (λk7=>aF (S:=((List Nat)×Nat)) (λ(v8,v9) nx10=>((ltN v9 p0.nodes.length)=true->v9<p0.nodes.length/\∃x11,v8[v9]?=some x11/\v9+1<2^63/\nx10 ((v8.set v9 v9),(v9+1)))/\((ltN v9 p0.nodes.length)=false->k7 v8)) ((LY p0.nodes.length (0:Nat)),0)) (λv6=>mh v6 r1.1 p0.nodes.length (λx12=>p0.nodes.length=x12.length/\K (x12,0)))))
theorem eG{p0:Circ}{K:((List Nat)×Nat)->Prop}(hm:bz p0 K){h0:Heap}(hB:aH vars h0):∃r,K r/\al Tryz.prog NG 55 ⟨[az p0]⟩ h0 ((λ(r:((List Nat)×Nat))=>MD ⟨[(ae 1 i64) (r.1),i64 (r.2)]⟩) r) h0:=by
 unfold bz at hm
 refine fw Tryz.func55 hB (enc:=(λ(r:((List Nat)×Nat))=>MD ⟨[(ae 1 i64) (r.1),i64 (r.2)]⟩)) (λr=>aq.tup (ag.cons (cg (λ_=>ag.cons (aq.flat rfl) ag.nil)) (ag.cons (aq.flat rfl) (ag.nil)))) λO=>?_;conv=>whnf
 refine gX ?_;refine fz ?_;refine gX ?_;refine ca (kh hm O.has) λr1 hm=>?_;refine gH ?_;refine O.new (aj (l:=[nS]) rfl rfl rfl) λg2 h O=>?_;refine gH ?_;refine O.stC 1 (.head _) [((ae 1 i64) r1.1)] λh O=>?_;refine gX ?_;refine br hm (λhm=>?_) λhm=>?_
 .refine gX ?_;exact⟨([],r1.2),hm,O.ext,λh2 F=>VLe.tup (LLe.cons (VLe.nil _ _) (LLe.cons (VLe.refl _ _) (LLe.nil _)))⟩
 .refine gX ?_;refine O.mkL (enc:=i64) 8 1 0 hm λg4 h O hm=>?_;refine gH ?_;refine jn hm 34 [4,6] (λs=>s) (λv6 h=>Own vars h0 [(sC g2 [((ae 1 i64) r1.1)]),(sG g4 i64 v6)] h) (λv6=>[]) (λhm=>?_) ?_
  .refine gX ?_;refine lw 34 [4,6,21] (σ:=((List Nat)×Nat)) (λs=>s) (λ(v8,v9) h=>Own vars h0 [(sC g2 [((ae 1 i64) r1.1)]),(sG g4 i64 v8)] h) (λ(v8,v9)=>[(22,(i64 v9))]) ((LY p0.nodes.length (0:Nat)),0) hm (O.sel [1,0] (by decide)) ?_;clear hm;rintro⟨v8,v9⟩ nx10 base h hm O;refine gX ?_;refine br hm (λhm=>?_) λhm=>?_
   .refine gX ?_;refine ix 1 hm λx11 hx11 hm=>?_;refine gH ?_;refine O.stE 1 (.tail _ (.head _)) hx11 v9 λh O=>?_;refine gX ?_;refine aJ hm λhm=>?_;refine gH ?_;exact jx ((v8.set v9 v9),(v9+1)) hm O
   .refine gX ?_;exact jx v8 hm O
  .clear hm;rintro v6 base h hm O;refine gX ?_;obtain⟨_,h,hcall,x12,hm,rfl,O,_⟩:=xO hm  (O.sel [1,0] (by decide));refine⟨_,_,hcall,?_⟩;refine gX ?_;obtain⟨hn13,hm⟩:=hm;exact⟨(x12,0),hm,O.ext,λh2 F=>VLe.tup (LLe.cons (O.jC F (LV _) (.head _) (λ_=>rfl) hn13) (LLe.cons (VLe.refl _ _) (LLe.nil _)))⟩
theorem aX{a b:Nat}:ltN a b=true↔a<b:=by rw[bj];simp
theorem bC{a b:Nat}:ltN a b=false↔b<=a:=by rw[bj];simp
theorem cJ{a b:Nat}:eqN a b=true↔a=b:=by rw[oL];simp
theorem cF{a b:Nat}:eqN a b=false ↔ ¬ a=b:=by rw[oL];simp
theorem dm{a b:Nat}:neN a b=true ↔ ¬ a=b:=by rw[zt];simp
theorem qS{a b:Nat}:neN a b=false↔a=b:=by rw[zt];simp
theorem rl{a b:Nat}:(!ltN a b)=true↔b<=a:=by rw[bj];simp
theorem yG{a b:Nat}:(!ltN a b)=false↔a<b:=by rw[bj];simp
theorem iV{α:Type}{first:(α->Prop)->Prop}{rest:α->Prop}(h:first rest):aw first rest:=h
theorem aA{α:Type}{l:List α}{i:Nat}(h:i<l.length):∃x,l[i]?=some x:=⟨l[i],LU h⟩
theorem mj{α:Type}{l:List α}{body:(Unit->Prop)->Nat->(Nat->Prop)->Prop}{rest:Unit->Prop}
  (step:∀k i nx x,l[i]?=some x->i+1<=l.length->nx (i+1)->body k i nx)
  (fin:∀k i nx,l.length<=i->k ()->body k i nx) (h:rest ()):aw (λk=>aF (λi nx=>body k i nx) 0) rest:=by
 refine aB (λi=>i<=l.length) (λi=>l.length-i) (λ_=>True) ?_ (L1 _) (λ_ _=>h);intro k i nx hi hn hk;by_cases c:i<l.length
 .obtain⟨x,hx⟩:=aA c;exact step k i nx x hx c (hn (i+1) c (by omega))
 .exact fin k i nx (by omega) (hk () trivial)
def gz(v:Nat):Nat:=if v<=1 then 1-v else 2
def jH(low high:Nat):List Nat->Nat->Nat
 |[],out=>out
 |v::r,out=>if v=low then low else jH low high r (if v=high then out else 2)
def mD:List Nat->Nat->Nat
 |[],o=>o
 |v::r,o=>if v<=1 then mD r (o ^^^ v) else 2
def vU(s a b:Nat):Nat:=if s=0 then min a 2 else if s=1 then min b 2 else if a=b then min a 2 else 2
def uC(k:Nat)(l:List Nat):Nat :=
 if k=1 then 0 else if k=2 then 1 else if k=3 then min (l.getD 0 0) 2 else if k=4 then gz (l.getD 0 0)
 else if k=5 then jH 0 1 l 1 else if k=6 then gz (jH 0 1 l 1) else if k=7 then jH 1 0 l 0 else if k=8 then gz (jH 1 0 l 0)
 else if k=9 then mD l 0 else if k=10 then gz (mD l 0) else if k=11 then vU (l.getD 0 0) (l.getD 1 0) (l.getD 2 0) else 2
theorem xi{p:Nat}{K:Bool->Prop}(h:K (decide (p<=1))):dE p K:=by
 unfold dE
 have:(!ltN 1 p)=decide (p<=1):=by
  rw[MW,rl];simp
 rw[this];exact h
theorem qB{p:Nat}{K:Nat->Prop}(h:K (gz p)):cY p K:=by
 unfold cY;refine xi ?_;unfold gz at h;by_cases c:p<=1
 .rw[if_pos c] at h;exact⟨λ_=>⟨c,by decide,h⟩,λhc=>absurd c (of_decide_eq_false hc)⟩
 .rw[if_neg c] at h;exact⟨λhc=>absurd (of_decide_eq_true hc) c,λ_=>h⟩
theorem mM{α:Type}{l:List α}{i:Nat}{x:α}(h:l[i]?=some x):l.drop i=x::l.drop (i+1):=by
 obtain⟨h1,rfl⟩:=LX.1 h;exact List.drop_eq_getElem_cons h1
theorem nr{l:List Nat}{low high:Nat}{K:Nat->Prop}(hl:l.length<2^60)(h:K (jH low high l high)):dA l low high K:=by
 unfold dA;refine aB (λs=>s.2<=l.length/\jH low high (l.drop s.2) s.1=jH low high l high) (λs=>l.length-s.2) (λa=>a=jH low high l high) ?_ ⟨L1 _,rfl⟩ (λa e=>by rw[e];exact h);rintro k ⟨o,i⟩ nx ⟨hi,hI⟩ hn hk;refine⟨λhc=>?_,λhc=>?_⟩
 .have hc:=aX.1 hc;obtain⟨x,hx⟩:=aA hc;simp only[mM hx,jH] at hI;have next:∀o',jH low high (l.drop (i+1)) o'=jH low high l high->i+1<2^63/\nx (o',i+1):=λo' e=>⟨by omega,hn (o',i+1) ⟨hc,e⟩ (by simp only;omega)⟩;refine⟨x,hx,λh1=>?_,λh1=>⟨λh2=>?_,λh2=>?_⟩⟩
  .have h1:=cJ.1 h1;rw[if_pos h1] at hI;rw[<- hI] at h;exact h
  .rw[if_neg (cF.1 h1),if_neg (dm.1 h2)] at hI;exact next 2 hI
  .rw[if_neg (cF.1 h1),if_pos (qS.1 h2)] at hI;exact next o hI
 .have hc:=bC.1 hc;rw[NL hc] at hI;exact hk o hI
theorem Gh{l:List Nat}{K:Nat->Prop}(hl:l.length<2^60)(h:K (mD l 0)):gV l K:=by
 unfold gV;refine aB (λs=>s.2<=l.length/\s.1<=1/\mD (l.drop s.2) s.1=mD l 0) (λs=>l.length-s.2) (λa=>a=mD l 0) ?_ ⟨L1 _,by decide,rfl⟩ (λa e=>by rw[e];exact h);rintro k ⟨o,i⟩ nx ⟨hi,ho,hI⟩ hn hk;refine⟨λhc=>?_,λhc=>?_⟩
 .have hc:=aX.1 hc;obtain⟨x,hx⟩:=aA hc;simp only[mM hx,mD] at hI;refine⟨x,hx,xi ⟨λh1=>?_,λh1=>?_⟩⟩
  .have h1:¬ x<=1:=by simpa using h1
   rw[if_neg h1] at hI;rw[<- hI] at h;exact h
  .have h1:x<=1:=by simpa using h1
   rw[if_pos h1] at hI;simp only at ho;refine⟨by omega,by omega,by omega,hn (o ^^^ x,i+1) ⟨hc,?_,hI⟩ (by simp only;omega)⟩
   have q1:o=0\/o=1:=by omega
   have q2:x=0\/x=1:=by omega
   rcases q1 with rfl|rfl <;> rcases q2 with rfl|rfl <;> simp
 .have hc:=bC.1 hc;rw[NL hc] at hI;exact hk o hI
def eL(k n:Nat):Prop:=loN k<=n/\(LQ n<=hiZ k)
instance (k n:Nat):Decidable (eL k n):=by unfold eL;exact inferInstance
theorem xm{a b:Int}:ltI a b=false↔b<=a:=by rw[fG];simp
theorem Du{a b:Int}:ltI a b=true↔a<b:=by rw[fG];simp
theorem wj{k:Nat}{K:Nat×Int->Prop}(hk:k<256)(h:K (loN k,hiZ k)):gD k K:=⟨hk,h⟩
theorem yk{n:Nat}(h:eL 3 n):n=1:=by
 obtain⟨h1,h2⟩:=h
 have e1:loN 3=1:=by decide
 have e2:hiZ 3=1:=by decide
 rw[e1] at h1;rw[e2] at h2;simp only[L4] at h2;omega
theorem yy{n:Nat}(h:eL 4 n):n=1:=by
 obtain⟨h1,h2⟩:=h
 have e1:loN 4=1:=by decide
 have e2:hiZ 4=1:=by decide
 rw[e1] at h1;rw[e2] at h2;simp only[L4] at h2;omega
theorem EC{n:Nat}(h:eL 11 n):n=3:=by
 obtain⟨h1,h2⟩:=h
 have e1:loN 11=3:=by decide
 have e2:hiZ 11=3:=by decide
 rw[e1] at h1;rw[e2] at h2;simp only[L4] at h2;omega
theorem Kc{s a b:Nat}{K:Nat->Prop}(h:K (vU s a b)):jF s a b K:=by
 unfold jF db;unfold vU at h;refine⟨λh1=>?_,λh1=>⟨λh2=>?_,λh2=>⟨λh3=>?_,λh3=>?_⟩⟩⟩
 .rw[if_pos (cJ.1 h1)] at h;exact h
 .rw[if_neg (cF.1 h1),if_pos (cJ.1 h2)] at h;exact h
 .rw[if_neg (cF.1 h1),if_neg (cF.1 h2),if_pos (cJ.1 h3)] at h;exact h
 .rw[if_neg (cF.1 h1),if_neg (cF.1 h2),if_neg (cF.1 h3)] at h;exact h
theorem getD_some{l:List Nat}{i:Nat}(h:i<l.length):l[i]?=some (l.getD i 0):=by
 rw[Mh,LU h];rfl
theorem Im{k:Nat}{l:List Nat}{K:Nat->Prop}(hk0:1<=k)(hk:k<12)(ha:eL k l.length)(hl:l.length<2^60)(h:K (uC k l)):bL k l K:=by
 unfold bL;refine wj (by omega) ?_;refine iV ?_;refine⟨λh1=>?_,λh1=>?_⟩
 .have:=aX.1 h1;have:=ha.1;simp only at *;omega
 .have e:ltI (hiZ k) (LQ l.length)=false:=xm.2 ha.2
  show (ltI (hiZ k) (LQ l.length)=true->_)/\_
  rw[e];refine⟨(λhc=>by cases hc),λ_=>?_⟩;unfold uC at h;refine⟨λc=>?_,λc1=>⟨λc=>?_,λc2=>⟨λc=>?_,λc3=>⟨λc=>?_,λc4=>⟨λc=>?_,λc5=>⟨λc=>?_,λc6=>⟨λc=>?_,λc7=>⟨λc=>?_,λc8=>⟨λc=>?_,λc9=>⟨λc=>?_,λc10=>⟨λc=>?_,λc11=>?_⟩⟩⟩⟩⟩⟩⟩⟩⟩⟩⟩
  .have c:=cJ.1 c;subst c;exact h
  .have c:=cJ.1 c;subst c;exact h
  .have c:=cJ.1 c;subst c;exact⟨_,getD_some (by rw[yk ha];decide),h⟩
  .have c:=cJ.1 c;subst c;exact⟨_,getD_some (by rw[yy ha];decide),qB h⟩
  .have c:=cJ.1 c;subst c;exact nr hl h
  .have c:=cJ.1 c;subst c;exact nr hl (qB h)
  .have c:=cJ.1 c;subst c;exact nr hl h
  .have c:=cJ.1 c;subst c;exact nr hl (qB h)
  .have c:=cJ.1 c;subst c;exact Gh hl h
  .have c:=cJ.1 c;subst c;exact Gh hl (qB h)
  .have c:=cJ.1 c;subst c;have:=EC ha;exact⟨_,getD_some (by omega),_,getD_some (by omega),_,getD_some (by omega),Kc h⟩
  .exfalso;have a1:=cF.1 c1;have a2:=cF.1 c2;have a3:=cF.1 c3;have a4:=cF.1 c4;have a5:=cF.1 c5;have a6:=cF.1 c6;have a7:=cF.1 c7;have a8:=cF.1 c8;have a9:=cF.1 c9;have a10:=cF.1 c10;have a11:=cF.1 c11;omega
structure GoodN (c:Circ) (i:Nat) (x:Node):Prop where
 kind:x.kind<=14
 arity:eL x.kind x.ins.length
 ins:∀k∈x.ins,k<c.nodes.length
 plain:x.kind≠12/\x.kind≠13
 mem:x.mem=0/\x.bit=0
 acyc:1<=x.kind->x.kind<=13->∀k∈x.ins,k<i
structure Good (c:Circ):Prop where
 len:c.nodes.length<=16
 names:c.names.length=c.nodes.length
 namesOk:rY c
 fanOk:xY c
 mems:c.mems=[]
 outs:∀o∈c.outs,o<c.nodes.length
 outsLen:c.outs.length<=16
 node:∀i x,c.nodes[i]?=some x->GoodN c i x
 pos:0<c.nodes.length
theorem Lf(k:Nat)(hk:k<=15):hiZ k<=16:=by
 have:∀k,k<=15->hiZ k<=16:=by decide
 exact this k hk
theorem GoodN.few{c:Circ}{i:Nat}{x:Node}(g:GoodN c i x):x.ins.length<=16:=by
 have h1:=Lf _ (QQ g.kind);have h2:=g.arity.2;simp only[L4] at h2;omega
theorem vo{l:List Nat}{c:Circ}{K:Bool->Prop}(hl:∀k∈l,k<c.nodes.length)(hn:l.length<2^60)(h:K false):fD l c K:=by
 unfold fD jm;refine mj (l:=l) ?_ ?_ h
 .intro k i nx x hx hi hnx;have hx2:=hl x (LS hx);exact⟨λ_=>⟨x,hx,λh1=>absurd (aX.1 h1) (Mu _),λ_=>⟨λh2=>absurd (rl.1 h2) (by omega),λ_=>⟨by omega,hnx⟩⟩⟩,λh1=>absurd (bC.1 h1) (by omega)⟩
 .intro k i nx hi hk;exact⟨λh1=>absurd (aX.1 h1) (by omega),λ_=>hk⟩
theorem zR{k:Nat}{K:Bool->Prop}(h:K (decide (1<=k/\k<=13))):cX k K:=by
 unfold cX;by_cases c1:1<=k
 .refine⟨λ_=>?_,λq=>absurd (yG.1 q) (by omega)⟩
  have:(!ltN 13 k)=decide (1<=k/\k<=13):=by rw[MW,rl];simp[c1]
  rw[this];exact h
 .refine⟨λq=>absurd (rl.1 q) c1,λ_=>?_⟩;have:decide (1<=k/\k<=13)=false:=decide_eq_false (λq=>c1 q.1);rw[this] at h;exact h
theorem Kt{c:Circ}{x:Node}{K:Bool->Prop}(h1:x.mem=0/\x.bit=0)(h2:x.kind<=14)(h:K true):dN c x K:=by
 unfold dN;refine⟨λq=>⟨λ_=>?_,λq=>absurd h1.1 (cF.1 q)⟩,λq=>absurd (qS.1 q) (by omega)⟩;rw[cJ.2 h1.2];exact h
theorem IE{c:Circ}{i:Nat}{x:Node}{K:Nat->Prop}(g:GoodN c i x)(h:K 0):eR c x K:=by
 have hf:=g.few;unfold eR;refine wj (by have:=g.kind;omega) ?_;refine⟨λq=>absurd (aX.1 q) (by have:=g.kind;omega),λ_=>?_⟩;have e1:ltN x.ins.length (loN x.kind)=false:=bC.2 g.arity.1;have e2:ltI (hiZ x.kind) (LQ x.ins.length)=false:=xm.2 g.arity.2;refine iV ?_;refine⟨λq=>absurd (q.symm.trans e1) (by decide),λ_=>?_⟩
 show (ltI (hiZ x.kind) (LQ x.ins.length)=true->_)/\_
 rw[e2];refine⟨(λq=>by cases q),λ_=>vo g.ins (by omega) ⟨(λq=>by cases q),λ_=>?_⟩⟩
 have last:(false=true->K 7)/\(false=false->dN c x λr8=>((!r8)=true->K 1)/\((!r8)=false->K 0)) :=
  ⟨(λq=>by cases q),λ_=>Kt g.mem g.kind ⟨(λq=>by cases q),λ_=>h⟩⟩
 exact⟨λq=>absurd (cJ.1 q) g.plain.2,λ_=>last⟩
theorem F8{c:Circ}{K:Nat->Prop}(g:rY c)(h:K 0):js c K:=⟨g,h⟩
theorem Hn{c:Circ}{K:Nat->Prop}(g:Good c)(h:K 0):dT c K:=by
 have hlen:=g.len;have hol:=g.outsLen;unfold dT;have e1:ltN 16384 c.nodes.length=false:=bC.2 (by omega);have e2:ltN 16 c.mems.length=false:=bC.2 (by rw[g.mems];decide);have e3:ltN 16384 c.outs.length=false:=bC.2 (by omega);refine iV ?_;refine⟨λq=>absurd (q.symm.trans e1) (by decide),λ_=>⟨λq=>absurd (q.symm.trans e2) (by decide),λ_=>?_⟩⟩
 show (ltN 16384 c.outs.length=true->_)/\_
 rw[e3];refine⟨(λq=>by cases q),λ_=>⟨λq=>absurd g.names (dm.1 q),λ_=>?_⟩⟩;refine mj (l:=c.nodes) ?_ ?_ ?_
 .intro k i nx x hx hi hnx;exact⟨λ_=>⟨x,hx,IE (g.node i x hx) ⟨(λq=>absurd rfl (dm.1 q)),λ_=>⟨by omega,hnx⟩⟩⟩,λh1=>absurd (bC.1 h1) (by omega)⟩
 .intro k i nx hi hk;exact⟨λh1=>absurd (aX.1 h1) (by omega),λ_=>hk⟩
 .refine F8 g.namesOk ⟨(λq=>absurd rfl (dm.1 q)),λ_=>?_⟩;refine aB (λ_=>True) (λ_=>0) (λ_=>True) (λk _ nx _ _ hk=>⟨λq=>absurd (aX.1 q) (by rw[g.mems];decide),λ_=>hk () trivial⟩) trivial λ_ _=>?_;exact vo g.outs (by omega) ⟨(λq=>by cases q),λ_=>h⟩
def ofN(c:Circ)(ks:List Nat):List Nat:=(Ma c.nodes.length).filter λi=>ks.contains ((c.nodes.map Node.kind).getD i 0)
theorem zf{l:List Nat}{k:Nat}{K:Bool->Prop}(hn:l.length<2^60)(h:K (l.contains k)):fx l k K:=by
 unfold fx kV;refine aB (λi=>i<=l.length/\(l.take i).contains k=false) (λi=>l.length-i) (λ_=>l.contains k=false) ?_ ⟨L1 _,by simp⟩ (λ_ e=>by rw[e] at h;exact h);intro kk i nx ⟨hi,hI⟩ hnx hk;refine⟨λq=>?_,λq=>?_⟩
 .have q:=aX.1 q;obtain⟨x,hx⟩:=aA q;refine⟨x,hx,λe=>?_,λe=>⟨by omega,hnx (i+1) ⟨q,?_⟩ (by omega)⟩⟩
  .have e:=cJ.1 e
   have:l.contains k=true:=by simp;rw[e];exact LS hx
   rw[this] at h
   have e2:(!ltI (LQ i) (LQ 0))=true:=by
    have:ltI (LQ i) (LQ 0)=false:=xm.2 (MN i);rw[this];rfl
   show K (!ltI (LQ i) (LQ 0))
   rw[e2];exact h
  .have e:=cF.1 e;obtain⟨h1,rfl⟩:=LX.1 hx;rw[MK h1];simp only[List.contains_eq_mem,MB,Mm,decide_eq_false_iff_not] at hI ⊢;intro q2
   rcases q2 with q2|q2
   .exact hI q2
   .exact e q2
 .have q:=bC.1 q;rw[Mc q] at hI;exact hk () hI
theorem AW{c:Circ}{ks:List Nat}{K:List Nat->Prop}(hc:c.nodes.length<2^40)(hn:ks.length<2^60)(h:K (ofN c ks)):cz c ks K:=by
 unfold cz;refine aB (λs=>s.2<=c.nodes.length/\s.1=(Ma s.2).filter λi=>ks.contains ((c.nodes.map Node.kind).getD i 0)) (λs=>c.nodes.length-s.2) (λa=>a=ofN c ks) ?_ ⟨L1 _,rfl⟩ (λa e=>by rw[e];exact h);rintro k ⟨o,i⟩ nx ⟨hi,hI⟩ hnx hk;simp only at hi hI;refine⟨λq=>?_,λq=>?_⟩
 .have q:=aX.1 q;obtain⟨x,hx⟩:=aA q
  have hkd:(c.nodes.map Node.kind).getD i 0=x.kind:=by rw[Mh,L7,hx];rfl
  have hol:o.length<=i:=by rw[hI];exact Mf (Nf _ _) (by simp)
  refine⟨x,hx,zf hn ⟨λe=>⟨by simp only[L6];omega,by omega,hnx (o++[i],i+1) ⟨q,?_⟩ (by simp only;omega)⟩,λe=>⟨by omega,hnx (o,i+1) ⟨q,?_⟩ (by simp only;omega)⟩⟩⟩
  .show o++[i]=_
   rw[N6,Ns,<- hI];simp only[Pa,hkd,e,if_true,Sc]
  .show o=_
   rw[N6,Ns,<- hI];simp only[Pa,hkd,e,Sc];simp
 .have q:=bC.1 q
  have:i=c.nodes.length:=by omega
  subst this;exact hk o hI
def kd(c:Circ)(i:Nat):Nat:=(c.nodes.map Node.kind).getD i 0
def ct(c:Circ)(i:Nat):List Nat:=(c.nodes.map Node.ins).getD i []
theorem dk{c:Circ}{i:Nat}{x:Node}(h:c.nodes[i]?=some x):kd c i=x.kind:=by unfold kd;rw[Mh,L7,h];rfl
theorem sS{c:Circ}{i:Nat}{x:Node}(h:c.nodes[i]?=some x):ct c i=x.ins:=by unfold ct;rw[Mh,L7,h];rfl
def cL(k:Nat):Prop:=1<=k/\k<=13
instance (k:Nat):Decidable (cL k):=by unfold cL;exact inferInstance
theorem qP(x:Nat):∀(l:List Nat) (s:Nat),((l.zipIdx s).filter λp=>p.1==x).length=l.count x
 |[],_=>rfl
 |a::l,s=>by
  rw[Pw,Pa,Sd];by_cases c:a=x
  .simp[c,qP x l (s+1)]
  .simp[c,qP x l (s+1)]
theorem xL(x idx i:Nat)(ins:List Nat):(bR x idx ins).countP (λl=>l.node==i)=if idx=i then ins.count x else 0:=by
 unfold bR;rw[List.countP_map];by_cases c:idx=i
 .rw[if_pos c,<- qP x ins 0];subst c;rw[List.countP_eq_length.2 (by intro p _;simp)]
 .rw[if_neg c];rw[RE];intro p _;simpa using c
def bW(c:Circ)(x:Nat):List Ln:=c.nodes.zipIdx.flatMap λp=>bR x p.2 p.1.ins
theorem sx(x i:Nat):∀(ns:List Node) (s:Nat),((ns.zipIdx s).flatMap λp=>bR x p.2 p.1.ins).countP (λl=>l.node==i)=if s<=i then ((ns.map Node.ins).getD (i-s) []).count x else 0
 |[],s=>by simp
 |a::ns,s=>by
  rw[Pw,PU,List.countP_append,xL,sx x i ns (s+1)];by_cases c:s=i
  .subst c;rw[if_pos rfl,if_neg (by omega),if_pos (LV _),Nx];rfl
  .rw[if_neg c];by_cases q:s<=i
   .rw[if_pos (by omega:s+1<=i),if_pos q]
    have:i-s=(i-(s+1))+1:=by omega
    rw[this,Nu];rfl
   .rw[if_neg (by omega:¬ s+1<=i),if_neg q]
theorem yg(c:Circ)(x i:Nat):(bW c x).countP (λl=>l.node==i)=(ct c i).count x:=by
 have:=sx x i c.nodes 0;rw[if_pos (L1 _),Ou] at this;exact this
theorem zW{c:Circ}{x:Nat}{l:Ln}(h:l∈bW c x):l.node<c.nodes.length:=by
 unfold bW at h;rw[N8] at h;obtain⟨p,h1,h2⟩:=h;unfold bR at h2;obtain⟨q,_,rfl⟩:=MP.1 h2;have:=Se h1;simp only;omega
theorem xB{c:Circ}{x:Nat}(h:x<c.nodes.length):(pX c)[x]?=some (bW c x):=by
 unfold pX;rw[L7,M7 h];rfl
structure LevOk (c:Circ) (lev:List Nat):Prop where
 len:lev.length=c.nodes.length
 up:∀i x,c.nodes[i]?=some x->cL x.kind->∀k∈x.ins,lev.getD k 0<lev.getD i 0
theorem bm{l:List Nat}{i j v:Nat}(h:i<l.length):(l.set i v).getD j 0=if i=j then v else l.getD j 0:=by
 rw[Mh,Mh,Mp];by_cases c:i=j
 .subst c;simp[h]
 .simp[c]
structure Kahn (c:Circ) (lev left R:List Nat) (d:Nat):Prop where
 levLen:lev.length=c.nodes.length
 leftLen:left.length=c.nodes.length
 dle:d<=R.length
 nodup:R.Nodup
 lt:∀r∈R,r<c.nodes.length
 cnt:∀i,i<c.nodes.length->left.getD i 0=if cL (kd c i) then (ct c i).countP (λk=>decide (k ∉ R.take d)) else 0
 rdy:∀i,i<c.nodes.length->(i∈R↔left.getD i 0=0)
 up:∀i,i<c.nodes.length->cL (kd c i)->∀k∈ct c i,k∈R.take d->lev.getD k 0<lev.getD i 0
 bnd:∀i,lev.getD i 0<=d
structure KahnIn (c:Circ) (lev0 R0:List Nat) (d x:Nat) (lev left R:List Nat) (t:Nat):Prop where
 levLen:lev.length=c.nodes.length
 leftLen:left.length=c.nodes.length
 pre:∃r,R=R0++r
 nodup:R.Nodup
 lt:∀r∈R,r<c.nodes.length
 cnt:∀i,i<c.nodes.length->left.getD i 0=if cL (kd c i) then (ct c i).countP (λk=>decide (k ∉ R0.take d/\k≠x))+((bW c x).drop t).countP (λl=>l.node==i) else 0
 rdy:∀i,i<c.nodes.length->(i∈R↔left.getD i 0=0)
 up:∀i,i<c.nodes.length->cL (kd c i)->∀k∈ct c i,k∈R0.take d->lev.getD k 0<lev.getD i 0
 upx:∀l∈(bW c x).take t,cL (kd c l.node)->lev.getD x 0<lev.getD l.node 0
 bnd:∀i,lev.getD i 0<=d+1
 bndx:lev.getD x 0<=d
theorem zb(l:List Nat)(p:Nat->Prop)[DecidablePred p](x:Nat)(hx:¬ p x):l.countP (λk=>decide (¬ p k))=l.countP (λk=>decide (¬ p k/\k≠x))+l.count x:=by
 induction l with
 |nil=>rfl
 |cons a l ih =>
  rw[Py,Py,Sd,ih];by_cases c:a=x
  .subst c;simp[hx];omega
  .by_cases q:p a
   .simp[q,c]
   .simp[q,c];omega
theorem Kahn.enter{c:Circ}{lev left R:List Nat}{d x:Nat}(K:Kahn c lev left R d)(hx:R[d]?=some x):KahnIn c lev R d x lev left R 0:=by
 have hxn:x ∉ R.take d:=by
  intro m;obtain⟨h1,rfl⟩:=LX.1 hx;obtain⟨j,hj,e⟩:=NH m;rw[L8] at hj;rw[List.getElem_take] at e;exact Nv.1 K.nodup j d (by omega) h1 (by omega) e
 refine⟨K.levLen,K.leftLen,⟨[],by simp⟩,K.nodup,K.lt,λi hi=>?_,K.rdy,K.up,(λl m=>by simp at m),λi=>QQ (K.bnd i),K.bnd x⟩;rw[K.cnt i hi,M0,yg];by_cases q:cL (kd c i)
 .rw[if_pos q,if_pos q];exact zb _ (λk=>k∈R.take d) x (λh=>hxn h)
 .rw[if_neg q,if_neg q]
theorem im{l:List Nat}{d x:Nat}(hx:l[d]?=some x):l.take (d+1)=l.take d++[x]:=by
 obtain⟨h1,rfl⟩:=LX.1 hx;exact MK h1
theorem KahnIn.leave{c:Circ}{lev0 R0 lev left R:List Nat}{d x t:Nat}(hx:R0[d]?=some x)(K:KahnIn c lev0 R0 d x lev left R t)(ht:(bW c x).length<=t):Kahn c lev left R (d+1):=by
 have hd:d<R0.length:=(LX.1 hx).1;obtain⟨r,hr⟩:=K.pre
 have htk:R.take (d+1)=R0.take d++[x]:=by
  rw[hr,N0 (by omega),im hx]
 refine⟨K.levLen,K.leftLen,by rw[hr,Ml];omega,K.nodup,K.lt,λi hi=>?_,K.rdy,λi hi q k hk m=>?_,K.bnd⟩
 .rw[K.cnt i hi,NL ht];by_cases q:cL (kd c i)
  .rw[if_pos q,if_pos q];simp only[List.countP_nil,OP,htk];congr 1;funext k;simp
  .rw[if_neg q,if_neg q]
 .rw[htk,MB,Mm] at m
  rcases m with m|rfl
  .exact K.up i hi q k hk m
  .have:0<(bW c k).countP (λl=>l.node==i):=by
    rw[yg];exact QJ.2 hk
   obtain⟨l,m,e⟩:=RC.1 this
   have e:l.node=i:=by simpa using e
   have:=K.upx l (by rw[Mc ht];exact m) (by rw[e];exact q);rw[e] at this;exact this
theorem KahnIn.skip{c:Circ}{lev0 R0 lev left R:List Nat}{d x t:Nat}{l:Ln}(K:KahnIn c lev0 R0 d x lev left R t)(hl:(bW c x)[t]?=some l)(hc:¬ cL (kd c l.node)):KahnIn c lev0 R0 d x lev left R (t+1):=by
 have hd:=mM hl;obtain⟨h1,hl2⟩:=LX.1 hl;refine⟨K.levLen,K.leftLen,K.pre,K.nodup,K.lt,λi hi=>?_,K.rdy,K.up,λl' m q=>?_,K.bnd,K.bndx⟩
 .rw[K.cnt i hi];by_cases q:cL (kd c i)
  .rw[if_pos q,if_pos q,hd,Py]
   have:(l.node==i)=false:=by
    rw[beq_eq_false_iff_ne];intro e;rw[e] at hc;exact hc q
   simp[this]
  .rw[if_neg q,if_neg q]
 .rw[MK h1,hl2,MB,Mm] at m
  rcases m with m|rfl
  .exact K.upx l' m q
  .exact absurd q hc
theorem KahnIn.pos{c:Circ}{lev0 R0 lev left R:List Nat}{d x t:Nat}{l:Ln}(K:KahnIn c lev0 R0 d x lev left R t)(hl:(bW c x)[t]?=some l)(hc:cL (kd c l.node)):1<=left.getD l.node 0:=by
 rw[K.cnt _ (zW (LS hl)),if_pos hc,mM hl,Py];simp;omega
theorem KahnIn.step{c:Circ}{lev0 R0 lev left R:List Nat}{d x t:Nat}{l:Ln}(K:KahnIn c lev0 R0 d x lev left R t)(hl:(bW c x)[t]?=some l)(hc:cL (kd c l.node))(hx:R0[d]?=some x){R':List Nat}
  (hR:(left.getD l.node 0-1=0/\R'=R++[l.node])\/(left.getD l.node 0-1≠0/\R'=R)) :
  KahnIn c lev0 R0 d x (lev.set l.node (max (lev.getD l.node 0) (lev.getD x 0+1))) (left.set l.node (left.getD l.node 0-1)) R' (t+1):=by
 have hd:=mM hl;obtain⟨h1,hl2⟩:=LX.1 hl;have hj:=zW (LS hl);have hpos:=K.pos hl hc
 have hjR:l.node ∉ R:=λm=>by
  have:=(K.rdy _ hj).1 m;omega
 obtain⟨r,hr⟩:=K.pre
 have hxR:x∈R:=by rw[hr];exact MA _ (LS hx)
 have hxne:l.node≠x:=λe=>hjR (by rw[e];exact hxR)
 have hlev:∀i,lev.getD i 0<=(lev.set l.node (max (lev.getD l.node 0) (lev.getD x 0+1))).getD i 0:=λi=>by
  rw[bm (by rw[K.levLen];exact hj)];split
  .rename_i e;subst e;exact Nat.le_max_left _ _
  .exact LV _
 have hsame:∀k,k∈R->(lev.set l.node (max (lev.getD l.node 0) (lev.getD x 0+1))).getD k 0=lev.getD k 0:=λk m=>by
  rw[bm (by rw[K.levLen];exact hj),if_neg (λe=>hjR (by rw[e];exact m))]
 refine⟨by rw[Nj];exact K.levLen,by rw[Nj];exact K.leftLen,?_,?_,?_,λi hi=>?_,λi hi=>?_,λi hi q k hk m=>?_,λl' m q=>?_,λi=>?_,by rw[hsame x hxR];exact K.bndx⟩
 .rcases hR with⟨_,rfl⟩|⟨_,rfl⟩
  .exact⟨r++[l.node],by rw[hr,MC]⟩
  .exact⟨r,hr⟩
 .rcases hR with⟨_,rfl⟩|⟨_,rfl⟩
  .rw[Oy];exact⟨K.nodup,by simp,λa ha b hb=>by rw[Mm] at hb;subst hb;exact λe=>hjR (e ▸ ha)⟩
  .exact K.nodup
 .rcases hR with⟨_,rfl⟩|⟨_,rfl⟩
  .intro a m
   rcases MB.1 m with m|m
   .exact K.lt a m
   .rw[Mm] at m;subst m;exact hj
  .exact K.lt
 .rw[bm (by rw[K.leftLen];exact hj)];have hK:=K.cnt i hi;rw[hd,Py] at hK;by_cases e:l.node=i
  .subst e;rw[if_pos rfl,if_pos hc];rw[if_pos hc] at hK
   have hb:(l.node==l.node)=true:=by simp
   rw[if_pos hb] at hK;omega
  .rw[if_neg e,hK];have:(l.node==i)=false:=beq_eq_false_iff_ne.2 e;simp[this]
 .rw[bm (by rw[K.leftLen];exact hj)];by_cases e:l.node=i
  .subst e;rw[if_pos rfl]
   rcases hR with⟨h0,rfl⟩|⟨h0,rfl⟩
   .exact⟨λ_=>h0,λ_=>by simp⟩
   .exact⟨λm=>absurd m hjR,λq=>absurd q h0⟩
  .rw[if_neg e,<- K.rdy i hi]
   rcases hR with⟨_,rfl⟩|⟨_,rfl⟩
   .rw[MB,Mm];exact⟨λm=>m.resolve_right (λq=>e q.symm),.inl⟩
   .exact O4
 .have hkR:k∈R:=by rw[hr];exact MA _ (OR m)
  rw[hsame k hkR];exact Mr (K.up i hi q k hk m) (hlev i)
 .rw[MK h1,hl2,MB,Mm] at m;rw[hsame x hxR]
  rcases m with m|rfl
  .exact Mr (K.upx l' m q) (hlev _)
  .rw[bm (by rw[K.levLen];exact hj),if_pos rfl];omega
 .rw[bm (by rw[K.levLen];exact hj)];have:=K.bnd i;have:=K.bndx;have:=K.bnd l.node
  split <;> omega
theorem kZ:∀{l m:List Nat},l.Nodup->(∀x∈l,x∈m)->l.length<=m.length
 |[],_,_,_=>L1 _
 |a::l,m,hn,hs=>by
  obtain⟨h1,h2⟩:=Rj.1 hn;have ha:a∈m:=hs a (.head _);have:=kZ (m:=m.erase a) h2 λx hx=>(Ru (λe=>h1 (by rw[<- e];exact hx))).2 (hs x (.tail _ hx));rw[QW ha] at this;have:=NO ha;rw[M8];omega
theorem Kahn.all{c:Circ}(g:Good c){lev left R:List Nat}{d:Nat}(K:Kahn c lev left R d)(hd:R.length<=d):d=c.nodes.length/\LevOk c lev:=by
 have hdR:R.take d=R:=Mc hd
 have mem:∀i,i<c.nodes.length->i∈R:=by
  intro i
  induction i using Nat.strongRecOn with
  |_ i ih =>
   intro hi;rw[K.rdy i hi,K.cnt i hi];by_cases q:cL (kd c i)
   .rw[if_pos q,RE];intro k hk;obtain⟨x,hx⟩:=aA hi;rw[sS hx] at hk;rw[dk hx] at q;have:=(g.node i x hx).acyc q.1 q.2 k hk;simp[hdR,ih k this (by omega)]
   .rw[if_neg q]
 have h1:c.nodes.length<=R.length:=by
  have:(Ma c.nodes.length).length<=R.length:=kZ Oq (λi m=>mem i (Mx.1 m));simpa using this
 have h2:R.length<=c.nodes.length:=by
  have:R.length<=(Ma c.nodes.length).length:=kZ K.nodup (λi m=>Mx.2 (K.lt i m));simpa using this
 refine⟨by have:=K.dle;omega,K.levLen,λi x hx q k hk=>?_⟩;have hi:=ai hx;refine K.up i hi (by rw[dk hx];exact q) k (by rw[sS hx];exact hk) ?_;rw[hdR];exact mem k ((g.node i x hx).ins k hk)
theorem Kahn.start{c:Circ}{left R:List Nat}(h1:left.length=c.nodes.length)(h2:∀i,i<c.nodes.length->left.getD i 0=if cL (kd c i) then (ct c i).length else 0)(h3:R.Nodup)(h4:∀i,i∈R↔i<c.nodes.length/\left.getD i 0=0):Kahn c (LY c.nodes.length 0) left R 0:=by
 refine⟨by simp,h1,L1 _,h3,λr m=>((h4 r).1 m).1,λi hi=>?_,λi hi=>?_,λi _ _ k _ m=>by simp at m,λi=>?_⟩
 .rw[h2 i hi];simp
 .rw[h4 i];exact⟨λh=>h.2,λh=>⟨hi,h⟩⟩
 .rw[Mh,Mt]
  split <;> simp
theorem Fj{c:Circ}{K:List (List Ln)->Prop}(g:xY c)(h:K (pX c)):iO c K:=⟨g,h⟩
theorem KS{b:Bool}(h:(!b)=true):b=false:=by cases b;rfl;cases h
theorem JY{b:Bool}(h:(!b)=false):b=true:=by cases b;cases h;rfl
structure Init (c:Circ) (left R:List Nat) (i:Nat):Prop where
 ile:i<=c.nodes.length
 len:left.length=c.nodes.length
 cnt:∀j,j<c.nodes.length->left.getD j 0=if j<i/\cL (kd c j) then (ct c j).length else 0
 nodup:R.Nodup
 rdy:∀j,j∈R↔j<i/\left.getD j 0=0
 rlen:R.length<=i
theorem Init.step{c:Circ}{left R:List Nat}{i:Nat}{x:Node}(I:Init c left R i)(hx:c.nodes[i]?=some x){left' R':List Nat}
  (hl:left'=if cL x.kind then left.set i x.ins.length else left) (hR:(left'.getD i 0=0/\R'=R++[i])\/(left'.getD i 0≠0/\R'=R)):Init c left' R' (i+1):=by
 have hi:=ai hx
 have hiR:i ∉ R:=λm=>by have:=((I.rdy i).1 m).1;omega
 have hg:∀j,left'.getD j 0=if j=i then (if cL x.kind then x.ins.length else 0) else left.getD j 0:=λj=>by
  have h0:=I.cnt i hi;rw[if_neg (by omega)] at h0;rw[hl];by_cases q:cL x.kind
  .rw[if_pos q,bm (by rw[I.len];exact hi),if_pos q];by_cases e:i=j
   .rw[if_pos e,if_pos e.symm]
   .rw[if_neg e,if_neg (λq=>e q.symm)]
  .rw[if_neg q,if_neg q];by_cases e:j=i
   .rw[if_pos e,e,h0]
   .rw[if_neg e]
 have hlen:left'.length=c.nodes.length:=by rw[hl];split <;> simp[I.len]
 have hmem:∀j,j∈R'↔j∈R\/(j=i/\left'.getD i 0=0):=λj=>by
  rcases hR with⟨h0,rfl⟩|⟨h0,rfl⟩
  .rw[MB,Mm];exact⟨λh=>h.imp id λe=>⟨e,h0⟩,λh=>h.imp id λe=>e.1⟩
  .exact⟨.inl,λh=>h.resolve_right (λq=>h0 q.2)⟩
 refine⟨hi,hlen,λj hj=>?_,?_,λj=>?_,?_⟩
 .rw[hg j];by_cases e:j=i
  .subst e;rw[if_pos rfl,dk hx,sS hx];by_cases q:cL x.kind
   .rw[if_pos q,if_pos ⟨by omega,q⟩]
   .rw[if_neg q,if_neg (λh=>q h.2)]
  .rw[if_neg e,I.cnt j hj];by_cases q:j<i/\cL (kd c j)
   .rw[if_pos q,if_pos ⟨by omega,q.2⟩]
   .rw[if_neg q,if_neg (λh=>q ⟨by omega,h.2⟩)]
 .rcases hR with⟨_,rfl⟩|⟨_,rfl⟩
  .rw[Oy];exact⟨I.nodup,by simp,λa ha b hb=>by rw[Mm] at hb;subst hb;exact λe=>hiR (by rw[<- e];exact ha)⟩
  .exact I.nodup
 .rw[hmem,I.rdy j];constructor
  .rintro (⟨h1,h2⟩|⟨rfl,h2⟩)
   .refine⟨by omega,?_⟩;rw[hg j,if_neg (by omega)];exact h2
   .exact⟨by omega,h2⟩
  .rintro⟨h1,h2⟩;by_cases e:j=i
   .subst e;exact .inr ⟨rfl,h2⟩
   .rw[hg j,if_neg e] at h2;exact .inl ⟨by omega,h2⟩
 .have:=I.rlen
  rcases hR with⟨_,rfl⟩|⟨_,rfl⟩
  .rw[Ml,L6];omega
  .omega
theorem Kahn.rlen{c:Circ}{lev left R:List Nat}{d:Nat}(K:Kahn c lev left R d):R.length<=c.nodes.length:=by
 have:R.length<=(Ma c.nodes.length).length:=kZ K.nodup (λi m=>Mx.2 (K.lt i m));simpa using this
theorem KahnIn.rlen{c:Circ}{lev0 R0 lev left R:List Nat}{d x t:Nat}(K:KahnIn c lev0 R0 d x lev left R t):R.length<=c.nodes.length:=by
 have:R.length<=(Ma c.nodes.length).length:=kZ K.nodup (λi m=>Mx.2 (K.lt i m));simpa using this
theorem kG{l:List Nat}{n i:Nat}(hl:l.length=n)(hi:i<n):l[i]?=some (l.getD i 0):=getD_some (by omega)
theorem ze{c:Circ}(g:Good c){x:Nat}(_hx:x<c.nodes.length):(bW c x).length<=1000:=by
 have hl:=g.len;unfold bW;rw[List.length_flatMap]
 have h1:∀p∈c.nodes.zipIdx,(bR x p.2 p.1.ins).length<=16:=by
  intro p m;unfold bR;rw[LZ];refine Mf (Nf _ _) ?_;rw[RR];have hm:=Se m
  have h3:p.2<c.nodes.length:=by omega
  have h4:c.nodes[p.2]?=some p.1:=by
   rw[hm.2.2,LU h3];simp
  exact (g.node _ _ h4).few
 have h2:∀(l:List (Node×Nat)),(∀p∈l,(bR x p.2 p.1.ins).length<=16)->(l.map λp=>(bR x p.2 p.1.ins).length).sum<=l.length*16:=by
  intro l
  induction l with
  |nil=>intro _;simp
  |cons a l ih =>
   intro h;have:=ih λp m=>h p (.tail _ m);have:=h a (.head _);simp only[MM,List.sum_cons,M8];omega
 have:=h2 _ h1;rw[RR] at this;omega
set_option maxHeartbeats 2000000 in
theorem yH {c:Circ}{K:List Nat×Nat->Prop} (g:Good c) (h:∀lev,LevOk c lev->K (lev,0)):cT c K:=by
 have hlen:=g.len;unfold cT;refine Hn g ⟨λq=>absurd rfl (dm.1 q),λ_=>⟨by omega,by omega,by omega,by omega,?_⟩⟩;refine aB (λs=>Init c s.1 s.2.1 s.2.2) (λs=>c.nodes.length-s.2.2) (λa=>Init c a.1 a.2 c.nodes.length) ?_ ?_ ?_
 .rintro k ⟨left,R,i⟩ nx I hnx hk;dsimp only at I;have hrl:=I.rlen;have hile:=I.ile;refine⟨λq=>?_,λq=>?_⟩
  .have q:=aX.1 q;obtain⟨x,hx⟩:=aA q;refine iV ⟨x,hx,iV (zR ?_)⟩
   have main:∀left',left'=(if cL x.kind then left.set i x.ins.length else left)->i<c.nodes.length/\∃x31,left'[i]?=some x31/\(eqN x31 0=true->(R.length+([i]:List Nat).length)*8<=2^47/\i+1<2^63/\nx (left',R++[i],i+1))/\(eqN x31 0=false->i+1<2^63/\nx (left',R,i+1)):=by
    intro left' hl
    have hlen':left'.length=c.nodes.length:=by rw[hl];split <;> simp[I.len]
    refine⟨q,_,kG hlen' q,λe=>⟨by simp only[L6];omega,by omega,hnx (left',R++[i],i+1) (I.step hx hl (.inl ⟨cJ.1 e,rfl⟩)) (by dsimp only;omega)⟩,λe=>⟨by omega,hnx (left',R,i+1) (I.step hx hl (.inr ⟨cF.1 e,rfl⟩)) (by dsimp only;omega)⟩⟩
   refine⟨λe=>⟨q,_,kG I.len q,main _ ?_⟩,λe=>main _ ?_⟩
   .rw[if_pos (show cL x.kind from of_decide_eq_true e)]
   .rw[if_neg (show ¬ cL x.kind from of_decide_eq_false e)]
  .have q:=bC.1 q
   have:i=c.nodes.length:=by omega
   subst this;exact hk (left,R) I
 .refine⟨L1 _,by simp,λj hj=>?_,List.nodup_nil,λj=>by simp,L1 _⟩;dsimp only;rw[Mh,Mt,if_pos hj,if_neg (by omega)];rfl
 .rintro⟨left0,R0⟩ I;dsimp only at I ⊢;refine Fj g.fanOk ?_;have K0:Kahn c (LY c.nodes.length 0) left0 R0 0:=Kahn.start I.len (λi hi=>by rw[I.cnt i hi];simp only[hi,true_and]) I.nodup I.rdy;refine aB (λs=>Kahn c s.1 s.2.1 s.2.2.1 s.2.2.2) (λs=>c.nodes.length-s.2.2.2) (λa=>a.2=c.nodes.length/\LevOk c a.1) ?_ K0 ?_
  .rintro k ⟨lev,left,R,d⟩ nx Kh hnx hk;dsimp only at Kh
   try dsimp only
   have hrl:=Kh.rlen;refine⟨λq=>?_,λq=>?_⟩
   .have q:=aX.1 q
    try dsimp only at q
    obtain⟨x,hx⟩:=aA q;have hxn:=Kh.lt x (LS hx);have hfl:=ze g hxn;refine⟨x,hx,by omega,_,xB hxn,λe=>?_,λe=>⟨_,xB hxn,?_⟩⟩
    .have e:=cJ.1 e;exact hnx _ ((Kh.enter hx).leave hx (by omega)) (by dsimp only;omega)
    .refine bM (λs=>KahnIn c lev R d x s.1 s.2.1 s.2.2.1 s.2.2.2) (λs=>(bW c x).length-s.2.2.2) ?_ (Kh.enter hx);rintro⟨lev1,left1,R1,t⟩ nx1 K1 hnx1;dsimp only at K1
     try dsimp only
     have hrl1:=K1.rlen;refine⟨λq1=>?_,λq1=>hnx (lev1,left1,R1,d+1) (K1.leave hx (bC.1 q1)) (by dsimp only;omega)⟩;have q1:=aX.1 q1
     try dsimp only at q1
     obtain⟨l,hl⟩:=aA q1;have hj:=zW (LS hl);obtain⟨y,hy⟩:=aA hj;have hky:=dk hy;refine iV ⟨l,hl,y,hy,zR ⟨λe=>?_,λe=>?_⟩⟩
     .have e:¬ cL (kd c l.node):=by rw[hky];exact of_decide_eq_false (KS e)
      exact⟨by omega,hnx1 (lev1,left1,R1,t+1) (K1.skip hl e) (by dsimp only;omega)⟩
     .have e:cL (kd c l.node):=by rw[hky];exact of_decide_eq_true (JY e)
      have hp:=K1.pos hl e;have hb:=K1.bndx;have hll:=kG K1.leftLen hj
      have hb2:left1.getD l.node 0<2^63:=by
       rw[K1.cnt _ hj,if_pos e];have h1:=Pm (p:=λk=>decide (k ∉ R.take d/\k≠x)) (l:=ct c l.node);have h2:=Pm (p:=λl':Ln=>l'.node==l.node) (l:=(bW c x).drop t)
       have h3:(ct c l.node).length<=16:=by rw[sS hy];exact (g.node _ _ hy).few
       rw[No] at h2;omega
      refine⟨hj,_,kG K1.levLen hj,hxn,_,kG K1.levLen hxn,by omega,hj,_,kG K1.levLen hj,hj,_,hll,hp,hb2,hj,_,hll,hj,left1.getD l.node 0-1,?_,λe2=>?_,λe2=>?_⟩
      .rw[OD (by rw[K1.leftLen];exact hj)]
      .exact⟨by simp only[L6];omega,by omega,hnx1 _ (K1.step hl e hx (.inl ⟨cJ.1 e2,rfl⟩)) (by dsimp only;omega)⟩
      .exact⟨by omega,hnx1 _ (K1.step hl e hx (.inr ⟨cF.1 e2,rfl⟩)) (by dsimp only;omega)⟩
   .obtain⟨h1,h2⟩:=Kh.all g (bC.1 q);exact hk (lev,d) ⟨h1,h2⟩
  .rintro⟨lev,d⟩ ⟨hd,hl⟩;dsimp only at hd hl ⊢;exact⟨λq=>absurd (aX.1 q) (by omega),λ_=>⟨hl.len.symm,h lev hl⟩⟩
theorem B3{c:Circ}{K:Nat->Prop}(g:Good c)(h:K 0):dh c K:=by
 unfold dh;exact yH g λ_ _=>h
theorem Cg{a b:Nat}{K:Int->Prop}(h:K (if a<b then Mj 0 else if b<a then LQ 1 else LQ 0)):fW a b K:=by
 unfold fW jg;have e1:neN a a=false:=qS.2 rfl;have e2:neN b b=false:=qS.2 rfl;rw[e1,e2];refine⟨(λq=>by cases q),λ_=>⟨(λq=>by cases q),λ_=>⟨λq=>?_,λq=>⟨λq2=>?_,λq2=>?_⟩⟩⟩⟩
 .rw[if_pos (aX.1 q)] at h;exact h
 .have:=bC.1 q;rw[if_neg (by omega),if_pos (aX.1 q2)] at h;exact h
 .have:=bC.1 q;have:=bC.1 q2;rw[if_neg (by omega),if_neg (by omega)] at h;exact h
theorem Ie{a b:Nat}:ltI (if a<b then Mj 0 else if b<a then LQ 1 else LQ 0) (LQ 0)=decide (a<b):=by
 by_cases c:a<b
 .rw[if_pos c,decide_eq_true c];rfl
 .rw[if_neg c,decide_eq_false c];by_cases q:b<a
  .rw[if_pos q];rfl
  .rw[if_neg q];rfl
structure Ins (lev data l:List Nat) (i j:Nat):Prop where
 perm:l.Perm data
 jle:j<=i
 ord:∀p q,p<q->q<=i->q≠j->lev.getD (l.getD p 0) 0<=lev.getD (l.getD q 0) 0
theorem AN{l:List Nat}{i j k:Nat}(hi:i<l.length)(hj:j<l.length):((l.set i (l.getD j 0)).set j (l.getD i 0)).getD k 0=if k=j then l.getD i 0 else if k=i then l.getD j 0 else l.getD k 0:=by
 rw[bm (by simpa using hj)];by_cases c:j=k
 .rw[if_pos c,if_pos c.symm]
 .have c2:¬ k=j:=λe=>c e.symm;rw[if_neg c,if_neg c2,bm hi];by_cases q:i=k
  .rw[if_pos q,if_pos q.symm]
  .have q2:¬ k=i:=λe=>q e.symm;rw[if_neg q,if_neg q2]
theorem swap_perm{l:List Nat}{i j:Nat}(hi:i<l.length)(hj:j<l.length):((l.set i (l.getD j 0)).set j (l.getD i 0)).Perm l:=by
 have e1:l.getD j 0=l[j]:=by rw[Mh,LU hj];rfl
 have e2:l.getD i 0=l[i]:=by rw[Mh,LU hi];rfl
 rw[e1,e2];exact List.set_set_perm hi hj
theorem Ins.swap{lev data l:List Nat}{i j:Nat}(I:Ins lev data l i j)(hi:i<l.length)(hj:0<j)(h:lev.getD (l.getD j 0) 0<lev.getD (l.getD (j-1) 0) 0):Ins lev data ((l.set j (l.getD (j-1) 0)).set (j-1) (l.getD j 0)) i (j-1):=by
 have:=I.jle;refine⟨(swap_perm (by omega) (by omega)).trans I.perm,by omega,λp q hpq hq hne=>?_⟩;rw[AN (by omega) (by omega),AN (by omega) (by omega),if_neg hne];by_cases c:q=j
 .subst c;rw[if_pos rfl];by_cases e:p=q-1
  .rw[if_pos e];omega
  .rw[if_neg e,if_neg (by omega)];exact I.ord p (q-1) (by omega) (by omega) (by omega)
 .rw[if_neg c];by_cases e:p=j-1
  .rw[if_pos e];exact I.ord j q (by omega) hq c
  .rw[if_neg e];by_cases e2:p=j
   .rw[if_pos e2];exact I.ord (j-1) q (by omega) hq c
   .rw[if_neg e2];exact I.ord p q hpq hq c
theorem Ins.fin{lev data l:List Nat}{i j:Nat}(I:Ins lev data l i j)(h:j=0\/lev.getD (l.getD (j-1) 0) 0<=lev.getD (l.getD j 0) 0):∀p q,p<q->q<=i->lev.getD (l.getD p 0) 0<=lev.getD (l.getD q 0) 0:=by
 intro p q hpq hq;by_cases c:q=j
 .subst c;have h:=h.resolve_left (by omega);by_cases e:p=q-1
  .subst e;exact h
  .exact Mf (I.ord p (q-1) (by omega) (by omega) (by omega)) h
 .exact I.ord p q hpq hq c
structure Sorted (lev data l:List Nat):Prop where
 perm:l.Perm data
 ord:∀p q,p<q->q<l.length->lev.getD (l.getD p 0) 0<=lev.getD (l.getD q 0) 0
theorem JO{data lev:List Nat}{K:List Nat->Prop}(hn:data.length<=16)(hlev:∀x∈data,x<lev.length)(h:∀l,Sorted lev data l->K l):iX data lev data.length 0 data.length K:=by
 unfold iX;refine⟨by omega,?_⟩;refine bM (λs=>s.1.Perm data/\1<=s.2/\∀p q,p<q->q<s.2->q<data.length->lev.getD (s.1.getD p 0) 0<=lev.getD (s.1.getD q 0) 0) (λs=>data.length-s.2) ?_ ⟨Rq _,by dsimp only;omega,λp q h1 h2=>by dsimp only at h2;omega⟩;rintro⟨l,i⟩ nx ⟨hp,hi1,hord⟩ hnx;dsimp only at hp hi1 hord;have hl:=hp.length_eq;refine⟨λq=>?_,λq=>?_⟩
 .have q:=aX.1 q
  try dsimp only at q
  refine aB (λs=>Ins lev data s.1 i s.2) (λs=>s.2) (λa=>a.Perm data/\∀p q,p<q->q<=i->lev.getD (a.getD p 0) 0<=lev.getD (a.getD q 0) 0) ?_ ?_ ?_
  .rintro k ⟨m,j⟩ nx2 I hnx2 hk;dsimp only at I
   try dsimp only
   have hm:=I.perm.length_eq;have hji:=I.jle;have gm:∀p,p<data.length->m[p]?=some (m.getD p 0):=λp hp=>kG hm hp;have gl:∀p,p<data.length->lev[m.getD p 0]?=some (lev.getD (m.getD p 0) 0):=λp hp=>kG rfl (hlev _ (I.perm.mem_iff.1 (LS (gm p hp))));refine iV ⟨λc=>?_,λc=>?_⟩
   .have c:=aX.1 c;refine⟨by omega,_,gm j (by omega),by omega,by omega,by omega,_,gm (j-1) (by omega),_,gl j (by omega),_,gl (j-1) (by omega),Cg ?_⟩;rw[Ie];refine⟨λe=>?_,λe=>?_⟩
    .have e:=of_decide_eq_true e;refine⟨by omega,by omega,by omega,by omega,by omega,_,gm (j-1) (by omega),by omega,_,gm j (by omega),by omega,_,gm j (by omega),by omega,?_⟩
     have hj2:j-1<(m.set j (m.getD (j-1) 0)).length:=by rw[Nj];omega
     exact⟨_,LU hj2,by omega,by omega,hnx2 _ (I.swap (by omega) c e) (by dsimp only;omega)⟩
    .have e:=of_decide_eq_false e;exact hk m ⟨I.perm,I.fin (.inr (by omega))⟩
   .have c:=bC.1 c;exact⟨(λq=>by cases q),λ_=>hk m ⟨I.perm,I.fin (.inl (by omega))⟩⟩
  .refine⟨hp,LV _,λp q2 h1 h2 h3=>hord p q2 h1 (by omega) (by omega)⟩
  .rintro a ⟨ha,hb⟩;exact⟨by omega,hnx (a,i+1) ⟨ha,by dsimp only;omega,λp q2 h1 h2 h3=>hb p q2 h1 (by dsimp only at h2;omega)⟩ (by dsimp only;omega)⟩
 .have q:=bC.1 q;exact h l ⟨hp,λp q2 h1 h2=>hord p q2 h1 (by omega) (by omega)⟩
theorem EP{data lev:List Nat}{K:List Nat->Prop}(hn:data.length<=16)(hlev:∀x∈data,x<lev.length)(h:∀l,Sorted lev data l->K l):fU data lev data.length data.length K:=by
 unfold fU;refine aB (λs=>s=(data,0,20)) (λ_=>0) (λa=>a=(data,0)) ?_ rfl ?_
 .rintro k s nx rfl _ hk;exact⟨λq=>absurd (rl.1 q) (by omega),λ_=>hk _ rfl⟩
 .rintro a rfl;refine JO hn hlev λl hl=>?_;refine bM (λs=>s=20) (λ_=>0) ?_ rfl;rintro s nx rfl _;exact⟨λq=>absurd (aX.1 q) (by omega),λ_=>h l hl⟩
structure OrdOk (c:Circ) (o:List Nat):Prop where
 perm:o.Perm (Ma c.nodes.length)
 before:∀(a i:Nat) (x:Node) (k:Nat),o[a]?=some i->c.nodes[i]?=some x->cL x.kind->k∈x.ins->∃b,b<a/\o[b]?=some k
theorem Kr{c:Circ}(g:Good c){lev o:List Nat}(hl:LevOk c lev)(hs:Sorted lev (Ma c.nodes.length) o):OrdOk c o:=by
 refine⟨hs.perm,λa i x k ha hx hc hk=>?_⟩;have hk2:k<c.nodes.length:=(g.node i x hx).ins k hk;have hko:k∈o:=hs.perm.mem_iff.2 (Mx.2 hk2);obtain⟨b,hb,e⟩:=NH hko
 have hb2:o[b]?=some k:=by rw[LU hb,e]
 refine⟨b,?_,hb2⟩;have hup:=hl.up i x hx hc k hk
 have ga:o.getD a 0=i:=by rw[Mh,ha];rfl
 have gb:o.getD b 0=k:=by rw[Mh,hb2];rfl
 rcases OT b a with q|q|q
 .exact q
 .subst q;rw[ha] at hb2;cases hb2;omega
 .have:=hs.ord a b q hb;rw[ga,gb] at this;omega
theorem mS{c:Circ}{K:List Nat×Nat->Prop}(g:Good c)(h:∀o,OrdOk c o->K (o,0)):bz c K:=by
 have hlen:=g.len;unfold bz;refine yH g λlev hl=>⟨λq=>absurd rfl (dm.1 q),λ_=>⟨by omega,by omega,?_⟩⟩;refine aB (λs=>s.2<=c.nodes.length/\s.1.length=c.nodes.length/\∀j,j<s.2->s.1[j]?=some j) (λs=>c.nodes.length-s.2) (λa=>a=Ma c.nodes.length) ?_ ⟨L1 _,by simp,λj hj=>absurd hj (Mu _)⟩ ?_
 .rintro k ⟨l,i⟩ nx ⟨hi,h1,h2⟩ hnx hk;dsimp only at hi h1 h2;refine⟨λq=>?_,λq=>?_⟩
  .have q:=aX.1 q
   try dsimp only at q
   refine⟨q,_,kG h1 q,by omega,hnx (l.set i i,i+1) ⟨q,by simp[h1],λj hj=>?_⟩ (by dsimp only;omega)⟩;dsimp only at hj ⊢;rw[Mp];by_cases e:i=j
   .rw[if_pos e,if_pos (by omega),e]
   .rw[if_neg e];exact h2 j (by omega)
  .have q:=bC.1 q
   try dsimp only at q
   refine hk l (MH λj=>?_);by_cases e:j<c.nodes.length
   .rw[h2 j (by omega),M7 e]
   .rw[Mk (by omega),Mk (by simp;omega)]
 .rintro a rfl;unfold mh
  have e:(Ma c.nodes.length).length=c.nodes.length:=by simp
  have:=EP (data:=Ma c.nodes.length) (lev:=lev) (K:=λx1=>c.nodes.length=x1.length/\K (x1,0)) (by omega) (λx m=>by rw[hl.len];exact Mx.1 m) (λl hs=>⟨by have:=hs.perm.length_eq;omega,h l (Kr g hl hs)⟩);rw[e] at this;exact this
set_option maxHeartbeats 8000000
def jX(p0:Circ)(K:(List (List Ln))->Prop):Prop :=
 24*p0.nodes.length<=2^48/\p0.nodes.length<2^63/\aw (α:=(List (List Ln))) (λk6=>aF (S:=((List (List Ln))×Nat)) (λ(v7,v9) nx11=>((ltN v9 p0.nodes.length)=true->aw (α:=(List (List Ln))) (λk15=>∃x16,p0.nodes[v9]?=some x16/\aF (S:=((List (List Ln))×Nat)) (λ(v19,v21) nx23=>((ltN v21 x16.ins.length)=true->aw (α:=(List (List Ln))) (λk27=>∃x28,x16.ins[v21]?=some x28/\((ltN x28 0)=true->k27 v19)/\((ltN x28 0)=false->((!(!ltN x28 p0.nodes.length))=true->x28<p0.nodes.length/\∃x29,v19[x28]?=some x29/\(x29.length+([(⟨v9,v21⟩:Ln)]:(List Ln)).length)*16<=2^47/\x28<p0.nodes.length/\k27 (v19.set x28 (x29++([(⟨v9,v21⟩:Ln)]:(List Ln)))))/\((!(!ltN x28 p0.nodes.length))=false->k27 v19))) (λv24=>v21+1<2^63/\nx23 (v24,(v21+1))))/\((ltN v21 x16.ins.length)=false->k15 v19)) (v7,0)) (λv12=>v9+1<2^63/\nx11 (v12,(v9+1))))/\((ltN v9 p0.nodes.length)=false->k6 v7)) ((LY p0.nodes.length ([]:List Ln)),0)) (λv3=>aw (α:=(List (List Ln))) (λk40=>aF (S:=((List (List Ln))×Nat)) (λ(v41,v43) nx45=>((ltN v43 p0.nodes.length)=true->v43<p0.nodes.length/\∃x46,v41[v43]?=some x46/\v43<p0.nodes.length/\v43+1<2^63/\nx45 ((v41.set v43 x46),(v43+1)))/\((ltN v43 p0.nodes.length)=false->k40 v41)) (v3,0)) (λv37=>p0.nodes.length=v37.length/\K v37))
theorem uR{p0:Circ}{K:(List (List Ln))->Prop}(hm:jX p0 K){h0:Heap}(hB:aH vars h0):∃r,K r/\al Tryz.prog NG 135 ⟨[az p0]⟩ h0 ((ae 1 (ae 2 cI)) r) h0:=by
 unfold jX at hm
 refine fw Tryz.func135 hB (enc:=(ae 1 (ae 2 cI))) (λr=>cg (λ_=>ag.cons (cg (λ_=>BG _)) ag.nil)) λO=>?_;conv=>whnf
 refine gX ?_;refine fz ?_;refine gX ?_;refine Own.Ar (α:=Ln) (b:=24) (n:=p0.nodes.length) cI 2 O rfl rfl rfl rfl rfl rfl hm.1 hm.2.1 λg1 h O=>?_;refine gX ?_;replace hm:=hm.2.2;refine fg Tryz.func164 ?_;refine gX ?_;refine fz ?_;refine gH ?_
 apply Cs;conv=>whnf
 apply Cs;refine gH ?_
 apply Cs;conv=>whnf
 refine gH ?_;refine jn (σ:=(List (List Ln))×(List (Option Nat))) hm 65 [3] (λs=>s.1) (λ(v3,a4) h=>RowsOk a4 v3/\Own vars h0 ([((some g1),.cells (aP 2 cI a4 v3) false)]++(aS cI a4 v3)) h) (λ(v3,a4)=>[]) (λhm=>?_) ?_
 .refine gX ?_;refine lw 65 [3,4,18,19] (σ:=((List (List Ln))×Nat)×(List (Option Nat))) (λs=>s.1) (λ((v7,v9),a8) h=>RowsOk a8 v7/\Own vars h0 ([((some g1),.cells (aP 2 cI a8 v7) false)]++(aS cI a8 v7)) h) (λ((v7,v9),a8)=>[(20,(i64 v9))]) (((LY p0.nodes.length ([]:List Ln)),0),(LY p0.nodes.length none)) hm ⟨(RowsOk.start p0.nodes.length),O⟩ ?_;clear hm;rintro⟨⟨v7,v9⟩,a8⟩ nx11 base h hm ⟨hr10,O⟩;refine gX ?_;refine br hm (λhm=>?_) λhm=>?_
  .apply Cs;conv=>whnf
   refine jn (σ:=(List (List Ln))×(List (Option Nat))) hm 65 [3,4,18,19,20] (λs=>s.1) (λ(v12,a13) h=>RowsOk a13 v12/\Own vars h0 ([((some g1),.cells (aP 2 cI a13 v12) false)]++(aS cI a13 v12)) h) (λ(v12,a13)=>[]) (λhm=>?_) ?_
   .refine gX ?_;refine atF hm λx16 hx16 hm=>?_;refine gH ?_;refine O.new (aj (l:=[(n8 0),(.slice none 0 0),(i64 0),(i64 0)]) rfl rfl rfl) λg17 h O=>?_;refine gH ?_;refine O.stC 4 (.head _) [(n8 x16.kind),((ae 1 i64) x16.ins),(i64 x16.mem),(i64 x16.bit)] λh O=>?_;refine gX ?_;refine lw 65 [3,4,5,18,19,20,26,27] (σ:=((List (List Ln))×Nat)×(List (Option Nat))) (λs=>s.1) (λ((v19,v21),a20) h=>RowsOk a20 v19/\Own vars h0 ([((some g1),.cells (aP 2 cI a20 v19) false)]++(aS cI a20 v19)) h) (λ((v19,v21),a20)=>[(28,(i64 v21))]) ((v7,0),a8) hm ⟨hr10,(Own.Gc [((some g17),.cells [(n8 x16.kind),((ae 1 i64) x16.ins),(i64 x16.mem),(i64 x16.bit)] false),((some g1),.cells (aP 2 cI a8 v7) false)] (L:=(aS cI a8 v7)) O [1] (by decide))⟩ ?_;clear hm;rintro⟨⟨v19,v21⟩,a20⟩ nx23 base h hm ⟨hr22,O⟩;refine gX ?_;refine br hm (λhm=>?_) λhm=>?_
    .apply Cs;conv=>whnf
     refine jn (σ:=(List (List Ln))×(List (Option Nat))) hm 65 [3,4,5,18,19,20,26,27,28] (λs=>s.1) (λ(v24,a25) h=>RowsOk a25 v24/\Own vars h0 ([((some g1),.cells (aP 2 cI a25 v24) false)]++(aS cI a25 v24)) h) (λ(v24,a25)=>[]) (λhm=>?_) ?_
     .refine gX ?_;refine atF hm λx28 hx28 hm=>?_;refine gX ?_;refine fg Tryz.func191 ?_;refine gX ?_;refine br hm (λhm=>?_) λhm=>?_
      .refine gX ?_;refine bf ?_;refine gX ?_;exact jx (v19,a20) hm ⟨hr22,O⟩
      .refine gX ?_;refine br hm (λhm=>?_) λhm=>?_
       .refine gX ?_;refine cb (s:=1) (j:=x28) rfl rfl rfl rfl hm.1 ?_;refine gH ?_;replace hm:=hm.2;obtain⟨x29,hx29,hm⟩:=hm;obtain⟨a30,hA32,ha31,O⟩:=Own.focus (S:=[((some g1),.cells (aP 2 cI a20 v19) false)]) hr22 O hx29;refine⟨_,vm O.i1 hA32 hx29 rfl rfl,?_⟩;refine gH ?_;refine fz ?_;refine gH ?_;refine O.apL (enc:=cI) (l:=x29) (new:=([(⟨v9,v21⟩:Ln)]:(List Ln))) 2 (.head _) ha31.1 hm λa34 h ha35 O hm=>?_;refine gH ?_;refine cb (s:=1) (j:=x28) rfl rfl rfl rfl hm.1 ?_;refine gH ?_;replace hm:=hm.2;refine O.Bg (s:=2) (enc:=cI) (j:=x28) (v:=(ak 2 a34 ((x29++([(⟨v9,v21⟩:Ln)]:(List Ln))).map cI))) (.tail _ (.head _)) hr22 hx29 rfl rfl rfl rfl rfl λh O=>?_;refine gH ?_;rw[<- lW] at O;have hr36:RowsOk (a20.set x28 a34) (v19.set x28 (x29++([(⟨v9,v21⟩:Ln)]:(List Ln)))):=RowsOk.set hr22 ⟨ha35,λe=>absurd e (by simp)⟩;replace O:=Own.uW (S:=[(some g1,.cells (aP 2 cI (a20.set x28 a34) (v19.set x28 (x29++([(⟨v9,v21⟩:Ln)]:(List Ln))))) false)]) O hx29 hr22;exact jx ((v19.set x28 (x29++([(⟨v9,v21⟩:Ln)]:(List Ln)))),(a20.set x28 a34)) hm ⟨hr36,O⟩
       .refine gX ?_;exact jx (v19,a20) hm ⟨hr22,O⟩
     .clear hm;rintro⟨v24,a25⟩ base h hm ⟨hr26,O⟩;refine gX ?_;refine aJ hm λhm=>?_;refine gH ?_;exact jx ((v24,(v21+1)),a25) hm ⟨hr26,O⟩
    .refine gX ?_;exact jx (v19,a20) hm ⟨hr22,O⟩
   .clear hm;rintro⟨v12,a13⟩ base h hm ⟨hr14,O⟩;refine gX ?_;refine aJ hm λhm=>?_;refine gH ?_;exact jx ((v12,(v9+1)),a13) hm ⟨hr14,O⟩
  .refine gX ?_;exact jx (v7,a8) hm ⟨hr10,O⟩
 .clear hm;rintro⟨v3,a4⟩ base h hm ⟨hr5,O⟩
  conv=>whnf
  refine jn (σ:=(List (List Ln))×(List (Option Nat))) hm 65 [3] (λs=>s.1) (λ(v37,a38) h=>RowsOk a38 v37/\Own vars h0 ([((some g1),.cells (aP 2 cI a38 v37) false)]++(aS cI a38 v37)) h) (λ(v37,a38)=>[]) (λhm=>?_) ?_
  .refine gX ?_;refine lw 65 [3,51,52] (σ:=((List (List Ln))×Nat)×(List (Option Nat))) (λs=>s.1) (λ((v41,v43),a42) h=>RowsOk a42 v41/\Own vars h0 ([((some g1),.cells (aP 2 cI a42 v41) false)]++(aS cI a42 v41)) h) (λ((v41,v43),a42)=>[(53,(i64 v43))]) ((v3,0),a4) hm ⟨hr5,O⟩ ?_;clear hm;rintro⟨⟨v41,v43⟩,a42⟩ nx45 base h hm ⟨hr44,O⟩;refine gX ?_;refine br hm (λhm=>?_) λhm=>?_
   .refine gX ?_;refine cb (s:=1) (j:=v43) rfl rfl rfl rfl hm.1 ?_;refine gH ?_;replace hm:=hm.2;obtain⟨x46,hx46,hm⟩:=hm;obtain⟨a47,hA49,ha48,O⟩:=Own.focus (S:=[((some g1),.cells (aP 2 cI a42 v41) false)]) hr44 O hx46;refine⟨_,vm O.i1 hA49 hx46 rfl rfl,?_⟩;refine gX ?_;refine fg Tryz.func43 ?_;refine gX ?_;refine so (s:=2) (enc:=cI) (l:=x46) (n:=x46.length) (m:=x46.length) rfl rfl rfl rfl rfl rfl rfl ?_;refine gX ?_;refine cb (s:=1) (j:=v43) rfl rfl rfl rfl hm.1 ?_;refine gH ?_;replace hm:=hm.2;refine O.Bg (s:=2) (enc:=cI) (j:=v43) (v:=(ib a47 (x46.map cI))) (.tail _ (.head _)) hr44 hx46 rfl rfl rfl rfl rfl λh O=>?_;refine gH ?_;refine CodeS.Ab (cs':=(aP 2 cI a42 v41).set v43 (ak 2 a47 (x46.map cI))) O (.tail _ (.head _)) (t2:=3) rfl rfl (LLe.set (O.Fq (.head _) (λ_=>rfl) ha48)) λh O=>?_;rw[<- lW] at O;have hr51:RowsOk (a42.set v43 a47) (v41.set v43 x46):=RowsOk.set hr44 ha48;replace O:=Own.uW (S:=[(some g1,.cells (aP 2 cI (a42.set v43 a47) (v41.set v43 x46)) false)]) O hx46 hr44;refine gX ?_;refine aJ hm λhm=>?_;refine gH ?_;exact jx (((v41.set v43 x46),(v43+1)),(a42.set v43 a47)) hm ⟨hr51,O⟩
   .refine gX ?_;exact jx (v41,a42) hm ⟨hr44,O⟩
  .clear hm;rintro⟨v37,a38⟩ base h hm ⟨hr39,O⟩;refine gX ?_;obtain⟨hn52,hm⟩:=hm;exact⟨v37,hm,O.ext,λh2 F=>Own.FO (L:=[((some g1),.cells (aP 2 cI a38 v37) false)]) O F (LV _) (.head _) hr39 (λ_=>rfl) hn52⟩
set_option maxHeartbeats 8000000
def kS(p0:Circ)(K:Nat->Prop):Prop :=
 aw (α:=Unit) (λk3=>aF (S:=((List (ByteArray×Bool))×Nat)) (λ(v4,v5) nx6=>((ltN v5 p0.names.length)=true->∃x7,p0.names[v5]?=some x7/\aw (α:=Bool) (λk9=>lD x7 (λr10=>((!r10)=true->k9 true)/\((!r10)=false->k9 ((bY v4 x7).getD false)))) (λv8=>(v8=true->K 5)/\(v8=false->v5+1<2^63/\nx6 ((gQ v4 x7 true),(v5+1)))))/\((ltN v5 p0.names.length)=false->k3 ())) (([]:List (ByteArray×Bool)),0)) (λ_=>K 0)
theorem oK{p0:Circ}{K:Nat->Prop}(hm:kS p0 K){h0:Heap}(hB:aH vars h0):∃r,K r/\al Tryz.prog NG 174 ⟨[az p0]⟩ h0 (i64 r) h0:=by
 unfold kS at hm
 refine fw Tryz.func174 hB (enc:=i64) (λr=>aq.flat rfl) λO=>?_;conv=>whnf
 refine gX ?_;refine fz ?_;refine gX ?_;refine O.new ((rfl:ew _ _ _=some (.map (aY L5 L0 ([]:List (ByteArray×Bool))),λg=>.map (some g)))) λg1 h O=>?_;refine gH ?_;refine jn hm 25 [] (λs=>s) (λ_ h=>Own vars h0 [] h) (λ_=>[]) (λhm=>?_) ?_
 .refine gX ?_;refine lw 25 [3,8,9] (σ:=((List (ByteArray×Bool))×Nat)) (λs=>s) (λ(v4,v5) h=>Own vars h0 [((some g1),.map (aY L5 L0 v4))] h) (λ(v4,v5)=>[(10,(i64 v5))]) (([]:List (ByteArray×Bool)),0) hm O ?_;clear hm;rintro⟨v4,v5⟩ nx6 base h hm O;refine gX ?_;refine br hm (λhm=>?_) λhm=>?_
  .refine gX ?_;refine atF hm λx7 hx7 hm=>?_;refine gH ?_
   apply Cs;conv=>whnf
   refine jn hm 25 [3,5,8,9,10] (λs=>s) (λv8 h=>Own vars h0 [((some g1),.map (aY L5 L0 v4))] h) (λv8=>[(21,(.bool v8))]) (λhm=>?_) ?_
   .refine gX ?_;refine ca (oy hm O.has) λr10 hm=>?_;refine gH ?_;refine br hm (λhm=>?_) λhm=>?_
    .refine gX ?_;exact jx true hm O
    .refine gX ?_;refine⟨_,iD (ek:=L5) (ev:=L0) (m:=v4) (k:=x7) (z:=false) rfl rfl rfl rfl (by kernel_rfl) Dm O.i0 rfl rfl,?_⟩;refine gH ?_;exact jx ((bY v4 x7).getD false) hm O
   .clear hm;rintro v8 base h hm O;refine gX ?_;refine br hm (λhm=>?_) λhm=>?_
    .refine gX ?_;exact fe hm O
    .refine gX ?_;refine O.nv (ek:=L5) (ev:=L0) (m:=v4) (k:=x7) (v:=true) (.head _) rfl rfl rfl Dm rfl rfl rfl λh O=>?_;refine gX ?_;refine aJ hm λhm=>?_;refine gH ?_;exact jx ((gQ v4 x7 true),(v5+1)) hm O
  .refine gX ?_;exact jx () hm (O.sel [] (by decide))
 .clear hm;rintro _ base h hm O;refine gX ?_;exact fe hm O
theorem sf(l:List Nat):∀e∈l.map i64,(cl e).length=1:=by
 intro e m;obtain⟨a,_,rfl⟩:=MP.1 m;rfl
theorem vK:∀l:List Nat,ah (l.map i64)=l.map i64
 |[]=>rfl
 |a::l=>by rw[MM,jK,vK l];rfl
def dH(ks:List Nat):Nat->List Nat
 |0=>[]
 |i+1=>if ks.getD i 0=12 then dH ks i++[i] else dH ks i
def jh(bus:Bool)(g:GData)(ks:List Nat):Node :=
 if (if bus then g.kind%13 else g.kind%9)<6 then ⟨5+(if bus then g.kind%13 else g.kind%9),if 128<=g.kind then [g.a%ks.length,g.b%ks.length,g.d%ks.length] else [g.a%ks.length,g.b%ks.length],0,0⟩
 else if (if bus then g.kind%13 else g.kind%9)=6 then ⟨4,[g.a%ks.length],0,0⟩
 else if (if bus then g.kind%13 else g.kind%9)=7 then ⟨11,[g.a%ks.length,g.b%ks.length,g.d%ks.length],0,0⟩
 else if (if bus then g.kind%13 else g.kind%9)=9\/(if bus then g.kind%13 else g.kind%9)=10 then ⟨12,[g.a%ks.length,g.b%ks.length],0,0⟩
 else if 10<(if bus then g.kind%13 else g.kind%9)/\0<(dH ks ks.length).length then
  ⟨13,if 1<(dH ks ks.length).length then [(dH ks ks.length).getD (g.a%(dH ks ks.length).length) 0,(dH ks ks.length).getD ((g.a%(dH ks ks.length).length+1)%(dH ks ks.length).length) 0] else [(dH ks ks.length).getD (g.a%(dH ks ks.length).length) 0],0,0⟩
 else if 240<g.kind then ⟨1+g.a%2,[],0,0⟩
 else ⟨3,[g.a%ks.length],0,0⟩
theorem wh(ks:List Nat):∀i,(dH ks i).length<=i
 |0=>LV 0
 |i+1=>by
  have:=wh ks i;unfold dH;split
  .simp;omega
  .omega
set_option maxHeartbeats 8000000 in
theorem HT {x:CData}{g:GData} (hbus:x.bus=false) (hg:GOk g) {ks:List Nat} (hn:0<ks.length) (hn2:ks.length<=1000) {gn:Nat}{sp:Option Nat}{cap:Nat}{cs:List Value}{ro:Bool}{h0:Heap} (hB:aH vars h0)
  (hgn:h0.get gn=some (.cells cs ro)) (hcs:∀i,i<ks.length->cs[0+i*4]?=some (n8 (ks.getD i 0))) :
  al Tryz.prog NG 94 #[Ac x,BN g,.slice (some ⟨gn,0,sp⟩) ks.length cap] h0 (au (jh x.bus g ks)) h0:=by
 obtain⟨kind,a,b,d⟩:=g;obtain⟨inp,dffs,data0,data1,bus,mem,p0,p1,p2,p3,gates,outs⟩:=x;obtain⟨hk,ha,hb,hd⟩:=hg;simp only at hk ha hb hd hbus;subst hbus;have hnode:∀k ins,au ⟨k,ins,0,0⟩=au ⟨k,ins,0,0⟩:=λ_ _=>rfl;unfold jh;simp only;refine fnH hM Tryz.func94 rfl (hP _ _ rfl Tryz.func94) (lbE rfl) (hB) (EG _) λO=>?_;refine gW ?_;refine NewG.frz rfl ?_;refine gW ?_;refine NewG.frz rfl ?_;refine gW ?_;refine O.new (aj (l:=[u8 0,.slice none 0 0,i64 0,i64 0]) rfl rfl rfl) λg6 h O=>?_;refine gW ?_
 (refine gW ?_);repeat((first|refine⟨_,(rfl:bp _ _ _ _=some _),?_⟩|refine Lr rfl ?_|refine⟨_,oB rfl rfl rfl (Dr _ (by omega)),?_⟩|refine⟨_,Jo rfl rfl (by omega),?_⟩|refine⟨.inl rfl,?_⟩);(refine gW ?_))
 refine J6 hM (by kernel_rfl) (nn:=158) ks.length (λi (a:Option Nat) h'=>(a=none->dH ks i=[])/\Own vars h0 [(a,.cells (ah ((dH ks i).map i64)) false),(some g6,.cells [u8 0,.slice none 0 0,i64 0,i64 0] false)] h')
  (λi t=>[(2,.slice (some ⟨gn,0,sp⟩) ks.length cap),(3,FP (Ac ⟨inp,dffs,data0,data1,false,mem,p0,p1,p2,p3,gates,outs⟩)),(4,FP (BN ⟨kind,a,b,d⟩)),(6,.pointer (some ⟨g6,0,none⟩)),(7,i64 ks.length),(8,i64 (a%ks.length)),(9,i64 (b%ks.length)),(10,i64 (d%ks.length)),(11,ak 1 t ((dH ks i).map i64)),(12,i64 i)])
  rfl none ⟨λ_=>rfl,O.aZ _⟩ ⟨rfl,rfl,rfl,rfl,rfl,rfl,rfl,rfl,rfl,rfl,trivial⟩ ?_ ?_
 .rintro i t base h1 hi ⟨ht,O⟩;have hle:=wh ks i;refine gW ?_;refine⟨_,rfl,λ_=>?_,(λhx=>nomatch (hx.symm.trans (Kf hi)))⟩;refine gW ?_;refine cb (s:=4) rfl rfl rfl rfl hi ?_;refine gW ?_;refine⟨_,bw rfl (O.ext.get hgn) rfl (hcs i hi),?_⟩;refine gW ?_;refine⟨_,rfl,λhc=>?_,λhc=>?_⟩
  .have hk12:ks.getD i 0=12:=by have:=eq_of_beq hc;simp only[L4] at this;omega
   have hts:dH ks (i+1)=dH ks i++[i]:=by rw[dH,if_pos hk12]
   have hv:(dH ks i).map i64++[i64 i]=(dH ks (i+1)).map i64:=by rw[hts,MT];rfl
   refine gW ?_;refine NewG.frz rfl ?_;refine gW ?_;refine O.append (s:=1) (b:=8) (m:=1) (new:=[i64 i]) (.head _) (λe=>by rw[ht e];rfl) rfl rfl rfl rfl rfl rfl rfl rfl rfl rfl rfl (by rw[hv];exact sf _) rfl (by decide) (by rw[LZ];omega) (hv) λt' h ha O=>?_;refine gW ?_;refine⟨_,KA (b:=1) rfl rfl (by omega),?_⟩;refine gW ?_;exact⟨t',⟨λe=>by have:=ha e;simpa using this,O⟩,rfl,rfl,rfl,rfl,rfl,rfl,rfl,rfl,rfl,rfl,trivial⟩
  .have hk12:¬ ks.getD i 0=12:=λe=>by rw[e] at hc;cases hc
   have hts:dH ks (i+1)=dH ks i:=by rw[dH,if_neg hk12]
   refine gW ?_;refine⟨_,KA (b:=1) rfl rfl (by omega),?_⟩;refine gW ?_;exact⟨t,by rw[hts];exact⟨ht,O⟩,rfl,rfl,rfl,rfl,rfl,rfl,rfl,rfl,by rw[hts];rfl,rfl,trivial⟩
 .rintro t base h1 ⟨ht,O⟩;have hle:=wh ks ks.length;generalize dH ks ks.length=T at ht O hle;refine gW ?_;refine⟨_,rfl,(λhx=>nomatch (hx.symm.trans (JS ks.length))),λ_=>?_⟩;refine gW ?_;have hU8:∀n:Nat,n<256->IntKind.u8.wrap (LQ n)=LQ n:=λn hn=>IntWalk.u8_in _ (by simp only[L4];omega)
  (refine gW ?_);repeat((first|refine⟨false,rfl,(λhc=>nomatch hc),λ_=>?_⟩|refine⟨_,(rfl:bp _ _ _ _=some _),?_⟩|refine⟨_,oB rfl rfl rfl (Dr _ (by omega)),?_⟩|refine⟨_,Jo (b:=9) rfl rfl (by decide),?_⟩);(refine gW ?_))
  simp only[Nr,if_false];generalize hkk:kind%9=kk
  have hk13:kk<9:=by omega
  refine⟨_,rfl,λhc=>?_,λhc=>?_⟩
  .have h6:kk<6:=(by have:=qt (hc);first|omega | (simp only[L4] at this;omega));rw[if_pos h6];refine gW ?_;refine⟨_,oB rfl rfl rfl (hU8 kk (by omega)),?_⟩;refine gW ?_;refine⟨_,FX (a:=5) rfl rfl (by omega),?_⟩;refine gW ?_;refine O.new (CI (vs:=[i64 (a%ks.length),i64 (b%ks.length)]) (s:=1) (z:=i64 0) rfl rfl (by kernel_rfl) (by kernel_rfl) rfl rfl rfl rfl (sf [a%ks.length,b%ks.length])) λgi h O=>?_;refine gW ?_;refine O.new (aj (l:=[u8 0,.slice none 0 0,i64 0,i64 0]) rfl rfl rfl) λgv h O=>?_;refine gW ?_
   (refine gW ?_);repeat((first|refine⟨_,(rfl:bp _ _ _ _=some _),?_⟩|refine O.store (.head _) rfl rfl rfl rfl (lbE rfl) rfl rfl λh O=>?_);(refine gW ?_))
   refine⟨_,rfl,λhc=>?_,λhc=>?_⟩
   .have h128:128<=kind:=by
     have hc:(!ltI (LQ kind) 128)=true:=hc;rw[fG] at hc;simp at hc;omega
    rw[if_pos h128]
    (refine gW ?_);repeat(refine⟨_,bw rfl O.i0 rfl rfl,?_⟩;(refine gW ?_))
    refine NewG.frz rfl ?_;refine gW ?_;refine O.Ij (s:=1) (b:=8) (m:=1) (n:=2) (new:=[i64 (d%ks.length)]) O.i1 rfl rfl rfl rfl rfl rfl rfl rfl rfl rfl rfl rfl (by decide) rfl (by decide) (by decide) rfl λgj h O=>?_;refine gW ?_
    (refine gW ?_);repeat((first|refine⟨_,aM rfl O.i1 rfl rfl (lbE rfl) rfl,?_⟩|refine O.store (.tail _ (.head _)) rfl rfl rfl rfl (lbE rfl) rfl rfl λh O=>?_|refine O.store (.tail _ (.tail _ (.tail _ (.tail _ (.head _))))) rfl rfl rfl rfl (lbE rfl) rfl rfl λh O=>?_);(refine gW ?_))
    refine⟨_,aI rfl rfl O.i4 rfl rfl (lbE rfl) rfl,?_⟩;refine gW ?_;refine⟨O.ext,λh2 F=>VLe.agg (LLe.cons (VLe.refl _ _) (LLe.cons (O.flat (es:=[a%ks.length,b%ks.length,d%ks.length].map i64) F (LV _) (.head _) rfl rfl (sf _)) (LLe.refl _ _)))⟩
   .have h128:¬ 128<=kind:=by
     have hc:(!ltI (LQ kind) 128)=false:=hc;rw[fG] at hc;simp at hc;omega
    rw[if_neg h128]
    (refine gW ?_);repeat((first|refine⟨_,aM rfl O.i0 rfl rfl (lbE rfl) rfl,?_⟩|refine O.store (.tail _ (.tail _ (.tail _ (.head _)))) rfl rfl rfl rfl (lbE rfl) rfl rfl λh O=>?_);(refine gW ?_))
    refine⟨_,aI rfl rfl O.i3 rfl rfl (lbE rfl) rfl,?_⟩;refine gW ?_;refine⟨O.ext,λh2 F=>VLe.agg (LLe.cons (VLe.refl _ _) (LLe.cons (O.flat (es:=[a%ks.length,b%ks.length].map i64) F (LV _) (.tail _ (.head _)) rfl rfl (sf _)) (LLe.refl _ _)))⟩
  .have h6:¬ kk<6:=(by have:=re (hc);first|omega | (simp only[L4] at this;omega))
   have eqN:∀c:Nat,(LQ kk==(LQ c))=decide (kk=c):=λc=>by
    rw[MW];simp only[L4,beq_iff_eq,decide_eq_true_eq];omega
   rw[if_neg h6];refine gW ?_;refine⟨_,rfl,λhc=>?_,λhc=>?_⟩
   .rw[if_pos (of_decide_eq_true ((eqN 6).symm.trans hc))]
    (refine gW ?_);repeat((first|refine O.store (.tail _ (.head _)) rfl rfl rfl rfl (lbE rfl) rfl rfl λh O=>?_|refine NewG.frz rfl ?_);(refine gW ?_))
    refine⟨_,aI rfl rfl O.i1 rfl rfl (lbE rfl) rfl,?_⟩;refine gW ?_;exact O.ret
   rw[if_neg (of_decide_eq_false ((eqN 6).symm.trans hc))];refine gW ?_;refine⟨_,rfl,λhc=>?_,λhc=>?_⟩
   .rw[if_pos (of_decide_eq_true ((eqN 7).symm.trans hc))]
    (refine gW ?_);repeat((first|refine O.store (.tail _ (.head _)) rfl rfl rfl rfl (lbE rfl) rfl rfl λh O=>?_|refine NewG.frz rfl ?_);(refine gW ?_))
    refine⟨_,aI rfl rfl O.i1 rfl rfl (lbE rfl) rfl,?_⟩;refine gW ?_;exact O.ret
   rw[if_neg (of_decide_eq_false ((eqN 7).symm.trans hc))];refine gW ?_;refine⟨_,rfl,λhc=>?_,λhc=>?_⟩
   .rw[if_pos (.inl (of_decide_eq_true ((eqN 9).symm.trans hc)))];rw[hc]
    (refine gW ?_);repeat((first|refine⟨true,rfl,λ_=>?_,(λhc=>nomatch hc)⟩|refine O.store (.tail _ (.head _)) rfl rfl rfl rfl (lbE rfl) rfl rfl λh O=>?_|refine NewG.frz rfl ?_);(refine gW ?_))
    refine⟨_,aI rfl rfl O.i1 rfl rfl (lbE rfl) rfl,?_⟩;refine gW ?_;exact O.ret
   have h9:¬ kk=9:=of_decide_eq_false ((eqN 9).symm.trans hc);rw[hc];refine gW ?_;refine⟨_,rfl,λhc=>?_,λhc=>?_⟩
   .rw[if_pos (.inr (of_decide_eq_true ((eqN 10).symm.trans hc)))]
    (refine gW ?_);repeat((first|refine O.store (.tail _ (.head _)) rfl rfl rfl rfl (lbE rfl) rfl rfl λh O=>?_|refine NewG.frz rfl ?_);(refine gW ?_))
    refine⟨_,aI rfl rfl O.i1 rfl rfl (lbE rfl) rfl,?_⟩;refine gW ?_;exact O.ret
   rw[if_neg (λh=>h.elim h9 (of_decide_eq_false ((eqN 10).symm.trans hc)))];refine gW ?_;refine⟨_,rfl,λhc=>?_,λhc=>?_⟩
   .have h10:10<kk:=(by have:=qt (hc);first|omega | (simp only[L4] at this;omega));exact absurd h10 (by omega)
   .have hno:¬ (10<kk/\0<T.length):=λh=>absurd h.1 (by have:=re (hc);first|omega | (simp only[L4] at this;omega));rw[hc];refine gW ?_;refine⟨false,rfl,(λhc=>nomatch hc),λ_=>?_⟩;refine gW ?_;rw[if_neg hno]
    (refine gW ?_);repeat(refine⟨_,(rfl:bp _ _ _ _=some _),?_⟩;(refine gW ?_))
    refine⟨_,rfl,λhc=>?_,λhc=>?_⟩
    .have h240:240<kind:=(by have:=qt (hc);first|omega | (simp only[L4] at this;omega));rw[if_pos h240]
     (refine gW ?_);repeat((first|refine⟨_,(rfl:bp _ _ _ _=some _),?_⟩|refine Lr rfl ?_|refine⟨_,Jo (b:=2) rfl rfl (by decide),?_⟩);(refine gW ?_))
     refine⟨_,FX (a:=1) rfl rfl (by omega),?_⟩;refine gW ?_
     (refine gW ?_);repeat(refine O.store (.tail _ (.head _)) rfl rfl rfl rfl (lbE rfl) rfl rfl λh O=>?_;(refine gW ?_))
     refine⟨_,aI rfl rfl O.i1 rfl rfl (lbE rfl) rfl,?_⟩;refine gW ?_;exact⟨O.ext,λh2 F=>VLe.agg (LLe.cons (VLe.refl _ _) (LLe.cons (VLe.nil _ _) (LLe.refl _ _)))⟩
    .have h240:¬ 240<kind:=(by have:=re (hc);first|omega | (simp only[L4] at this;omega));rw[if_neg h240]
     (refine gW ?_);repeat((first|refine O.store (.tail _ (.head _)) rfl rfl rfl rfl (lbE rfl) rfl rfl λh O=>?_|refine NewG.frz rfl ?_);(refine gW ?_))
     refine⟨_,aI rfl rfl O.i1 rfl rfl (lbE rfl) rfl,?_⟩;refine gW ?_;exact O.ret
def nc(i:Nat):ByteArray:=⟨#[110,SE (48+i/10),SE (48+i%10)]⟩
theorem Eh:([0,1,2,3,4,5,6,7,8,9,10,11,12,13,14,15].all λi=>match AP bare 95 #[.int .i64 (LQ i)] with
 |some (.string s)=>decide (s=nc i)
 |_=>false)=true:=by kernel_rfl
theorem Ik{i:Nat}(hi:i<16):FnV Tryz.prog NG vars 95 #[i64 i] (.string (nc i)):=by
 refine Lq rfl λh _=>?_
 have hm:i∈[0,1,2,3,4,5,6,7,8,9,10,11,12,13,14,15]:=by
  have:i=0\/i=1\/i=2\/i=3\/i=4\/i=5\/i=6\/i=7\/i=8\/i=9\/i=10\/i=11\/i=12\/i=13\/i=14\/i=15:=by omega
  simpa using this
 have:=Md.1 Eh i hm;split at this
 .rename_i s hs;rw[of_decide_eq_true this] at hs;exact Ip hs (by kernel_rfl) rfl
 .cases this
def kF:Node:=⟨0,[],0,0⟩
def sA(d:Nat):Node:=⟨14,[d],0,0⟩
def Iw(b:Nat):Node:=⟨15,[],0,b⟩
def kI(inp dffs:Nat)(mem:Bool):List Node:=LY (inp%4+1) kF++LY (dffs%3) (sA 0)++(if mem then [Iw 0,Iw 1] else [])
def fX(bus:Bool)(gs:List GData)(base:List Node):Nat->List Node
 |0=>base
 |i+1=>match gs[i]? with
  |some g=>fX bus gs base i++[jh bus g ((fX bus gs base i).map Node.kind)]
  |none=>fX bus gs base i
def dr(x:CData):List Node:=fX x.bus x.gates (kI x.inp x.dffs x.mem) (min x.gates.length 8)
def rh(first:Nat)(d:Nat->Nat):Nat->List Node->List Node
 |0,ns=>ns
 |i+1,ns=>(rh first d i ns).set (first+i) (sA (d i))
def rm(x:CData)(n j:Nat):Nat:=(if j=0 then x.data0 else x.data1)%n
def iW(x:CData):Circ :=
 let n:=(dr x).length
 ⟨rh (x.inp%4+1) (rm x n) (x.dffs%3) (dr x),(Ma n).map nc,if x.mem then [⟨[x.port0%n],[x.port1%n,x.port2%n],x.port3%n⟩] else [],(x.outs.take 3).map (· % n)++[n-1]⟩
theorem zm:∀(l:List Node),∀e∈l.map au,(cl e).length=4:=by
 intro l e m;obtain⟨a,_,rfl⟩:=MP.1 m;rfl
theorem Ef{l:List Node}{i:Nat}(hi:i<l.length):(ah (l.map au))[0+i*4]?=some (n8 ((l.map Node.kind).getD i 0)):=by
 have hu:(l.map au)[i]?=some (au l[i]):=by rw[L7,LU hi];rfl
 have:=vF (zm l) hu (i:=0) (by decide);rw[OP] at this;rw[Nu,this,Mh,L7,LU hi];rfl
theorem jr(inp dffs:Nat)(mem:Bool):(kI inp dffs mem).length=inp%4+1+dffs%3+(if mem then 2 else 0):=by
 unfold kI
 cases mem <;> simp <;> omega
theorem iv(bus:Bool)(gs:List GData)(base:List Node):∀i,i<=gs.length->(fX bus gs base i).length=base.length+i
 |0,_=>rfl
 |i+1,h=>by
  have hg:gs[i]?=some gs[i]:=LU (by omega);simp only[fX,hg,Ml,iv bus gs base i (by omega),L6];omega
theorem ov{bus:Bool}{gs:List GData}{base:List Node}{i:Nat}{g:GData}(hg:gs[i]?=some g):fX bus gs base (i+1)=fX bus gs base i++[jh bus g ((fX bus gs base i).map Node.kind)]:=by
 simp only[fX,hg]
theorem qM(bus:Bool)(gs:List GData)(base:List Node){j:Nat}(hj:j<base.length):∀i,i<=gs.length->(fX bus gs base i)[j]?=base[j]?
 |0,_=>rfl
 |i+1,h=>by
  have hg:gs[i]?=some gs[i]:=LU (by omega);rw[ov hg,Mb (by rw[iv _ _ _ _ (by omega)];omega)];exact qM bus gs base hj i (by omega)
theorem mg(x:CData):(dr x).length=x.inp%4+1+x.dffs%3+(if x.mem then 2 else 0)+min x.gates.length 8:=by
 unfold dr;rw[iv _ _ _ _ (NW _ _),jr]
theorem Dg(x:CData):(dr x).length<=16:=by
 rw[mg];have h1:=NV x.inp (show 0<4 by decide);have h2:=NV x.dffs (show 0<3 by decide)
 split <;> omega
theorem Gb(x:CData):0<(dr x).length:=by rw[mg];omega
theorem Fh{inp dffs:Nat}{mem:Bool}{i:Nat}(hi:i<dffs%3):(kI inp dffs mem)[inp%4+1+i]?=some (sA 0):=by
 unfold kI;rw[MC,Mg (by simp),Mw,Mb (by simp;omega),Mt,if_pos (by omega)]
theorem GF{x:CData}{i:Nat}(hi:i<x.dffs%3):(dr x)[x.inp%4+1+i]?=some (sA 0):=by
 unfold dr;rw[qM _ _ _ (by rw[jr];split <;> omega) _ (NW _ _)];exact Fh hi
inductive PL (h:Heap):List Value->List Value->Prop
 |nil:PL h [] []
 |cons {a b:Value} {l m:List Value}:LLe h (cl a) (cl b)->PL h l m->PL h (a::l) (b::m)
theorem IT{x:CData}{g:GData}(hbus:x.bus=false)(hg:GOk g){N:List Node}(hn:0<N.length)(hn2:N.length<=1000){gn:Nat}{sp:Option Nat}{cap:Nat}{ro:Bool}{h0:Heap}(hB:aH vars h0)(hgn:h0.get gn=some (.cells (ah (N.map au)) ro)) :
  al Tryz.prog NG 94 #[Ac x,BN g,.slice (some ⟨gn,0,sp⟩) (N.map au).length cap] h0 (au (jh x.bus g (N.map Node.kind))) h0:=by
 have:=HT (x:=x) hbus hg (ks:=N.map Node.kind) (by rw[LZ];exact hn) (by rw[LZ];exact hn2) (sp:=sp) (cap:=cap) hB hgn λi hi=>Ef (by rw[LZ] at hi;exact hi);rw[LZ] at this;rw[LZ];exact this
def my(i:Nat)(K:ByteArray->Prop):Prop:=i<16/\K (nc i)
theorem uO{i:Nat}{K:ByteArray->Prop}(hm:my i K){h0:Heap}(hB:aH vars h0):∃r,K r/\al Tryz.prog NG 95 ⟨[i64 i]⟩ h0 (L5 r) h0:=FnV.walk (Ik hm.1) hm.2 hB
structure Asg where
 net:Nat
 value:Nat
structure U2 where
 a:Nat
 b:Nat
end Go.Proofs.YtglgdkineobbeaaGreatDoor
