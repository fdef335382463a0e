/-
  P7, Carg, Carg7, Case, W3, Lg0, Wd0, Wd1, Wd2, U1, Wd3, Wd4, Tb2, Tb3, Tb5, Tb6, Tb7, Tb4, P8: parts of the proof.
-/
import Derived.Test.YtgiedjgdlckahaaGreatDoorTk45
namespace Go.Proofs.YtgiedjgdlckahaaGreatDoor
open Go.Abs
set_option maxRecDepth 100000
theorem iU {first:Nat}{d:Nat->Nat}{ns:List Node}:∀ i,(nU first d i ns).length=ns.length
 |0=>rfl
 |i+1=>by rw[nU,List.length_set,iU i]
theorem qk {first:Nat}{d:Nat->Nat}{ns:List Node}{j:Nat}:∀ {i},first+i<=j->(nU first d i ns)[j]?=ns[j]?
 |0,_=>rfl
 |i+1,h=>by
  rw[nU,List.getElem?_set_ne (by omega)];exact qk (by omega)
theorem qF (x:CData):0<(cH x).length:=by
 rw[iK];omega
theorem J1 {α:Type}{a:α}{first:(α->Prop)->Prop}{rest:α->Prop} (h1:rest a->first rest) (h2:rest a):an first rest:=h1 h2
structure CB (x:CData):Prop where
 inp:x.inp<256
 dffs:x.dffs<256
 data0:x.data0<256
 data1:x.data1<256
 port0:x.port0<256
 port1:x.port1<256
 port2:x.port2<256
 port3:x.port3<256
 gates:∀ g∈x.gates,GOk g
 outs:∀ o∈x.outs,o<256
theorem tQ {n:Nat} (hn:n<=16) {rest:List ByteArray->Prop} (h:rest ((List.range n).map lj)) :
  an (α:=(List ByteArray)) (fun k=>aF (S:=((List ByteArray)×Nat)) (fun (v,i) nx=>((ltN i n)=true->iD i (fun r=>(v.length+([r]:(List ByteArray)).length)*16<=2 ^ 47/\i+1<2 ^ 63/\nx ((v++([r]:(List ByteArray))),(i+1))))/\((ltN i n)=false->k v)) (([]:List ByteArray),0)) rest:=by
 refine aA (fun s=>s.2<=n/\s.1=(List.range s.2).map lj) (fun s=>n-s.2) (fun a=>a=(List.range n).map lj) ?_ ⟨Nat.zero_le _,rfl⟩ (fun a e=>by rw[e];exact h);rintro k ⟨l,i⟩ nx ⟨hi,hl⟩ hnx hk;dsimp only at hi hl;subst hl;refine⟨fun q=>?_,fun q=>?_⟩
 ·have q:=aO.1 q
  try dsimp only at q
  refine⟨by omega,by simp only[List.length_map,List.length_range,List.length_singleton];omega,by omega,hnx _ ⟨by dsimp only;omega,?_⟩ (by dsimp only;omega)⟩;dsimp only;rw[List.range_succ,List.map_append];rfl
 ·have q:=bk.1 q
  try dsimp only at q
  have:i=n:=by omega
  subst this;exact hk _ rfl
theorem vR {n:Nat} (hpos:0<n) {outs:List Nat} (ho:∀ o∈outs,o<256) {rest:List Nat->Prop} (h:rest ((outs.take 3).map (· % n))) :
  an (α:=(List Nat)) (fun k=>aF (S:=((List Nat)×Nat)) (fun (v,i) nx=>an (α:=Bool) (fun k2=>((ltN i outs.length)=true->k2 (ltN i 3))/\((ltN i outs.length)=false->k2 false)) (fun w=>(w=true->∃ x,outs[i]?=some x/\x<256/\0<n/\(v.length+([(x%n)]:(List Nat)).length)*8<=2 ^ 47/\i+1<2 ^ 63/\nx ((v++([(x%n)]:(List Nat))),(i+1)))/\(w=false->k v))) (([]:List Nat),0)) rest:=by
 refine aA (fun s=>s.2<=min outs.length 3/\s.1=(outs.take s.2).map (· % n)) (fun s=>min outs.length 3-s.2) (fun a=>a=(outs.take 3).map (· % n)) ?_ ⟨Nat.zero_le _,by simp⟩ (fun a e=>by rw[e];exact h);rintro k ⟨l,i⟩ nx ⟨hi,hl⟩ hnx hk;dsimp only at hi hl;subst hl;have hi3:i<=3:=Nat.le_trans hi (Nat.min_le_right _ _);have hil:i<=outs.length:=Nat.le_trans hi (Nat.min_le_left _ _)
 have hlen:((outs.take i).map (· % n)).length=i:=by rw[List.length_map,List.length_take];omega
 have stop:¬ (i<outs.length/\i<3)->k ((outs.take i).map (· % n)):=fun q=>by
  refine hk _ ?_;by_cases c:i=3
  ·rw[c]
  ·rw[List.take_of_length_le (by omega),List.take_of_length_le (by omega)]
 refine kW ⟨fun q=>⟨fun q2=>?_,fun q2=>stop fun e=>absurd e.2 (by have:=bk.1 q2;omega)⟩,fun q=>⟨(fun e=>by cases e),fun _=>stop fun e=>absurd e.1 (by have:=bk.1 q;(try dsimp only at this);omega)⟩⟩;have q:=aO.1 q;have q2:=aO.1 q2
 try dsimp only at q q2
 obtain⟨o,hoo⟩:=av q;obtain⟨l1,l2⟩:=List.getElem?_eq_some_iff.1 hoo;refine⟨o,hoo,ho _ (List.mem_of_getElem? hoo),hpos,by rw[hlen];simp only[List.length_singleton];omega,by omega,hnx _ ⟨by dsimp only;omega,?_⟩ (by dsimp only;omega)⟩;dsimp only;rw[List.take_succ_eq_append_getElem l1,l2,List.map_append];rfl
theorem Br {x:CData}{K:Circ->Prop} (hx:CB x) (h:K (fR x)):iO x K:=by
 have h4:=Nat.mod_lt x.inp (show 0<4 by decide);have h3:=Nat.mod_lt x.dffs (show 0<3 by decide);have hpos:=qF x;have hle:=B8 x
 have hbase:(hZ x.inp x.dffs x.mem).length<=8:=by rw[gB];split <;> omega
 have hbase1:0<(hZ x.inp x.dffs x.mem).length:=by rw[gB];omega
 unfold iO;refine aA (fun s=>s.2<=x.inp%4+1/\s.1=List.replicate s.2 ij) (fun s=>x.inp%4+1-s.2) (fun a=>a=List.replicate (x.inp%4+1) ij) ?_ ⟨Nat.zero_le _,rfl⟩ ?_
 ·rintro k ⟨l,i⟩ nx ⟨hi,hl⟩ hnx hk;dsimp only at hi hl;subst hl;refine⟨by decide,by omega,fun q=>?_,fun q=>?_⟩
  ·have q:=rN.1 q
   try dsimp only at q
   refine⟨by simp only[List.length_replicate,List.length_singleton];omega,by omega,hnx _ ⟨by dsimp only;omega,?_⟩ (by dsimp only;omega)⟩;dsimp only;rw[List.replicate_succ'];rfl
  ·have q:=wh.1 q
   try dsimp only at q
   have:i=x.inp%4+1:=by omega
   subst this;exact hk _ rfl
 rintro a rfl;refine⟨by decide,by omega,?_⟩;refine aA (fun s=>s.2<=x.dffs%3/\s.1=List.replicate (x.inp%4+1) ij++List.replicate s.2 (pS 0)) (fun s=>x.dffs%3-s.2) (fun a=>a=List.replicate (x.inp%4+1) ij++List.replicate (x.dffs%3) (pS 0)) ?_ ⟨Nat.zero_le _,by simp⟩ ?_
 ·rintro k ⟨l,i⟩ nx ⟨hi,hl⟩ hnx hk;dsimp only at hi hl;subst hl;refine⟨fun q=>?_,fun q=>?_⟩
  ·have q:=aO.1 q
   try dsimp only at q
   refine⟨by simp only[List.length_append,List.length_replicate,List.length_singleton];omega,by omega,hnx _ ⟨by dsimp only;omega,?_⟩ (by dsimp only;omega)⟩;dsimp only;rw[List.replicate_succ' (n:=i),<- List.append_assoc];rfl
  ·have q:=bk.1 q
   try dsimp only at q
   have:i=x.dffs%3:=by omega
   subst this;exact hk _ rfl
 rintro a rfl;refine J1 (a:=hZ x.inp x.dffs x.mem) (fun F=>⟨fun q=>?_,fun q=>?_⟩) ?_
 ·refine⟨by simp only[List.length_append,List.length_replicate,List.length_cons,List.length_nil];omega,?_⟩;rw[show hZ x.inp x.dffs x.mem=List.replicate (x.inp%4+1) ij++List.replicate (x.dffs%3) (pS 0)++[DP 0,DP 1] by unfold hZ;rw[q];rfl] at F;exact F
 ·rw[show hZ x.inp x.dffs x.mem=List.replicate (x.inp%4+1) ij++List.replicate (x.dffs%3) (pS 0) by unfold hZ;rw[q];simp] at F;exact F
 refine aA (fun s=>s.2<=min x.gates.length 8/\s.1=eI x.bus x.gates (hZ x.inp x.dffs x.mem) s.2) (fun s=>min x.gates.length 8-s.2) (fun a=>a=cH x) ?_ ⟨Nat.zero_le _,rfl⟩ ?_
 ·rintro k ⟨l,i⟩ nx ⟨hi,hl⟩ hnx hk;dsimp only at hi hl;subst hl;have hgl:i<=x.gates.length:=Nat.le_trans hi (Nat.min_le_left _ _);have hN:=fy x.bus x.gates (hZ x.inp x.dffs x.mem) i hgl;have hi8:i<=8:=Nat.le_trans hi (Nat.min_le_right _ _)
  have stop:¬ (i<x.gates.length/\i<8)->k (eI x.bus x.gates (hZ x.inp x.dffs x.mem) i):=fun q=>by
   have:i=min x.gates.length 8:=by omega
   exact hk _ (by rw[this];rfl)
  refine kW ⟨fun q=>⟨fun q2=>?_,fun q2=>stop fun e=>absurd e.2 (by have:=bk.1 q2;omega)⟩,fun q=>⟨(fun e=>by cases e),fun _=>stop fun e=>absurd e.1 (by have:=bk.1 q;(try dsimp only at this);omega)⟩⟩;have q:=aO.1 q;have q2:=aO.1 q2
  try dsimp only at q q2
  obtain⟨gd,hg⟩:=av q;refine⟨gd,hg,hx.gates _ (List.mem_of_getElem? hg),by omega,by omega,by simp only[List.length_singleton];omega,by omega,hnx _ ⟨by dsimp only;omega,?_⟩ (by dsimp only;omega)⟩;dsimp only;rw[nu hg]
 rintro a rfl;have hfirst:(List.replicate (x.inp%4+1) ij).length=x.inp%4+1:=List.length_replicate;refine aA (fun s=>s.2<=x.dffs%3/\s.1=nU (x.inp%4+1) (oB x (cH x).length) s.2 (cH x)) (fun s=>x.dffs%3-s.2) (fun a=>a=nU (x.inp%4+1) (oB x (cH x).length) (x.dffs%3) (cH x)) ?_ ⟨Nat.zero_le _,rfl⟩ ?_
 ·rintro k ⟨l,i⟩ nx ⟨hi,hl⟩ hnx hk;dsimp only at hi hl;subst hl;refine⟨fun q=>?_,fun q=>?_⟩
  ·have q:=aO.1 q
   try dsimp only at q
   have hget:(nU (x.inp%4+1) (oB x (cH x).length) i (cH x))[(List.replicate (x.inp%4+1) ij).length+i]?=some (pS 0):=by
    rw[hfirst,qk (Nat.le_refl _)];exact yF q
   have step:∀ d,d=oB x (cH x).length i->nx ((nU (x.inp%4+1) (oB x (cH x).length) i (cH x)).set ((List.replicate (x.inp%4+1) ij).length+i) { pS 0 with ins:=[d] },i+1):=fun d e=>by
    refine hnx _ ⟨by dsimp only;omega,?_⟩ (by dsimp only;omega);dsimp only;rw[hfirst,e];rfl
   refine⟨by omega,by omega,fun e=>⟨hx.data0,hpos,_,hget,by omega,step _ ?_⟩,fun e=>⟨hx.data1,hpos,_,hget,by omega,step _ ?_⟩⟩
   ·unfold oB;rw[if_pos e]
   ·unfold oB;rw[if_neg (by omega)]
  ·have q:=bk.1 q
   try dsimp only at q
   have:i=x.dffs%3:=by omega
   subst this;exact hk _ rfl
 rintro a rfl
 have hol:((x.outs.take 3).map (· % (cH x).length)).length<=3:=by rw[List.length_map,List.length_take];omega
 unfold fR at h;refine⟨fun q=>⟨hx.port0,hpos,hx.port1,hpos,hx.port2,hpos,hx.port3,hpos,tQ hle (vR hpos hx.outs ⟨hpos,by omega,by simp only[List.length_singleton];omega,rfl,rfl,rfl,rfl,?_⟩)⟩,fun q=>tQ hle (vR hpos hx.outs ⟨hpos,by omega,by simp only[List.length_singleton];omega,?_⟩)⟩
 ·rw[q] at h;exact h
 ·rw[q] at h;exact h
def shB:Sh:=.int .u8
def shG:Sh:=.pair shB (.pair (.pair shB (.pair shB (.pair shB .unit))) .unit)
def shC:Sh:=.pair shB (.pair shB (.pair (.pair shB (.pair shB .unit)) (.pair .bool (.pair .bool (.pair (.pair shB (.pair shB (.pair shB (.pair shB .unit)))) (.pair (.slice shG) (.pair (.slice shB) .unit)))))))
theorem eN {a:Int} (w:shB.wf a):∃ n:Nat,n<256/\a=Int.ofNat n:=by
 have h:=FV w;exact⟨a.toNat,by omega,by simp;omega⟩
theorem sL {α β:Type}{f:α->Value}{g:β->Value}{p:β->Prop}:∀ (l:List α),(∀ x∈l,∃ y,p y/\f x=g y)->∃ m:List β,(∀ y∈m,p y)/\l.map f=m.map g/\m.length=l.length
 |[],_=>⟨[],(fun _ h=>by cases h),rfl,rfl⟩
 |x::l,h=>by
  obtain⟨y,h1,h2⟩:=h x (by simp);obtain⟨m,h3,h4,h5⟩:=sL l fun z hz=>h z (by simp[hz]);refine⟨y::m,fun z hz=>?_,by simp[h2,h4],by simp[h5]⟩
  rcases List.mem_cons.1 hz with rfl|hz
  ·exact h1
  ·exact h3 z hz
theorem qV {l:List Int} (w:(Sh.slice shB).wf l):∃ m:List Nat,(∀ v∈m,v<256)/\(Sh.slice shB).bh l=[ah 1 n8 m]:=by
 obtain⟨_,w2⟩:=w
 obtain⟨m,h1,h2,_⟩:=sL (f:=fun x=>elV shB.one (shB.bh x)) (g:=n8) (p:=(· < 256)) l fun x hx=>by
  obtain⟨n,q1,rfl⟩:=eN (w2 x hx);exact⟨n,q1,rfl⟩
 refine⟨m,h1,?_⟩
 ·show [FL 1 (l.map fun x=>elV shB.one (shB.bh x))]=_
  rw[h2];rfl
theorem DB {l:List shG.Den} (w:(Sh.slice shG).wf l):∃ m:List GData,(∀ v∈m,GOk v)/\(Sh.slice shG).bh l=[FL 4 (m.map A3)]:=by
 obtain⟨_,w2⟩:=w
 obtain⟨m,h1,h2,_⟩:=sL (f:=fun x=>elV shG.one (shG.bh x)) (g:=A3) (p:=GOk) l fun x hx=>by
  obtain⟨k,⟨a,b,d,u⟩,u2⟩:=x;obtain⟨w1,⟨wa,wb,wd,_⟩,_⟩:=w2 _ hx;obtain⟨k,q1,rfl⟩:=eN w1;obtain⟨a,q2,rfl⟩:=eN wa;obtain⟨b,q3,rfl⟩:=eN wb;obtain⟨d,q4,rfl⟩:=eN wd;exact⟨⟨k,a,b,d⟩,⟨q1,q2,q3,q4⟩,rfl⟩
 refine⟨m,h1,?_⟩
 ·show [FL 4 (l.map fun x=>elV shG.one (shG.bh x))]=_
  rw[h2]
theorem J0 {x:shC.Den} (w:shC.wf x):∃ y:CData,CB y/\elV (!true) (shC.bh x)=bO y:=by
 obtain⟨i,f,⟨d0,d1,u1⟩,bu,me,⟨p0,p1,p2,p3,u2⟩,gs,os,u3⟩:=x;obtain⟨wi,wf,⟨wd0,wd1,_⟩,_,_,⟨wp0,wp1,wp2,wp3,_⟩,wg,wo,_⟩:=w;obtain⟨i,qi,rfl⟩:=eN wi;obtain⟨f,qf,rfl⟩:=eN wf;obtain⟨d0,qd0,rfl⟩:=eN wd0;obtain⟨d1,qd1,rfl⟩:=eN wd1;obtain⟨p0,qp0,rfl⟩:=eN wp0;obtain⟨p1,qp1,rfl⟩:=eN wp1;obtain⟨p2,qp2,rfl⟩:=eN wp2;obtain⟨p3,qp3,rfl⟩:=eN wp3;obtain⟨g,g1,g3⟩:=DB wg;obtain⟨o,o1,o3⟩:=qV wo;refine⟨⟨i,f,d0,d1,bu,me,p0,p1,p2,p3,g,o⟩,⟨qi,qf,qd0,qd1,qp0,qp1,qp2,qp3,g1,o1⟩,?_⟩
 show Value.agg ⟨[n8 i,n8 f,n8 d0,n8 d1,.bool bu,.bool me,n8 p0,n8 p1,n8 p2,n8 p3]++((Sh.slice shG).bh gs++((Sh.slice shB).bh os++[]))⟩=_
 rw[g3,o3];rfl
structure FB (z:FData):Prop where
 model:z.model<256
 node:z.node<256
 pin:z.pin<256
 other:z.other<256
structure PData where
 inp:List Nat
 state:List Nat
def CY (x:PData):Value:=.agg ⟨[ah 1 n8 x.inp,ah 1 n8 x.state]⟩
structure PB (z:PData):Prop where
 inp:∀ v∈z.inp,v<256
 state:∀ v∈z.state,v<256
structure CaseD where
 c:CData
 f:List FData
 p:List PData
structure CaseB (x:CaseD):Prop where
 c:CB x.c
 f:∀ z∈x.f,FB z
 p:∀ z∈x.p,PB z
def shP:Sh:=.pair (.slice shB) (.pair (.slice shB) .unit)
theorem D6 {l:List shP.Den} (w:(Sh.slice shP).wf l):∃ m:List PData,(∀ v∈m,PB v)/\(Sh.slice shP).bh l=[ah 2 CY m]:=by
 obtain⟨_,w2⟩:=w
 obtain⟨m,h1,h2,_⟩:=sL (f:=fun x=>elV shP.one (shP.bh x)) (g:=CY) (p:=PB) l fun x hx=>by
  obtain⟨a,b,u⟩:=x;obtain⟨wa,wb,_⟩:=w2 _ hx;obtain⟨a',q1,e1⟩:=qV wa;obtain⟨b',q2,e2⟩:=qV wb;refine⟨⟨a',b'⟩,⟨q1,q2⟩,?_⟩
  show Value.agg ⟨(Sh.slice shB).bh a++((Sh.slice shB).bh b++[])⟩=_
  rw[e1,e2];rfl
 refine⟨m,h1,?_⟩
 show [FL 2 (l.map fun x=>elV shP.one (shP.bh x))]=_
 rw[h2];rfl
set_option maxHeartbeats 8000000
def ji (p0:Circ) (p1:List Flt) (p2:List Nat) (K:List Nat×Nat->Prop):Prop:=bR p0 p1 (p2.map Int.ofNat) K
theorem ml {p0:Circ}{p1:List Flt}{p2:List Nat}{K:List Nat×Nat->Prop} (hm:ji p0 p1 p2 K) {h0:Heap} (hB:HasB vars h0):∃ r,K r/\CallD Tryz.prog NG 25 ⟨[ar p0,(ah 5 az) p1,(ah 1 i64) p2]⟩ h0 ((fun (r:List Nat×Nat)=>Value.tuple ⟨[(aV 1 i64) (r.1),i64 (r.2)]⟩) r) h0:=by
 have e:ah 1 z64 (p2.map Int.ofNat)=ah 1 i64 p2:=by unfold ah;rw[List.map_map];rfl
 rw[<- e];exact lR hm hB
def bA (p0:Circ) (p1:Nat) (K:Nat->Prop):Prop :=
 an (α:=Nat) (fun k2=>aF (S:=(Nat×Nat)) (fun (v3,v4) nx5=>((ltN v4 p0.nodes.length)=true->an (α:=Nat) (fun k7=>∃ x8,p0.nodes[v4]?=some x8/\((eqN x8.kind p1)=true->v3+1<2 ^ 63/\k7 (v3+1))/\((eqN x8.kind p1)=false->k7 v3)) (fun v6=>v4+1<2 ^ 63/\nx5 (v6,(v4+1))))/\((ltN v4 p0.nodes.length)=false->k2 v3)) (0,0)) (fun v1=>K v1)
theorem eX {p0:Circ}{p1:Nat}{K:Nat->Prop} (hm:bA p0 p1 K) {h0:Heap} (hB:HasB vars h0):∃ r,K r/\CallD Tryz.prog NG 148 ⟨[ar p0,n8 p1]⟩ h0 (i64 r) h0:=by
 unfold bA at hm
 refine fw Tryz.func148 hB (enc:=i64) (fun r=>PureV.flat rfl) fun O=>?_;conv=>whnf
 refine gX ?_;refine fz ?_;refine gH ?_
 apply Cs;conv=>whnf
 apply Cs;refine gH ?_;refine jn hm 25 [] (fun s=>s) (fun v1 h=>Own vars h0 [] h) (fun v1=>[(5,(i64 v1))]) (fun hm=>?_) ?_
 ·refine gX ?_;refine lw 25 [1,2] (σ:=(Nat×Nat)) (fun s=>s) (fun (v3,v4) h=>Own vars h0 [] h) (fun (v3,v4)=>[(5,(i64 v3)),(6,(i64 v4))]) (0,0) hm O ?_;clear hm;rintro⟨v3,v4⟩ nx5 base h hm O;refine gX ?_;refine br hm (fun hm=>?_) fun hm=>?_
  ·apply Cs;conv=>whnf
   refine jn hm 25 [1,2,6] (fun s=>s) (fun v6 h=>Own vars h0 [] h) (fun v6=>[(5,(i64 v6))]) (fun hm=>?_) ?_
   ·refine gX ?_;refine atF hm fun x8 hx8 hm=>?_;refine gX ?_;refine br hm (fun hm=>?_) fun hm=>?_
    ·refine gX ?_;refine aH hm fun hm=>?_;refine gH ?_;exact jx (v3+1) hm O
    ·refine gX ?_;exact jx v3 hm O
   ·clear hm;rintro v6 base h hm O;refine gX ?_;refine aH hm fun hm=>?_;refine gH ?_;exact jx (v6,(v4+1)) hm O
  ·refine gX ?_;exact jx v3 hm O
 ·clear hm;rintro v1 base h hm O;refine gX ?_;exact fe hm O
def bB (p0:(List Nat)) (p1:Nat) (p2:Nat) (K:(List Nat)->Prop):Prop :=
 an (α:=(List Nat)) (fun k6=>aF (S:=((List Nat)×Nat)) (fun (v8,v9) nx11=>((ltN v9 p1)=true->an (α:=(List Nat)) (fun k15=>((eqN p0.length 0)=true->(v8.length+([2]:(List Nat)).length)*1<=2 ^ 47/\k15 (v8++([2]:(List Nat))))/\((eqN p0.length 0)=false->0<p0.length/\∃ x18,p0[(v9%p0.length)]?=some x18/\0<p2/\(v8.length+([(x18%p2)]:(List Nat)).length)*1<=2 ^ 47/\k15 (v8++([(x18%p2)]:(List Nat))))) (fun v13=>v9+1<2 ^ 63/\nx11 (v13,(v9+1))))/\((ltN v9 p1)=false->k6 v8)) (([]:List Nat),0)) (fun v4=>K v4)
theorem eT {p0:(List Nat)}{p1:Nat}{p2:Nat}{K:(List Nat)->Prop} (hm:bB p0 p1 p2 K) {h0:Heap} (hB:HasB vars h0):∃ r,K r/\CallD Tryz.prog NG 147 ⟨[(ah 1 n8) p0,i64 p1,n8 p2]⟩ h0 ((ah 1 n8) r) h0:=by
 unfold bB at hm
 refine fw Tryz.func147 hB (enc:=(ah 1 n8)) (fun r=>cF (fun _=>AllPure.cons (PureV.flat rfl) AllPure.nil)) fun O=>?_;conv=>whnf
 apply Cs;conv=>whnf
 apply Cs;refine gH ?_;have O:=O.bC (.cells (flatC ((([]:List Nat)).map n8)) false)
 apply Cs;conv=>whnf
 apply Cs;refine gH ?_;have O:=O.bC (.cells (flatC ((([]:List Nat)).map n8)) false);refine jn (σ:=(List Nat)×Option Nat) hm 33 [] (fun s=>s.1) (fun (v4,a3) h=>(a3=none->v4=[])/\Own vars h0 [(a3,.cells (flatC (v4.map n8)) false)] h) (fun (v4,a3)=>[(7,(ae 1 a3 (v4.map n8)))]) (fun hm=>?_) ?_
 ·refine gX ?_;refine lw 33 [0,1,2] (σ:=((List Nat)×Nat)×Option Nat) (fun s=>s.1) (fun ((v8,v9),a7) h=>(a7=none->v8=[])/\Own vars h0 [(a7,.cells (flatC (v8.map n8)) false)] h) (fun ((v8,v9),a7)=>[(7,(ae 1 a7 (v8.map n8))),(8,(i64 v9))]) ((([]:List Nat),0),none) hm ⟨(fun _=>rfl),(O.sel [0] (by decide))⟩ ?_;clear hm;rintro⟨⟨v8,v9⟩,a7⟩ nx11 base h hm ⟨ha10,O⟩;refine gX ?_;refine br hm (fun hm=>?_) fun hm=>?_
  ·apply Cs;conv=>whnf
   refine jn (σ:=(List Nat)×Option Nat) hm 33 [0,1,2,8] (fun s=>s.1) (fun (v13,a12) h=>(a12=none->v13=[])/\Own vars h0 [(a12,.cells (flatC (v13.map n8)) false)] h) (fun (v13,a12)=>[(7,(ae 1 a12 (v13.map n8)))]) (fun hm=>?_) ?_
   ·refine gX ?_;refine br hm (fun hm=>?_) fun hm=>?_
    ·refine gX ?_;refine fz ?_;refine gH ?_;refine O.apL (enc:=n8) (l:=v8) (new:=([2]:(List Nat))) 1 (.head _) ha10 hm fun a16 h ha17 O hm=>?_;refine gH ?_;exact jx ((v8++([2]:(List Nat))),a16) hm ⟨ha17,O⟩
    ·refine gX ?_;refine ri hm fun hm=>?_;refine gH ?_;refine atF hm fun x18 hx18 hm=>?_;refine gH ?_;refine ri hm fun hm=>?_;refine gH ?_;refine fz ?_;refine gH ?_;refine O.apL (enc:=n8) (l:=v8) (new:=([(x18%p2)]:(List Nat))) 1 (.head _) ha10 hm fun a19 h ha20 O hm=>?_;refine gH ?_;exact jx ((v8++([(x18%p2)]:(List Nat))),a19) hm ⟨ha20,O⟩
   ·clear hm;rintro⟨v13,a12⟩ base h hm ⟨ha14,O⟩;refine gX ?_;refine aH hm fun hm=>?_;refine gH ?_;exact jx ((v13,(v9+1)),a12) hm ⟨ha14,O⟩
  ·refine gX ?_;exact jx (v8,a7) hm ⟨ha10,O⟩
 ·clear hm;rintro⟨v4,a3⟩ base h hm ⟨ha5,O⟩;refine gX ?_;exact⟨v4,hm,O.ext,fun h2 F=>O.jR F (Nat.le_refl _) (.head _) ha5 (fun _=>rfl)⟩
def fu (p0:PData) (p1:Circ) (K:Pat->Prop):Prop :=
 bA p1 0 (fun r3=>bB p0.inp r3 4 (fun r4=>bA p1 14 (fun r5=>bB p0.state r5 3 (fun r6=>K (⟨r4,r6⟩:Pat)))))
theorem sA {p0:PData}{p1:Circ}{K:Pat->Prop} (hm:fu p0 p1 K) {h0:Heap} (hB:HasB vars h0):∃ r,K r/\CallD Tryz.prog NG 72 ⟨[CY p0,ar p1]⟩ h0 (aP r) h0:=by
 unfold fu at hm
 refine fw Tryz.func72 hB (enc:=aP) (fun r=>FM _) fun O=>?_;conv=>whnf
 refine gX ?_;refine fz ?_;refine gH ?_;refine fz ?_;refine gH ?_;refine O.new (ai (l:=[(.slice none 0 0),(.slice none 0 0)]) rfl rfl rfl) fun g1 h O=>?_;refine gH ?_;refine gX ?_;refine dF ?_;refine gX ?_;refine dF ?_;refine gX ?_;refine ca (eX hm O.has) fun r3 hm=>?_;refine gH ?_;refine⟨.inl (Ext.refl _),?_⟩;refine gH ?_;refine ca (eT hm O.has) fun r4 hm=>?_;refine gH ?_;refine⟨.inl (Ext.refl _),?_⟩;refine gH ?_;refine dF ?_;refine gX ?_;refine dF ?_;refine gX ?_;refine ca (eX hm O.has) fun r5 hm=>?_;refine gH ?_;refine⟨.inl (Ext.refl _),?_⟩;refine gH ?_;refine ca (eT hm O.has) fun r6 hm=>?_;refine gH ?_;refine⟨.inl (Ext.refl _),?_⟩;refine gH ?_;refine O.stC 2 (.head _) [((ah 1 n8) r4),((ah 1 n8) r6)] fun h O=>?_;refine gH ?_;refine gX ?_
 refine⟨_,au rfl rfl O.i0 rfl rfl (lbE rfl) rfl,?_⟩;conv=>whnf
 exact fe hm O
end Go.Proofs.YtgiedjgdlckahaaGreatDoor

namespace Go.Abs
section
variable {P:Program} {ρ:Operand->Value} {d:Option Tmp} {ty:TypeId} {pos:String} {af:Array Edge} {gd:Option (Nat×Bool)} {t yt:TypeId} {x y:Operand} {K:Value->Prop}
theorem Ac {a b:Nat} (h:a*b<2 ^ 64) (k:K (.int .u64 (Int.ofNat (a*b)))) (hx:ρ x=.int .u64 (Int.ofNat a):=by exact rfl) (hy:ρ y=.int .u64 (Int.ofNat b):=by exact rfl) :
  ∃ v,aq P ρ { dst:=d,op:=.binOp .mul t x y yt,type:=ty,pos:=pos,after:=af,guard:=gd }=some v/\K v:=by
 refine⟨_,vr hx hy ?_,k⟩;simp only[dK,Option.some.injEq,Value.int.injEq,true_and]
 have e:Int.ofNat a*Int.ofNat b=Int.ofNat (a*b):=by simp
 rw[e];exact nD h
theorem Ch {a b:Nat} (h:a+b<2 ^ 64) (k:K (.int .u64 (Int.ofNat (a+b)))) (hx:ρ x=.int .u64 (Int.ofNat a):=by exact rfl) (hy:ρ y=.int .u64 (Int.ofNat b):=by exact rfl) :
 ∃ v,aq P ρ { dst:=d,op:=.binOp .add t x y yt,type:=ty,pos:=pos,after:=af,guard:=gd }=some v/\K v:=⟨_,HW hx hy h,k⟩
theorem Bl {a:Nat} (h:a<2 ^ 32) (k:K (.int .u64 (Int.ofNat a))) (hx:ρ x=.int .u64 (Int.ofNat a):=by exact rfl) (hy:ρ y=.int .u64 (Int.ofNat 4294967295):=by exact rfl) :
  ∃ v,aq P ρ { dst:=d,op:=.binOp .and t x y yt,type:=ty,pos:=pos,after:=af,guard:=gd }=some v/\K v:=by
 refine eV (a:=a) (b:=4294967295) ?_ hx hy
 have e:aB a 4294967295=a:=by
  unfold aB;rw[show (4294967295:Nat)=2 ^ 32-1 by decide,BitVec.toNat_and,BitVec.toNat_ofNat,BitVec.toNat_ofNat,Nat.mod_eq_of_lt (by omega:a<2 ^ 64),Nat.mod_eq_of_lt (by decide:2 ^ 32-1<2 ^ 64),Nat.and_two_pow_sub_one_eq_mod];exact Nat.mod_eq_of_lt h
 rw[e];exact k
theorem tL {a:Nat} (h:a<2 ^ 32) (k:K (.int .u64 (Int.ofNat 0))) (hx:ρ x=.int .u64 (Int.ofNat a):=by exact rfl) (hy:ρ y=.int .u64 (Int.ofNat 32):=by exact rfl) :
  ∃ v,aq P ρ { dst:=d,op:=.binOp .shr t x y yt,type:=ty,pos:=pos,after:=af,guard:=gd }=some v/\K v:=by
 refine IG (a:=a) (b:=32) (W:=True) ⟨by decide,trivial⟩ (fun _=>?_) hx hy;rw[Nat.div_eq_of_lt h];exact k
end
end Go.Abs
namespace Go.Proofs.YtgiedjgdlckahaaGreatDoor
open Go.Abs
set_option maxRecDepth 100000
structure Ldg where
 first:List Int
 count:List Nat
 tests:Nat
def dR (x:Ldg):Value:=.agg ⟨[ah 1 z64 x.first,ah 1 i64 x.count,i64 x.tests]⟩
theorem CG (x:Ldg):AllPure (cl (dR x)):=AllPure.cons (cF fun _=>AllPure.cons (PureV.flat rfl) AllPure.nil) (AllPure.cons (cF fun _=>AllPure.cons (PureV.flat rfl) AllPure.nil) (AllPure.cons (PureV.flat rfl) AllPure.nil))
theorem th (x:Ldg):PureV (dR x):=PureV.agg (CG x)
theorem AS {y:Nat} (hy:y<2 ^ 32) {h0:Heap} (hB:HasB vars h0):∃ r:Nat×Nat,r=(0,y)/\CallD Tryz.prog NG 266 ⟨[n64 1,n64 y]⟩ h0 ((fun (r:(Nat×Nat))=>Value.tuple ⟨[n64 (r.1),n64 (r.2)]⟩) r) h0:=by
 refine fw Tryz.func266 hB (enc:=fun (r:(Nat×Nat))=>Value.tuple ⟨[n64 (r.1),n64 (r.2)]⟩) (fun r=>PureV.tup (AllPure.cons (PureV.flat rfl) (AllPure.cons (PureV.flat rfl) AllPure.nil))) fun O=>?_;conv=>whnf
 refine gX ?_;refine Bl (a:=1) (by decide) ?_;refine gX ?_;refine tL (a:=1) (by decide) ?_;refine gX ?_;refine Bl (a:=y) hy ?_;refine gX ?_;refine tL (a:=y) hy ?_;refine gX ?_;refine Ac (a:=1) (b:=y) (by omega) ?_;refine gX ?_;refine Ac (a:=0) (b:=y) (by omega) ?_;refine gX ?_;refine tL (a:=1*y) (by omega) ?_;refine gX ?_;refine Ch (a:=0*y) (b:=0) (by omega) ?_;refine gX ?_;refine Bl (a:=0*y+0) (by omega) ?_;refine gX ?_;refine tL (a:=0*y+0) (by omega) ?_;refine gX ?_;refine Ac (a:=1) (b:=0) (by omega) ?_;refine gX ?_;refine Ch (a:=0*y+0) (b:=1*0) (by omega) ?_;refine gX ?_;refine Ac (a:=0) (b:=0) (by omega) ?_;refine gX ?_;refine Ch (a:=0*0) (b:=0) (by omega) ?_;refine gX ?_;refine tL (a:=0*y+0+1*0) (by omega) ?_;refine gX ?_;refine Ch (a:=0*0+0) (b:=0) (by omega) ?_;refine gX ?_;refine Ac (a:=1) (b:=y) (by omega) ?_;refine gX ?_;exact⟨(0*0+0+0,1*y),by rw[Nat.one_mul],O.ext,fun _ _=>VLe.refl _ _⟩
def pB (x y:Nat) (K:Nat×Nat->Prop):Prop:=x=1/\y<2 ^ 32/\K (0,y)
theorem uM {x y:Nat}{K:Nat×Nat->Prop} (hm:pB x y K) {h0:Heap} (hB:HasB vars h0):∃ r,K r/\CallD Tryz.prog NG 233 ⟨[n64 x,n64 y]⟩ h0 ((fun (r:(Nat×Nat))=>Value.tuple ⟨[n64 (r.1),n64 (r.2)]⟩) r) h0:=by
 obtain⟨rfl,hy,hk⟩:=hm
 refine fw Tryz.func233 hB (enc:=fun (r:(Nat×Nat))=>Value.tuple ⟨[n64 (r.1),n64 (r.2)]⟩) (fun r=>PureV.tup (AllPure.cons (PureV.flat rfl) (AllPure.cons (PureV.flat rfl) AllPure.nil))) fun O=>?_;conv=>whnf
 refine gX ?_;refine bf ?_;refine gX ?_;refine ca (AS hy O.has) fun r hr=>?_;subst hr;refine gX ?_;exact⟨(0,y),hk,O.ext,fun _ _=>VLe.refl _ _⟩
set_option maxHeartbeats 8000000
structure Wd where
 one:Nat
 zero:Nat
deriving DecidableEq
def encWd (x:Wd):Value:=.agg ⟨[n64 x.one,n64 x.zero]⟩
theorem kM (x:Wd):AllPure (cl (encWd x)):=AllPure.cons (PureV.flat rfl) (AllPure.cons (PureV.flat rfl) AllPure.nil)
theorem dO (x:Wd):PureV (encWd x):=PureV.agg (kM x)
def mM:Nat:=2 ^ 64-1
def kv (v:Nat):Wd:=⟨if v=1\/v=3 then mM else 0,if v=0\/v=3 then mM else 0⟩
theorem Bn:∀ o∈vars,∃ cs,o=.cells cs true/\cs.all plain=true:=fun o m=>by
 obtain⟨i,hi⟩:=List.getElem?_of_mem m;exact oP hi
theorem DS:my NG (encWd (kv 0)) (je Tryz.prog [] (fun _ _ _=>none) 60 125 ⟨[n8 0]⟩ (bJ vars))=true:=by kernel_rfl
theorem C7:my NG (encWd (kv 1)) (je Tryz.prog [] (fun _ _ _=>none) 60 125 ⟨[n8 1]⟩ (bJ vars))=true:=by kernel_rfl
theorem DA:my NG (encWd (kv 2)) (je Tryz.prog [] (fun _ _ _=>none) 60 125 ⟨[n8 2]⟩ (bJ vars))=true:=by kernel_rfl
theorem CX:my NG (encWd (kv 3)) (je Tryz.prog [] (fun _ _ _=>none) 60 125 ⟨[n8 3]⟩ (bJ vars))=true:=by kernel_rfl
theorem Hq {v:Nat} (h:v<=3):FnV Tryz.prog NG vars 125 ⟨[n8 v]⟩ (encWd (kv v)):=by
 have key:∀ v:Nat,my NG (encWd (kv v)) (je Tryz.prog [] (fun _ _ _=>none) 60 125 ⟨[n8 v]⟩ (bJ vars))=true->FnV Tryz.prog NG vars 125 ⟨[n8 v]⟩ (encWd (kv v)):=fun v e =>
  FnV.closed hM rfl Bn hP (fun _ _ _ _ e=>by cases e) e (AllPure.cons (PureV.flat rfl) AllPure.nil) (dO _) (by kernel_rfl) (by decide)
 have:v=0\/v=1\/v=2\/v=3:=by omega
 rcases this with rfl|rfl|rfl|rfl
 ·exact key 0 DS
 ·exact key 1 C7
 ·exact key 2 DA
 ·exact key 3 CX
def bU (v:Nat) (K:Wd->Prop):Prop:=v<=3/\K (kv v)
theorem bP {p0:Nat}{K:Wd->Prop} (hm:bU p0 K) {h0:Heap} (hB:HasB vars h0):∃ r,K r/\CallD Tryz.prog NG 125 ⟨[n8 p0]⟩ h0 (encWd r) h0:=(Hq hm.1).walk hm.2 hB
set_option maxHeartbeats 8000000
def fI (p0:Wd) (K:Wd->Prop):Prop :=
 K (⟨(aU p0.one (aB p0.one p0.zero)),(aU p0.zero (aB p0.one p0.zero))⟩:Wd)
theorem mJ {p0:Wd}{K:Wd->Prop} (hm:fI p0 K) {h0:Heap} (hB:HasB vars h0):∃ r,K r/\CallD Tryz.prog NG 189 ⟨[encWd p0]⟩ h0 (encWd r) h0:=by
 unfold fI at hm
 refine fw Tryz.func189 hB (enc:=encWd) (fun r=>dO _) fun O=>?_;conv=>whnf
 refine gX ?_;refine fz ?_;refine gH ?_;refine O.new (ai (l:=[(n64 0),(n64 0)]) rfl rfl rfl) fun g1 h O=>?_;refine gH ?_;refine gX ?_;refine eV (a:=p0.one) (b:=p0.zero) ?_;refine gX ?_;refine jg (a:=p0.one) (b:=(aB p0.one p0.zero)) ?_;refine gH ?_;refine jg (a:=p0.zero) (b:=(aB p0.one p0.zero)) ?_;refine gH ?_;refine O.stC 2 (.head _) [(n64 (aU p0.one (aB p0.one p0.zero))),(n64 (aU p0.zero (aB p0.one p0.zero)))] fun h O=>?_;refine gX ?_
 refine⟨_,au rfl rfl O.i0 rfl rfl (lbE rfl) rfl,?_⟩;conv=>whnf
 exact fe hm O
def cx (p0:Wd) (K:Wd->Prop):Prop :=
 K (⟨p0.zero,p0.one⟩:Wd)
theorem dr {p0:Wd}{K:Wd->Prop} (hm:cx p0 K) {h0:Heap} (hB:HasB vars h0):∃ r,K r/\CallD Tryz.prog NG 190 ⟨[encWd p0]⟩ h0 (encWd r) h0:=by
 unfold cx at hm
 refine fw Tryz.func190 hB (enc:=encWd) (fun r=>dO _) fun O=>?_;conv=>whnf
 refine gX ?_;refine fz ?_;refine gH ?_;refine O.new (ai (l:=[(n64 0),(n64 0)]) rfl rfl rfl) fun g1 h O=>?_;refine gH ?_;refine gX ?_;refine O.stC 2 (.head _) [(n64 p0.zero),(n64 p0.one)] fun h O=>?_;refine gX ?_
 refine⟨_,au rfl rfl O.i0 rfl rfl (lbE rfl) rfl,?_⟩;conv=>whnf
 exact fe hm O
def gY (p0:(List Wd)) (K:Wd->Prop):Prop :=
 bU 1 (fun r3=>an (α:=(Nat×Nat)) (fun k8=>aF (S:=(Nat×Nat×Nat)) (fun (v9,v10,v11) nx12=>((ltN v11 p0.length)=true->∃ x13,p0[v11]?=some x13/\v11+1<2 ^ 63/\nx12 ((aB v9 x13.one),(bM v10 x13.zero),(v11+1)))/\((ltN v11 p0.length)=false->k8 (v9,v10))) (r3.one,r3.zero,0)) (fun (v6,v7)=>K (⟨v6,v7⟩:Wd)))
theorem mV {p0:(List Wd)}{K:Wd->Prop} (hm:gY p0 K) {h0:Heap} (hB:HasB vars h0):∃ r,K r/\CallD Tryz.prog NG 191 ⟨[(ah 2 encWd) p0]⟩ h0 (encWd r) h0:=by
 unfold gY at hm
 refine fw Tryz.func191 hB (enc:=encWd) (fun r=>dO _) fun O=>?_;conv=>whnf
 refine gX ?_;refine O.new (ai (l:=[(n64 0),(n64 0)]) rfl rfl rfl) fun g1 h O=>?_;refine gH ?_;refine gX ?_;refine ca (bP hm O.has) fun r3 hm=>?_;refine gH ?_;refine O.new (ai (l:=[(n64 0),(n64 0)]) rfl rfl rfl) fun g4 h O=>?_;refine gH ?_;refine O.stC 2 (.head _) [(n64 r3.one),(n64 r3.zero)] fun h O=>?_;refine gH ?_;refine jn hm 26 [2,3] (fun s=>s) (fun (v6,v7) h=>Own vars h0 [(sC g1 [(n64 0),(n64 0)]),(sC g4 [(n64 v6),(n64 v7)])] h) (fun (v6,v7)=>[]) (fun hm=>?_) ?_
 ·refine gX ?_;refine lw 26 [2,3,7,8] (σ:=(Nat×Nat×Nat)) (fun s=>s) (fun (v9,v10,v11) h=>Own vars h0 [(sC g1 [(n64 0),(n64 0)]),(sC g4 [(n64 v9),(n64 v10)])] h) (fun (v9,v10,v11)=>[(9,(i64 v11))]) (r3.one,r3.zero,0) hm (O.sel [1,0] (by decide)) ?_;clear hm;rintro⟨v9,v10,v11⟩ nx12 base h hm O;refine gX ?_;refine br hm (fun hm=>?_) fun hm=>?_
  ·refine gX ?_;refine atF hm fun x13 hx13 hm=>?_;refine gH ?_;refine O.new (ai (l:=[(n64 0),(n64 0)]) rfl rfl rfl) fun g14 h O=>?_;refine gH ?_;refine O.stC 2 (.head _) [(n64 x13.one),(n64 x13.zero)] fun h O=>?_;refine gX ?_;refine eV (a:=v9) (b:=x13.one) ?_;refine gH ?_;refine lF (a:=v10) (b:=x13.zero) ?_;refine gH ?_;refine O.stC 2 (.tail _ (.tail _ (.head _))) [(n64 (aB v9 x13.one)),(n64 (bM v10 x13.zero))] fun h O=>?_;refine gX ?_;refine aH hm fun hm=>?_;refine gH ?_;exact jx ((aB v9 x13.one),(bM v10 x13.zero),(v11+1)) hm (O.sel [1,2] (by decide))
  ·refine gX ?_;exact jx (v9,v10) hm O
 ·clear hm;rintro⟨v6,v7⟩ base h hm O;refine gX ?_;refine ldA O.i1 ?_;refine gH ?_;refine O.stC 2 (.head _) [(n64 v6),(n64 v7)] fun h O=>?_;refine gX ?_
  refine⟨_,au rfl rfl O.i0 rfl rfl (lbE rfl) rfl,?_⟩;conv=>whnf
  exact fe hm O
def iX (p0:(List Wd)) (K:Wd->Prop):Prop :=
 bU 0 (fun r3=>an (α:=(Nat×Nat)) (fun k8=>aF (S:=(Nat×Nat×Nat)) (fun (v9,v10,v11) nx12=>((ltN v11 p0.length)=true->∃ x13,p0[v11]?=some x13/\v11+1<2 ^ 63/\nx12 ((bM v9 x13.one),(aB v10 x13.zero),(v11+1)))/\((ltN v11 p0.length)=false->k8 (v9,v10))) (r3.one,r3.zero,0)) (fun (v6,v7)=>K (⟨v6,v7⟩:Wd)))
theorem oA {p0:(List Wd)}{K:Wd->Prop} (hm:iX p0 K) {h0:Heap} (hB:HasB vars h0):∃ r,K r/\CallD Tryz.prog NG 192 ⟨[(ah 2 encWd) p0]⟩ h0 (encWd r) h0:=by
 unfold iX at hm
 refine fw Tryz.func192 hB (enc:=encWd) (fun r=>dO _) fun O=>?_;conv=>whnf
 refine gX ?_;refine O.new (ai (l:=[(n64 0),(n64 0)]) rfl rfl rfl) fun g1 h O=>?_;refine gH ?_;refine gX ?_;refine ca (bP hm O.has) fun r3 hm=>?_;refine gH ?_;refine O.new (ai (l:=[(n64 0),(n64 0)]) rfl rfl rfl) fun g4 h O=>?_;refine gH ?_;refine O.stC 2 (.head _) [(n64 r3.one),(n64 r3.zero)] fun h O=>?_;refine gH ?_;refine jn hm 26 [2,3] (fun s=>s) (fun (v6,v7) h=>Own vars h0 [(sC g1 [(n64 0),(n64 0)]),(sC g4 [(n64 v6),(n64 v7)])] h) (fun (v6,v7)=>[]) (fun hm=>?_) ?_
 ·refine gX ?_;refine lw 26 [2,3,7,8] (σ:=(Nat×Nat×Nat)) (fun s=>s) (fun (v9,v10,v11) h=>Own vars h0 [(sC g1 [(n64 0),(n64 0)]),(sC g4 [(n64 v9),(n64 v10)])] h) (fun (v9,v10,v11)=>[(9,(i64 v11))]) (r3.one,r3.zero,0) hm (O.sel [1,0] (by decide)) ?_;clear hm;rintro⟨v9,v10,v11⟩ nx12 base h hm O;refine gX ?_;refine br hm (fun hm=>?_) fun hm=>?_
  ·refine gX ?_;refine atF hm fun x13 hx13 hm=>?_;refine gH ?_;refine O.new (ai (l:=[(n64 0),(n64 0)]) rfl rfl rfl) fun g14 h O=>?_;refine gH ?_;refine O.stC 2 (.head _) [(n64 x13.one),(n64 x13.zero)] fun h O=>?_;refine gX ?_;refine lF (a:=v9) (b:=x13.one) ?_;refine gH ?_;refine eV (a:=v10) (b:=x13.zero) ?_;refine gH ?_;refine O.stC 2 (.tail _ (.tail _ (.head _))) [(n64 (bM v9 x13.one)),(n64 (aB v10 x13.zero))] fun h O=>?_;refine gX ?_;refine aH hm fun hm=>?_;refine gH ?_;exact jx ((bM v9 x13.one),(aB v10 x13.zero),(v11+1)) hm (O.sel [1,2] (by decide))
  ·refine gX ?_;exact jx (v9,v10) hm O
 ·clear hm;rintro⟨v6,v7⟩ base h hm O;refine gX ?_;refine ldA O.i1 ?_;refine gH ?_;refine O.stC 2 (.head _) [(n64 v6),(n64 v7)] fun h O=>?_;refine gX ?_
  refine⟨_,au rfl rfl O.i0 rfl rfl (lbE rfl) rfl,?_⟩;conv=>whnf
  exact fe hm O
def gG (p0:(List Wd)) (K:Wd->Prop):Prop :=
 bU 0 (fun r3=>an (α:=(Nat×Nat)) (fun k8=>aF (S:=(Nat×Nat×Nat)) (fun (v9,v10,v11) nx12=>((ltN v11 p0.length)=true->∃ x13,p0[v11]?=some x13/\v11+1<2 ^ 63/\nx12 ((bM (aB v9 x13.zero) (aB v10 x13.one)),(bM (aB v9 x13.one) (aB v10 x13.zero)),(v11+1)))/\((ltN v11 p0.length)=false->k8 (v9,v10))) (r3.one,r3.zero,0)) (fun (v6,v7)=>K (⟨v6,v7⟩:Wd)))
theorem nb {p0:(List Wd)}{K:Wd->Prop} (hm:gG p0 K) {h0:Heap} (hB:HasB vars h0):∃ r,K r/\CallD Tryz.prog NG 193 ⟨[(ah 2 encWd) p0]⟩ h0 (encWd r) h0:=by
 unfold gG at hm
 refine fw Tryz.func193 hB (enc:=encWd) (fun r=>dO _) fun O=>?_;conv=>whnf
 refine gX ?_;refine O.new (ai (l:=[(n64 0),(n64 0)]) rfl rfl rfl) fun g1 h O=>?_;refine gH ?_;refine gX ?_;refine ca (bP hm O.has) fun r3 hm=>?_;refine gH ?_;refine O.new (ai (l:=[(n64 0),(n64 0)]) rfl rfl rfl) fun g4 h O=>?_;refine gH ?_;refine O.stC 2 (.head _) [(n64 r3.one),(n64 r3.zero)] fun h O=>?_;refine gH ?_;refine jn hm 38 [2,3] (fun s=>s) (fun (v6,v7) h=>Own vars h0 [(sC g1 [(n64 0),(n64 0)]),(sC g4 [(n64 v6),(n64 v7)])] h) (fun (v6,v7)=>[]) (fun hm=>?_) ?_
 ·refine gX ?_;refine lw 38 [2,3,7,8] (σ:=(Nat×Nat×Nat)) (fun s=>s) (fun (v9,v10,v11) h=>Own vars h0 [(sC g1 [(n64 0),(n64 0)]),(sC g4 [(n64 v9),(n64 v10)])] h) (fun (v9,v10,v11)=>[(9,(i64 v11))]) (r3.one,r3.zero,0) hm (O.sel [1,0] (by decide)) ?_;clear hm;rintro⟨v9,v10,v11⟩ nx12 base h hm O;refine gX ?_;refine br hm (fun hm=>?_) fun hm=>?_
  ·refine gX ?_;refine atF hm fun x13 hx13 hm=>?_;refine gH ?_;refine O.new (ai (l:=[(n64 0),(n64 0)]) rfl rfl rfl) fun g14 h O=>?_;refine gH ?_;refine O.stC 2 (.head _) [(n64 x13.one),(n64 x13.zero)] fun h O=>?_;refine gX ?_;refine eV (a:=v9) (b:=x13.zero) ?_;refine gH ?_;refine eV (a:=v10) (b:=x13.one) ?_;refine gH ?_;refine lF (a:=(aB v9 x13.zero)) (b:=(aB v10 x13.one)) ?_;refine gH ?_;refine eV (a:=v9) (b:=x13.one) ?_;refine gH ?_;refine eV (a:=v10) (b:=x13.zero) ?_;refine gH ?_;refine lF (a:=(aB v9 x13.one)) (b:=(aB v10 x13.zero)) ?_;refine gH ?_;refine O.stC 2 (.tail _ (.tail _ (.head _))) [(n64 (bM (aB v9 x13.zero) (aB v10 x13.one))),(n64 (bM (aB v9 x13.one) (aB v10 x13.zero)))] fun h O=>?_;refine gX ?_;refine aH hm fun hm=>?_;refine gH ?_;exact jx ((bM (aB v9 x13.zero) (aB v10 x13.one)),(bM (aB v9 x13.one) (aB v10 x13.zero)),(v11+1)) hm (O.sel [1,2] (by decide))
  ·refine gX ?_;exact jx (v9,v10) hm O
 ·clear hm;rintro⟨v6,v7⟩ base h hm O;refine gX ?_;refine ldA O.i1 ?_;refine gH ?_;refine O.stC 2 (.head _) [(n64 v6),(n64 v7)] fun h O=>?_;refine gX ?_
  refine⟨_,au rfl rfl O.i0 rfl rfl (lbE rfl) rfl,?_⟩;conv=>whnf
  exact fe hm O
def lW (p0:Wd) (p1:Wd) (p2:Wd) (K:Wd->Prop):Prop :=
 K (⟨(bM (bM (aB p0.zero p1.one) (aB p0.one p2.one)) (aB p1.one p2.one)),(bM (bM (aB p0.zero p1.zero) (aB p0.one p2.zero)) (aB p1.zero p2.zero))⟩:Wd)
theorem tJ {p0:Wd}{p1:Wd}{p2:Wd}{K:Wd->Prop} (hm:lW p0 p1 p2 K) {h0:Heap} (hB:HasB vars h0):∃ r,K r/\CallD Tryz.prog NG 194 ⟨[encWd p0,encWd p1,encWd p2]⟩ h0 (encWd r) h0:=by
 unfold lW at hm
 refine fw Tryz.func194 hB (enc:=encWd) (fun r=>dO _) fun O=>?_;conv=>whnf
 refine gX ?_;refine fz ?_;refine gH ?_;refine fz ?_;refine gH ?_;refine fz ?_;refine gH ?_;refine O.new (ai (l:=[(n64 0),(n64 0)]) rfl rfl rfl) fun g1 h O=>?_;refine gH ?_;refine gX ?_;refine eV (a:=p0.zero) (b:=p1.one) ?_;refine gH ?_;refine eV (a:=p0.one) (b:=p2.one) ?_;refine gH ?_;refine lF (a:=(aB p0.zero p1.one)) (b:=(aB p0.one p2.one)) ?_;refine gH ?_;refine eV (a:=p1.one) (b:=p2.one) ?_;refine gH ?_;refine lF (a:=(bM (aB p0.zero p1.one) (aB p0.one p2.one))) (b:=(aB p1.one p2.one)) ?_;refine gH ?_;refine eV (a:=p0.zero) (b:=p1.zero) ?_;refine gH ?_;refine eV (a:=p0.one) (b:=p2.zero) ?_;refine gH ?_;refine lF (a:=(aB p0.zero p1.zero)) (b:=(aB p0.one p2.zero)) ?_;refine gH ?_;refine eV (a:=p1.zero) (b:=p2.zero) ?_;refine gH ?_;refine lF (a:=(bM (aB p0.zero p1.zero) (aB p0.one p2.zero))) (b:=(aB p1.zero p2.zero)) ?_;refine gH ?_;refine O.stC 2 (.head _) [(n64 (bM (bM (aB p0.zero p1.one) (aB p0.one p2.one)) (aB p1.one p2.one))),(n64 (bM (bM (aB p0.zero p1.zero) (aB p0.one p2.zero)) (aB p1.zero p2.zero)))] fun h O=>?_;refine gX ?_
 refine⟨_,au rfl rfl O.i0 rfl rfl (lbE rfl) rfl,?_⟩;conv=>whnf
 exact fe hm O
def lB (p0:Wd) (p1:Wd) (K:Wd->Prop):Prop :=
 K (⟨(bM p0.zero (aB p0.one p1.one)),(bM p0.zero (aB p0.one p1.zero))⟩:Wd)
theorem uH {p0:Wd}{p1:Wd}{K:Wd->Prop} (hm:lB p0 p1 K) {h0:Heap} (hB:HasB vars h0):∃ r,K r/\CallD Tryz.prog NG 195 ⟨[encWd p0,encWd p1]⟩ h0 (encWd r) h0:=by
 unfold lB at hm
 refine fw Tryz.func195 hB (enc:=encWd) (fun r=>dO _) fun O=>?_;conv=>whnf
 refine gX ?_;refine fz ?_;refine gH ?_;refine fz ?_;refine gH ?_;refine O.new (ai (l:=[(n64 0),(n64 0)]) rfl rfl rfl) fun g1 h O=>?_;refine gH ?_;refine gX ?_;refine eV (a:=p0.one) (b:=p1.one) ?_;refine gH ?_;refine lF (a:=p0.zero) (b:=(aB p0.one p1.one)) ?_;refine gH ?_;refine eV (a:=p0.one) (b:=p1.zero) ?_;refine gH ?_;refine lF (a:=p0.zero) (b:=(aB p0.one p1.zero)) ?_;refine gH ?_;refine O.stC 2 (.head _) [(n64 (bM p0.zero (aB p0.one p1.one))),(n64 (bM p0.zero (aB p0.one p1.zero)))] fun h O=>?_;refine gX ?_
 refine⟨_,au rfl rfl O.i0 rfl rfl (lbE rfl) rfl,?_⟩;conv=>whnf
 exact fe hm O
def ju (p0:(List Wd)) (K:Wd->Prop):Prop :=
 an (α:=(Nat×Nat×Nat)) (fun k6=>aF (S:=(Nat×Nat×Nat×Nat)) (fun (v7,v8,v9,v10) nx11=>((ltN v10 p0.length)=true->∃ x12,p0[v10]?=some x12/\v10+1<2 ^ 63/\nx11 ((bM v7 (aU x12.one x12.zero)),(bM v8 (aU x12.zero x12.one)),(bM v9 (lY (bM x12.one x12.zero))),(v10+1)))/\((ltN v10 p0.length)=false->k6 (v7,v8,v9))) (0,0,0,0)) (fun (v3,v4,v5)=>K (⟨(aU (lY v4) (bM v5 (aB v3 v4))),(aU (lY v3) (bM v5 (aB v3 v4)))⟩:Wd))
theorem ur {p0:(List Wd)}{K:Wd->Prop} (hm:ju p0 K) {h0:Heap} (hB:HasB vars h0):∃ r,K r/\CallD Tryz.prog NG 188 ⟨[(ah 2 encWd) p0]⟩ h0 (encWd r) h0:=by
 unfold ju at hm
 refine fw Tryz.func188 hB (enc:=encWd) (fun r=>dO _) fun O=>?_;conv=>whnf
 refine gX ?_;refine O.new (ai (l:=[(n64 0),(n64 0)]) rfl rfl rfl) fun g1 h O=>?_;refine gH ?_
 apply Cs;conv=>whnf
 apply Cs;refine gH ?_;refine jn hm 51 [2] (fun s=>s) (fun (v3,v4,v5) h=>Own vars h0 [(sC g1 [(n64 0),(n64 0)])] h) (fun (v3,v4,v5)=>[(3,(n64 v3)),(4,(n64 v4)),(5,(n64 v5))]) (fun hm=>?_) ?_
 ·refine gX ?_;refine lw 51 [2,8,9] (σ:=(Nat×Nat×Nat×Nat)) (fun s=>s) (fun (v7,v8,v9,v10) h=>Own vars h0 [(sC g1 [(n64 0),(n64 0)])] h) (fun (v7,v8,v9,v10)=>[(3,(n64 v7)),(4,(n64 v8)),(5,(n64 v9)),(10,(i64 v10))]) (0,0,0,0) hm O ?_;clear hm;rintro⟨v7,v8,v9,v10⟩ nx11 base h hm O;refine gX ?_;refine br hm (fun hm=>?_) fun hm=>?_
  ·refine gX ?_;refine atF hm fun x12 hx12 hm=>?_;refine gH ?_;refine O.new (ai (l:=[(n64 0),(n64 0)]) rfl rfl rfl) fun g13 h O=>?_;refine gH ?_;refine O.stC 2 (.head _) [(n64 x12.one),(n64 x12.zero)] fun h O=>?_;refine gX ?_;refine jg (a:=x12.one) (b:=x12.zero) ?_;refine gH ?_;refine lF (a:=v7) (b:=(aU x12.one x12.zero)) ?_;refine gX ?_;refine jg (a:=x12.zero) (b:=x12.one) ?_;refine gH ?_;refine lF (a:=v8) (b:=(aU x12.zero x12.one)) ?_;refine gX ?_;refine lF (a:=x12.one) (b:=x12.zero) ?_;refine gH ?_;refine EP (a:=(bM x12.one x12.zero)) ?_;refine gH ?_;refine lF (a:=v9) (b:=(lY (bM x12.one x12.zero))) ?_;refine gX ?_;refine aH hm fun hm=>?_;refine gH ?_;exact jx ((bM v7 (aU x12.one x12.zero)),(bM v8 (aU x12.zero x12.one)),(bM v9 (lY (bM x12.one x12.zero))),(v10+1)) hm (O.sel [1] (by decide))
  ·refine gX ?_;exact jx (v7,v8,v9) hm O
 ·clear hm;rintro⟨v3,v4,v5⟩ base h hm O;refine gX ?_;refine eV (a:=v3) (b:=v4) ?_;refine gH ?_;refine lF (a:=v5) (b:=(aB v3 v4)) ?_;refine gX ?_;refine EP (a:=v4) ?_;refine gH ?_;refine jg (a:=(lY v4)) (b:=(bM v5 (aB v3 v4))) ?_;refine gH ?_;refine EP (a:=v3) ?_;refine gH ?_;refine jg (a:=(lY v3)) (b:=(bM v5 (aB v3 v4))) ?_;refine gH ?_;refine O.stC 2 (.head _) [(n64 (aU (lY v4) (bM v5 (aB v3 v4)))),(n64 (aU (lY v3) (bM v5 (aB v3 v4))))] fun h O=>?_;refine gX ?_
  refine⟨_,au rfl rfl O.i0 rfl rfl (lbE rfl) rfl,?_⟩;conv=>whnf
  exact fe hm O
def ft (p0:Nat) (p1:(List Wd)) (K:Wd->Prop):Prop :=
 gV p0 (fun r3=>an (α:=Bool) (fun k5=>((ltN p1.length r3.1)=true->k5 true)/\((ltN p1.length r3.1)=false->k5 (ltI r3.2 (Int.ofNat p1.length)))) (fun v4=>(v4=true->bU 2 (fun r6=>K r6))/\(v4=false->((eqN p0 13)=true->ju p1 (fun r7=>K r7))/\((eqN p0 13)=false->16*p1.length<=2 ^ 48/\p1.length<2 ^ 63/\an (α:=(List Wd)) (fun k11=>aF (S:=((List Wd)×Nat)) (fun (v12,v13) nx14=>((ltN v13 p1.length)=true->∃ x15,p1[v13]?=some x15/\fI x15 (fun r18=>v13<p1.length/\∃ x19,v12[v13]?=some x19/\v13+1<2 ^ 63/\nx14 ((v12.set v13 r18),(v13+1))))/\((ltN v13 p1.length)=false->k11 v12)) ((List.replicate p1.length ((⟨0,0⟩:Wd):Wd)),0)) (fun v10=>((eqN p0 1)=true->bU 0 (fun r20=>K r20))/\((eqN p0 1)=false->((eqN p0 2)=true->bU 1 (fun r21=>K r21))/\((eqN p0 2)=false->((eqN p0 3)=true->0<p1.length/\∃ x22,v10[0]?=some x22/\K x22)/\((eqN p0 3)=false->((eqN p0 4)=true->0<p1.length/\∃ x23,v10[0]?=some x23/\cx x23 (fun r24=>K r24))/\((eqN p0 4)=false->((eqN p0 5)=true->p1.length=v10.length/\gY v10 (fun r25=>K r25))/\((eqN p0 5)=false->((eqN p0 6)=true->p1.length=v10.length/\gY v10 (fun r27=>cx r27 (fun r29=>K r29)))/\((eqN p0 6)=false->((eqN p0 7)=true->p1.length=v10.length/\iX v10 (fun r30=>K r30))/\((eqN p0 7)=false->((eqN p0 8)=true->p1.length=v10.length/\iX v10 (fun r32=>cx r32 (fun r34=>K r34)))/\((eqN p0 8)=false->((eqN p0 9)=true->p1.length=v10.length/\gG v10 (fun r35=>K r35))/\((eqN p0 9)=false->((eqN p0 10)=true->p1.length=v10.length/\gG v10 (fun r37=>cx r37 (fun r39=>K r39)))/\((eqN p0 10)=false->((eqN p0 11)=true->0<p1.length/\∃ x40,v10[0]?=some x40/\1<p1.length/\∃ x41,v10[1]?=some x41/\2<p1.length/\∃ x42,v10[2]?=some x42/\lW x40 x41 x42 (fun r43=>K r43))/\((eqN p0 11)=false->((eqN p0 12)=true->0<p1.length/\∃ x44,v10[0]?=some x44/\1<p1.length/\∃ x45,v10[1]?=some x45/\lB x44 x45 (fun r46=>K r46))/\((eqN p0 12)=false->bU 2 (fun r47=>K r47))))))))))))))))))
theorem su {p0:Nat}{p1:(List Wd)}{K:Wd->Prop} (hm:ft p0 p1 K) {h0:Heap} (hB:HasB vars h0):∃ r,K r/\CallD Tryz.prog NG 126 ⟨[n8 p0,(ah 2 encWd) p1]⟩ h0 (encWd r) h0:=by
 unfold ft at hm
 refine fw Tryz.func126 hB (enc:=encWd) (fun r=>dO _) fun O=>?_;conv=>whnf
 refine gX ?_;refine O.new (ai (l:=[(n64 0),(n64 0)]) rfl rfl rfl) fun g1 h O=>?_;refine gH ?_;refine gX ?_;refine ca (kS hm O.has) fun r3 hm=>?_;refine gH ?_;refine jn hm 113 [0,1,4] (fun s=>s) (fun v4 h=>Own vars h0 [(sC g1 [(n64 0),(n64 0)])] h) (fun v4=>[(24,(.bool v4))]) (fun hm=>?_) ?_
 ·refine gX ?_;refine br hm (fun hm=>?_) fun hm=>?_
  ·refine gX ?_;exact jx true hm O
  ·refine gX ?_;exact jx (ltI r3.2 (Int.ofNat p1.length)) hm O
 ·clear hm;rintro v4 base h hm O;refine gX ?_;refine br hm (fun hm=>?_) fun hm=>?_
  ·refine gX ?_;refine ca (bP hm O.has) fun r6 hm=>?_;refine gH ?_;refine O.stC 2 (.head _) [(n64 r6.one),(n64 r6.zero)] fun h O=>?_;refine gX ?_
   refine⟨_,au rfl rfl O.i0 rfl rfl (lbE rfl) rfl,?_⟩;conv=>whnf
   exact fe hm O
  ·refine gX ?_;refine br hm (fun hm=>?_) fun hm=>?_
   ·refine gX ?_;refine ca (ur hm O.has) fun r7 hm=>?_;refine gH ?_;refine O.stC 2 (.head _) [(n64 r7.one),(n64 r7.zero)] fun h O=>?_;refine gX ?_
    refine⟨_,au rfl rfl O.i0 rfl rfl (lbE rfl) rfl,?_⟩;conv=>whnf
    exact fe hm O
   ·refine gX ?_;refine O.mkL (enc:=encWd) 16 2 (⟨0,0⟩:Wd) hm fun g8 h O hm=>?_;refine gH ?_;refine jn hm 113 [0,4,7] (fun s=>s) (fun v10 h=>Own vars h0 [(sC g1 [(n64 0),(n64 0)]),(sC g8 (flatC (v10.map encWd)))] h) (fun v10=>[]) (fun hm=>?_) ?_
    ·refine gX ?_;refine lw 113 [0,4,7,33,34] (σ:=((List Wd)×Nat)) (fun s=>s) (fun (v12,v13) h=>Own vars h0 [(sC g1 [(n64 0),(n64 0)]),(sC g8 (flatC (v12.map encWd)))] h) (fun (v12,v13)=>[(35,(i64 v13))]) ((List.replicate p1.length ((⟨0,0⟩:Wd):Wd)),0) hm (O.sel [1,0] (by decide)) ?_;clear hm;rintro⟨v12,v13⟩ nx14 base h hm O;refine gX ?_;refine br hm (fun hm=>?_) fun hm=>?_
     ·refine gX ?_;refine atF hm fun x15 hx15 hm=>?_;refine gH ?_;refine O.new (ai (l:=[(n64 0),(n64 0)]) rfl rfl rfl) fun g16 h O=>?_;refine gH ?_;refine O.stC 2 (.head _) [(n64 x15.one),(n64 x15.zero)] fun h O=>?_;refine gX ?_;refine ldA O.i0 ?_;refine gH ?_;refine ca (mJ hm O.has) fun r18 hm=>?_;refine gH ?_;refine ix 2 hm fun x19 hx19 hm=>?_;refine gH ?_;refine O.stE 2 (.tail _ (.tail _ (.head _))) hx19 r18 fun h O=>?_;refine gX ?_;refine aH hm fun hm=>?_;refine gH ?_;exact jx ((v12.set v13 r18),(v13+1)) hm (O.sel [1,2] (by decide))
     ·refine gX ?_;exact jx v12 hm O
    ·clear hm;rintro v10 base h hm O;refine gX ?_;refine br hm (fun hm=>?_) fun hm=>?_
     ·refine gX ?_;refine ca (bP hm O.has) fun r20 hm=>?_;refine gH ?_;refine O.stC 2 (.head _) [(n64 r20.one),(n64 r20.zero)] fun h O=>?_;refine gX ?_
      refine⟨_,au rfl rfl O.i0 rfl rfl (lbE rfl) rfl,?_⟩;conv=>whnf
      exact fe hm O
     ·refine gX ?_;refine br hm (fun hm=>?_) fun hm=>?_
      ·refine gX ?_;refine ca (bP hm O.has) fun r21 hm=>?_;refine gH ?_;refine O.stC 2 (.head _) [(n64 r21.one),(n64 r21.zero)] fun h O=>?_;refine gX ?_
       refine⟨_,au rfl rfl O.i0 rfl rfl (lbE rfl) rfl,?_⟩;conv=>whnf
       exact fe hm O
      ·refine gX ?_;refine br hm (fun hm=>?_) fun hm=>?_
       ·refine gX ?_;refine ix 2 hm fun x22 hx22 hm=>?_;refine gH ?_;refine⟨_,aI (l:=cl (encWd x22)) rfl O.i1 rfl rfl (cW (enc:=encWd) (s:=2) (k:=0) (fun _=>rfl) (ag hx22) (Nat.le_refl _)) (bX (enc:=encWd) (s:=2) (fun _=>rfl) hx22),?_⟩;refine gH ?_;refine O.stC 2 (.head _) [(n64 x22.one),(n64 x22.zero)] fun h O=>?_;refine gX ?_
        refine⟨_,au rfl rfl O.i0 rfl rfl (lbE rfl) rfl,?_⟩;conv=>whnf
        exact fe hm O
       ·refine gX ?_;refine br hm (fun hm=>?_) fun hm=>?_
        ·refine gX ?_;refine ix 2 hm fun x23 hx23 hm=>?_;refine gH ?_;refine⟨_,aI (l:=cl (encWd x23)) rfl O.i1 rfl rfl (cW (enc:=encWd) (s:=2) (k:=0) (fun _=>rfl) (ag hx23) (Nat.le_refl _)) (bX (enc:=encWd) (s:=2) (fun _=>rfl) hx23),?_⟩;refine gH ?_;refine ca (dr hm O.has) fun r24 hm=>?_;refine gH ?_;refine O.stC 2 (.head _) [(n64 r24.one),(n64 r24.zero)] fun h O=>?_;refine gX ?_
         refine⟨_,au rfl rfl O.i0 rfl rfl (lbE rfl) rfl,?_⟩;conv=>whnf
         exact fe hm O
        ·refine gX ?_;refine br hm (fun hm=>?_) fun hm=>?_
         ·refine gX ?_;obtain⟨hn26,hm⟩:=hm;refine O.Dq (fun _ hb=>mV hm hb) (.tail _ (.head _)) hn26 (fun _=>rfl) (i:=0) rfl (by kernel_rfl) (fun h2 q=>(LLe.cons (q) (LLe.nil _))) (fun r25 h hm' O=>?_);replace hm:=hm';refine gH ?_;refine O.stC 2 (.head _) [(n64 r25.one),(n64 r25.zero)] fun h O=>?_;refine gX ?_
          refine⟨_,au rfl rfl O.i0 rfl rfl (lbE rfl) rfl,?_⟩;conv=>whnf
          exact fe hm O
         ·refine gX ?_;refine br hm (fun hm=>?_) fun hm=>?_
          ·refine gX ?_;obtain⟨hn28,hm⟩:=hm;refine O.Dq (fun _ hb=>mV hm hb) (.tail _ (.head _)) hn28 (fun _=>rfl) (i:=0) rfl (by kernel_rfl) (fun h2 q=>(LLe.cons (q) (LLe.nil _))) (fun r27 h hm' O=>?_);replace hm:=hm';refine gH ?_;refine ca (dr hm O.has) fun r29 hm=>?_;refine gH ?_;refine O.stC 2 (.head _) [(n64 r29.one),(n64 r29.zero)] fun h O=>?_;refine gX ?_
           refine⟨_,au rfl rfl O.i0 rfl rfl (lbE rfl) rfl,?_⟩;conv=>whnf
           exact fe hm O
          ·refine gX ?_;refine br hm (fun hm=>?_) fun hm=>?_
           ·refine gX ?_;obtain⟨hn31,hm⟩:=hm;refine O.Dq (fun _ hb=>oA hm hb) (.tail _ (.head _)) hn31 (fun _=>rfl) (i:=0) rfl (by kernel_rfl) (fun h2 q=>(LLe.cons (q) (LLe.nil _))) (fun r30 h hm' O=>?_);replace hm:=hm';refine gH ?_;refine O.stC 2 (.head _) [(n64 r30.one),(n64 r30.zero)] fun h O=>?_;refine gX ?_
            refine⟨_,au rfl rfl O.i0 rfl rfl (lbE rfl) rfl,?_⟩;conv=>whnf
            exact fe hm O
           ·refine gX ?_;refine br hm (fun hm=>?_) fun hm=>?_
            ·refine gX ?_;obtain⟨hn33,hm⟩:=hm;refine O.Dq (fun _ hb=>oA hm hb) (.tail _ (.head _)) hn33 (fun _=>rfl) (i:=0) rfl (by kernel_rfl) (fun h2 q=>(LLe.cons (q) (LLe.nil _))) (fun r32 h hm' O=>?_);replace hm:=hm';refine gH ?_;refine ca (dr hm O.has) fun r34 hm=>?_;refine gH ?_;refine O.stC 2 (.head _) [(n64 r34.one),(n64 r34.zero)] fun h O=>?_;refine gX ?_
             refine⟨_,au rfl rfl O.i0 rfl rfl (lbE rfl) rfl,?_⟩;conv=>whnf
             exact fe hm O
            ·refine gX ?_;refine br hm (fun hm=>?_) fun hm=>?_
             ·refine gX ?_;obtain⟨hn36,hm⟩:=hm;refine O.Dq (fun _ hb=>nb hm hb) (.tail _ (.head _)) hn36 (fun _=>rfl) (i:=0) rfl (by kernel_rfl) (fun h2 q=>(LLe.cons (q) (LLe.nil _))) (fun r35 h hm' O=>?_);replace hm:=hm';refine gH ?_;refine O.stC 2 (.head _) [(n64 r35.one),(n64 r35.zero)] fun h O=>?_;refine gX ?_
              refine⟨_,au rfl rfl O.i0 rfl rfl (lbE rfl) rfl,?_⟩;conv=>whnf
              exact fe hm O
             ·refine gX ?_;refine br hm (fun hm=>?_) fun hm=>?_
              ·refine gX ?_;obtain⟨hn38,hm⟩:=hm;refine O.Dq (fun _ hb=>nb hm hb) (.tail _ (.head _)) hn38 (fun _=>rfl) (i:=0) rfl (by kernel_rfl) (fun h2 q=>(LLe.cons (q) (LLe.nil _))) (fun r37 h hm' O=>?_);replace hm:=hm';refine gH ?_;refine ca (dr hm O.has) fun r39 hm=>?_;refine gH ?_;refine O.stC 2 (.head _) [(n64 r39.one),(n64 r39.zero)] fun h O=>?_;refine gX ?_
               refine⟨_,au rfl rfl O.i0 rfl rfl (lbE rfl) rfl,?_⟩;conv=>whnf
               exact fe hm O
              ·refine gX ?_;refine br hm (fun hm=>?_) fun hm=>?_
               ·refine gX ?_;refine ix 2 hm fun x40 hx40 hm=>?_;refine gH ?_;refine⟨_,aI (l:=cl (encWd x40)) rfl O.i1 rfl rfl (cW (enc:=encWd) (s:=2) (k:=0) (fun _=>rfl) (ag hx40) (Nat.le_refl _)) (bX (enc:=encWd) (s:=2) (fun _=>rfl) hx40),?_⟩;refine gH ?_
                first|refine⟨.inr (.inr (aI (l:=cl (encWd x40)) rfl O.i1 rfl rfl (cW (enc:=encWd) (s:=2) (k:=0) (fun _=>rfl) (ag hx40) (Nat.le_refl _)) (bX (enc:=encWd) (s:=2) (fun _=>rfl) hx40))),?_⟩|refine⟨.inr (.inl (by kernel_rfl)),?_⟩
                refine gX ?_;refine ix 2 hm fun x41 hx41 hm=>?_;refine gH ?_;refine⟨_,aI (l:=cl (encWd x41)) rfl O.i1 rfl rfl (cW (enc:=encWd) (s:=2) (k:=0) (fun _=>rfl) (ag hx41) (Nat.le_refl _)) (bX (enc:=encWd) (s:=2) (fun _=>rfl) hx41),?_⟩;refine gH ?_
                first|refine⟨.inr (.inr (aI (l:=cl (encWd x41)) rfl O.i1 rfl rfl (cW (enc:=encWd) (s:=2) (k:=0) (fun _=>rfl) (ag hx41) (Nat.le_refl _)) (bX (enc:=encWd) (s:=2) (fun _=>rfl) hx41))),?_⟩|refine⟨.inr (.inl (by kernel_rfl)),?_⟩
                refine gX ?_;refine ix 2 hm fun x42 hx42 hm=>?_;refine gH ?_;refine⟨_,aI (l:=cl (encWd x42)) rfl O.i1 rfl rfl (cW (enc:=encWd) (s:=2) (k:=0) (fun _=>rfl) (ag hx42) (Nat.le_refl _)) (bX (enc:=encWd) (s:=2) (fun _=>rfl) hx42),?_⟩;refine gH ?_
                first|refine⟨.inr (.inr (aI (l:=cl (encWd x42)) rfl O.i1 rfl rfl (cW (enc:=encWd) (s:=2) (k:=0) (fun _=>rfl) (ag hx42) (Nat.le_refl _)) (bX (enc:=encWd) (s:=2) (fun _=>rfl) hx42))),?_⟩|refine⟨.inr (.inl (by kernel_rfl)),?_⟩
                refine gX ?_;refine ca (tJ hm O.has) fun r43 hm=>?_;refine gH ?_;refine⟨.inl (Ext.refl _),?_⟩;refine gH ?_;refine O.stC 2 (.head _) [(n64 r43.one),(n64 r43.zero)] fun h O=>?_;refine gH ?_;refine gX ?_
                refine⟨_,au rfl rfl O.i0 rfl rfl (lbE rfl) rfl,?_⟩;conv=>whnf
                exact fe hm O
               ·refine gX ?_;refine br hm (fun hm=>?_) fun hm=>?_
                ·refine gX ?_;refine ix 2 hm fun x44 hx44 hm=>?_;refine gH ?_;refine⟨_,aI (l:=cl (encWd x44)) rfl O.i1 rfl rfl (cW (enc:=encWd) (s:=2) (k:=0) (fun _=>rfl) (ag hx44) (Nat.le_refl _)) (bX (enc:=encWd) (s:=2) (fun _=>rfl) hx44),?_⟩;refine gH ?_
                 first|refine⟨.inr (.inr (aI (l:=cl (encWd x44)) rfl O.i1 rfl rfl (cW (enc:=encWd) (s:=2) (k:=0) (fun _=>rfl) (ag hx44) (Nat.le_refl _)) (bX (enc:=encWd) (s:=2) (fun _=>rfl) hx44))),?_⟩|refine⟨.inr (.inl (by kernel_rfl)),?_⟩
                 refine gX ?_;refine ix 2 hm fun x45 hx45 hm=>?_;refine gH ?_;refine⟨_,aI (l:=cl (encWd x45)) rfl O.i1 rfl rfl (cW (enc:=encWd) (s:=2) (k:=0) (fun _=>rfl) (ag hx45) (Nat.le_refl _)) (bX (enc:=encWd) (s:=2) (fun _=>rfl) hx45),?_⟩;refine gH ?_
                 first|refine⟨.inr (.inr (aI (l:=cl (encWd x45)) rfl O.i1 rfl rfl (cW (enc:=encWd) (s:=2) (k:=0) (fun _=>rfl) (ag hx45) (Nat.le_refl _)) (bX (enc:=encWd) (s:=2) (fun _=>rfl) hx45))),?_⟩|refine⟨.inr (.inl (by kernel_rfl)),?_⟩
                 refine gX ?_;refine ca (uH hm O.has) fun r46 hm=>?_;refine gH ?_;refine⟨.inl (Ext.refl _),?_⟩;refine gH ?_;refine O.stC 2 (.head _) [(n64 r46.one),(n64 r46.zero)] fun h O=>?_;refine gH ?_;refine gX ?_
                 refine⟨_,au rfl rfl O.i0 rfl rfl (lbE rfl) rfl,?_⟩;conv=>whnf
                 exact fe hm O
                ·refine gX ?_;refine ca (bP hm O.has) fun r47 hm=>?_;refine gH ?_;refine O.stC 2 (.head _) [(n64 r47.one),(n64 r47.zero)] fun h O=>?_;refine gX ?_
                 refine⟨_,au rfl rfl O.i0 rfl rfl (lbE rfl) rfl,?_⟩;conv=>whnf
                 exact fe hm O
def cP (p0:Wd) (p1:Nat) (p2:Nat) (K:Wd->Prop):Prop :=
 p1<=63/\bU p2 (fun r3=>K (⟨(bM (aU p0.one (cz 1 p1)) (aB r3.one (cz 1 p1))),(bM (aU p0.zero (cz 1 p1)) (aB r3.zero (cz 1 p1)))⟩:Wd))
theorem ja {p0:Wd}{p1:Nat}{p2:Nat}{K:Wd->Prop} (hm:cP p0 p1 p2 K) {h0:Heap} (hB:HasB vars h0):∃ r,K r/\CallD Tryz.prog NG 131 ⟨[encWd p0,i64 p1,n8 p2]⟩ h0 (encWd r) h0:=by
 unfold cP at hm
 refine fw Tryz.func131 hB (enc:=encWd) (fun r=>dO _) fun O=>?_;conv=>whnf
 refine gX ?_;refine fz ?_;refine gH ?_;refine O.new (ai (l:=[(n64 0),(n64 0)]) rfl rfl rfl) fun g1 h O=>?_;refine gH ?_;refine gX ?_;refine Ik (a:=1) (b:=p1) hm fun hm=>?_;refine gX ?_;refine ca (bP hm O.has) fun r3 hm=>?_;refine gH ?_;refine O.new (ai (l:=[(n64 0),(n64 0)]) rfl rfl rfl) fun g4 h O=>?_;refine gH ?_;refine O.stC 2 (.head _) [(n64 r3.one),(n64 r3.zero)] fun h O=>?_;refine gX ?_;refine jg (a:=p0.one) (b:=(cz 1 p1)) ?_;refine gH ?_;refine eV (a:=r3.one) (b:=(cz 1 p1)) ?_;refine gH ?_;refine lF (a:=(aU p0.one (cz 1 p1))) (b:=(aB r3.one (cz 1 p1))) ?_;refine gH ?_;refine jg (a:=p0.zero) (b:=(cz 1 p1)) ?_;refine gH ?_;refine eV (a:=r3.zero) (b:=(cz 1 p1)) ?_;refine gH ?_;refine lF (a:=(aU p0.zero (cz 1 p1))) (b:=(aB r3.zero (cz 1 p1))) ?_;refine gH ?_;refine O.stC 2 (.tail _ (.head _)) [(n64 (bM (aU p0.one (cz 1 p1)) (aB r3.one (cz 1 p1)))),(n64 (bM (aU p0.zero (cz 1 p1)) (aB r3.zero (cz 1 p1))))] fun h O=>?_;refine gX ?_
 refine⟨_,au rfl rfl O.i1 rfl rfl (lbE rfl) rfl,?_⟩;conv=>whnf
 exact fe hm O
def bG (p0:(List Wd)) (p1:(List Wd)) (K:Nat->Prop):Prop :=
 an (α:=Nat) (fun k2=>aF (S:=(Nat×Nat)) (fun (v3,v4) nx5=>((ltN v4 p0.length)=true->∃ x6,p0[v4]?=some x6/\∃ x7,p1[v4]?=some x7/\v4+1<2 ^ 63/\nx5 ((bM v3 (bM (aU (aB (aU x6.one x6.zero) x7.zero) x7.one) (aU (aB (aU x6.zero x6.one) x7.one) x7.zero))),(v4+1)))/\((ltN v4 p0.length)=false->k2 v3)) (0,0)) (fun v1=>K v1)
theorem lk {p0:(List Wd)}{p1:(List Wd)}{K:Nat->Prop} (hm:bG p0 p1 K) {h0:Heap} (hB:HasB vars h0):∃ r,K r/\CallD Tryz.prog NG 60 ⟨[(ah 2 encWd) p0,(ah 2 encWd) p1]⟩ h0 (n64 r) h0:=by
 unfold bG at hm
 refine fw Tryz.func60 hB (enc:=n64) (fun r=>PureV.flat rfl) fun O=>?_;conv=>whnf
 apply Cs;conv=>whnf
 apply Cs;refine gH ?_;refine jn hm 48 [] (fun s=>s) (fun v1 h=>Own vars h0 [] h) (fun v1=>[(4,(n64 v1))]) (fun hm=>?_) ?_
 ·refine gX ?_;refine lw 48 [0,1,9] (σ:=(Nat×Nat)) (fun s=>s) (fun (v3,v4) h=>Own vars h0 [] h) (fun (v3,v4)=>[(4,(n64 v3)),(10,(i64 v4))]) (0,0) hm O ?_;clear hm;rintro⟨v3,v4⟩ nx5 base h hm O;refine gX ?_;refine br hm (fun hm=>?_) fun hm=>?_
  ·apply Cs;conv=>whnf
   apply Cs;conv=>whnf
   apply Cs;conv=>whnf
   apply Cs;conv=>whnf
   apply Cs;refine gH ?_
   apply Cs;conv=>whnf
   refine CodeS.rH ?_;refine gH ?_;refine atF hm fun x6 hx6 hm=>?_;refine gH ?_;refine atF hm fun x7 hx7 hm=>?_;refine gH ?_;refine O.AK (ai (l:=[(n64 0),(n64 0)]) rfl rfl rfl) fun g8 h O=>?_;refine gH ?_;refine O.AK (ai (l:=[(n64 0),(n64 0)]) rfl rfl rfl) fun g10 h O=>?_;refine gH ?_;refine O.stC 2 (.tail _ (.head _)) [(n64 x6.one),(n64 x6.zero)] fun h O=>?_;refine gH ?_;refine O.stC 2 (.head _) [(n64 x7.one),(n64 x7.zero)] fun h O=>?_;refine gX ?_;refine jg (a:=x6.one) (b:=x6.zero) ?_;refine gH ?_;refine eV (a:=(aU x6.one x6.zero)) (b:=x7.zero) ?_;refine gH ?_;refine jg (a:=(aB (aU x6.one x6.zero) x7.zero)) (b:=x7.one) ?_;refine gH ?_;refine jg (a:=x6.zero) (b:=x6.one) ?_;refine gH ?_;refine eV (a:=(aU x6.zero x6.one)) (b:=x7.one) ?_;refine gH ?_;refine jg (a:=(aB (aU x6.zero x6.one) x7.one)) (b:=x7.zero) ?_;refine gH ?_;refine lF (a:=(aU (aB (aU x6.one x6.zero) x7.zero) x7.one)) (b:=(aU (aB (aU x6.zero x6.one) x7.one) x7.zero)) ?_;refine gH ?_;refine lF (a:=v3) (b:=(bM (aU (aB (aU x6.one x6.zero) x7.zero) x7.one) (aU (aB (aU x6.zero x6.one) x7.one) x7.zero))) ?_;refine gX ?_;refine aH hm fun hm=>?_;refine gH ?_;exact jx ((bM v3 (bM (aU (aB (aU x6.one x6.zero) x7.zero) x7.one) (aU (aB (aU x6.zero x6.one) x7.one) x7.zero))),(v4+1)) hm (O.sel [] (by decide))
  ·refine gX ?_;exact jx v3 hm O
 ·clear hm;rintro v1 base h hm O;refine gX ?_;exact fe hm O
def cp (p0:Circ) (p1:(List Flt)) (p2:(List Pat)) (K:Nat->Prop):Prop :=
 an (α:=Bool) (fun k2=>((ltN 65536 p1.length)=true->k2 true)/\((ltN 65536 p1.length)=false->k2 (ltN 4096 p2.length))) (fun v1=>(v1=true->K 3)/\(v1=false->cb p0 (fun r3=>((neN r3.2 0)=true->K r3.2)/\((neN r3.2 0)=false->an (α:=Unit) (fun k4=>aF (S:=Nat) (fun v5 nx6=>((ltN v5 p1.length)=true->∃ x7,p1[v5]?=some x7/\faults_Check_wp p0 x7 (fun r10=>((neN r10 0)=true->K r10)/\((neN r10 0)=false->((eqN x7.model 1)=true->K 7)/\((eqN x7.model 1)=false->v5+1<2 ^ 63/\nx6 (v5+1)))))/\((ltN v5 p1.length)=false->k4 ())) 0) (fun _=>an (α:=Unit) (fun k11=>aF (S:=Nat) (fun v12 nx13=>((ltN v12 p2.length)=true->∃ x14,p2[v12]?=some x14/\fj p0 x14 (fun r17=>((neN r17 0)=true->K r17)/\((neN r17 0)=false->v12+1<2 ^ 63/\nx13 (v12+1))))/\((ltN v12 p2.length)=false->k11 ())) 0) (fun _=>K 0))))))
theorem iV {p0:Circ}{p1:(List Flt)}{p2:(List Pat)}{K:Nat->Prop} (hm:cp p0 p1 p2 K) {h0:Heap} (hB:HasB vars h0):∃ r,K r/\CallD Tryz.prog NG 55 ⟨[ar p0,(ah 5 az) p1,(ah 2 aP) p2]⟩ h0 (i64 r) h0:=by
 unfold cp at hm
 refine fw Tryz.func55 hB (enc:=i64) (fun r=>PureV.flat rfl) fun O=>?_;conv=>whnf
 refine gX ?_;refine fz ?_;refine gH ?_
 apply Cs;conv=>whnf
 refine jn hm 60 [1,2,3] (fun s=>s) (fun v1 h=>Own vars h0 [] h) (fun v1=>[(22,(.bool v1))]) (fun hm=>?_) ?_
 ·refine gX ?_;refine br hm (fun hm=>?_) fun hm=>?_
  ·refine gX ?_;exact jx true hm O
  ·refine gX ?_;exact jx (ltN 4096 p2.length) hm O
 ·clear hm;rintro v1 base h hm O;refine gX ?_;refine br hm (fun hm=>?_) fun hm=>?_
  ·refine gX ?_;exact fe hm O
  ·refine gX ?_;refine ca (gK hm O.has) fun r3 hm=>?_;refine gX ?_;refine br hm (fun hm=>?_) fun hm=>?_
   ·refine gX ?_;exact fe hm O
   ·apply Cs;conv=>whnf
    refine jn hm 60 [2,3] (fun s=>s) (fun _ h=>Own vars h0 [] h) (fun _=>[]) (fun hm=>?_) ?_
    ·refine gX ?_;refine lw 60 [2,3,31,32] (σ:=Nat) (fun s=>s) (fun v5 h=>Own vars h0 [] h) (fun v5=>[(33,(i64 v5))]) 0 hm O ?_;clear hm;rintro v5 nx6 base h hm O;refine gX ?_;refine br hm (fun hm=>?_) fun hm=>?_
     ·refine gX ?_;refine atF hm fun x7 hx7 hm=>?_;refine gH ?_;refine O.new (ai (l:=[(n8 0),(i64 0),(z64 0),(n8 0),(i64 0)]) rfl rfl rfl) fun g8 h O=>?_;refine gH ?_;refine O.stC 5 (.head _) [(n8 x7.model),(i64 x7.line.node),(z64 x7.line.pin),(n8 x7.value),(i64 x7.other)] fun h O=>?_;refine gX ?_;refine ldA O.i0 ?_;refine gH ?_;refine ca (km hm O.has) fun r10 hm=>?_;refine gX ?_;refine br hm (fun hm=>?_) fun hm=>?_
      ·refine gX ?_;exact fe hm O
      ·refine gX ?_;refine br hm (fun hm=>?_) fun hm=>?_
       ·refine gX ?_;exact fe hm O
       ·refine gX ?_;refine aH hm fun hm=>?_;refine gH ?_;exact jx (v5+1) hm (O.sel [] (by decide))
     ·refine gX ?_;exact jx () hm O
    ·clear hm;rintro _ base h hm O
     conv=>whnf
     refine jn hm 60 [] (fun s=>s) (fun _ h=>Own vars h0 [] h) (fun _=>[]) (fun hm=>?_) ?_
     ·refine gX ?_;refine lw 60 [3,47,48] (σ:=Nat) (fun s=>s) (fun v12 h=>Own vars h0 [] h) (fun v12=>[(49,(i64 v12))]) 0 hm O ?_;clear hm;rintro v12 nx13 base h hm O;refine gX ?_;refine br hm (fun hm=>?_) fun hm=>?_
      ·refine gX ?_;refine atF hm fun x14 hx14 hm=>?_;refine gH ?_;refine O.new (ai (l:=[nS,nS]) rfl rfl rfl) fun g15 h O=>?_;refine gH ?_;refine O.stC 2 (.head _) [((ah 1 n8) x14.inp),((ah 1 n8) x14.state)] fun h O=>?_;refine gX ?_;refine ldA O.i0 ?_;refine gH ?_;refine ca (sw hm O.has) fun r17 hm=>?_;refine gX ?_;refine br hm (fun hm=>?_) fun hm=>?_
       ·refine gX ?_;exact fe hm O
       ·refine gX ?_;refine aH hm fun hm=>?_;refine gH ?_;exact jx (v12+1) hm (O.sel [] (by decide))
      ·refine gX ?_;exact jx () hm O
     ·clear hm;rintro _ base h hm O;refine gX ?_;exact fe hm O
set_option maxHeartbeats 8000000
def wL (_p0:Nat) (p1:Wd) (K:Wd->Prop):Prop :=
 K p1
theorem Ax {p0:Nat}{p1:Wd}{K:Wd->Prop} (hm:wL p0 p1 K) {h0:Heap} (hB:HasB vars h0):∃ r,K r/\CallD Tryz.prog NG 123 ⟨[i64 p0,encWd p1]⟩ h0 (encWd r) h0:=by
 unfold wL at hm
 refine fw Tryz.func123 hB (enc:=encWd) (fun r=>dO _) fun O=>?_;conv=>whnf
 refine gX ?_;refine fz ?_;refine gH ?_;refine O.new (ai (l:=[(n64 0),(n64 0)]) rfl rfl rfl) fun g1 h O=>?_;refine gH ?_;refine gX ?_;refine O.stC 2 (.head _) [(n64 p1.one),(n64 p1.zero)] fun h O=>?_;refine gX ?_
 refine⟨_,au rfl rfl O.i0 rfl rfl (lbE rfl) rfl,?_⟩;conv=>whnf
 exact fe hm O
def xd (_p0:Nat) (_p1:Nat) (p2:Wd) (K:Wd->Prop):Prop :=
 K p2
theorem yI {p0:Nat}{p1:Nat}{p2:Wd}{K:Wd->Prop} (hm:xd p0 p1 p2 K) {h0:Heap} (hB:HasB vars h0):∃ r,K r/\CallD Tryz.prog NG 124 ⟨[i64 p0,i64 p1,encWd p2]⟩ h0 (encWd r) h0:=by
 unfold xd at hm
 refine fw Tryz.func124 hB (enc:=encWd) (fun r=>dO _) fun O=>?_;conv=>whnf
 refine gX ?_;refine fz ?_;refine gH ?_;refine O.new (ai (l:=[(n64 0),(n64 0)]) rfl rfl rfl) fun g1 h O=>?_;refine gH ?_;refine gX ?_;refine O.stC 2 (.head _) [(n64 p2.one),(n64 p2.zero)] fun h O=>?_;refine gX ?_
 refine⟨_,au rfl rfl O.i0 rfl rfl (lbE rfl) rfl,?_⟩;conv=>whnf
 exact fe hm O
def rA (p0:Nat) (p1:Nat) (p2:Wd) (f:Flt) (x:Wd) (K:Wd->Prop):Prop :=
 an (α:=Bool) (fun k4=>((eqN p0 f.line.node)=true->k4 (eqZ (Int.ofNat p1) f.line.pin))/\((eqN p0 f.line.node)=false->k4 false)) (fun v3=>(v3=true->K x)/\(v3=false->K p2))
theorem zS {p0:Nat}{p1:Nat}{p2:Wd}{f:Flt}{x:Wd}{K:Wd->Prop} (hm:rA p0 p1 p2 f x K) {h0:Heap} (hB:HasB vars h0):∃ r,K r/\CallD Tryz.prog NG 263 ⟨[i64 p0,i64 p1,encWd p2,FP (az f),FP (encWd x)]⟩ h0 (encWd r) h0:=by
 unfold rA at hm
 refine fw Tryz.func263 hB (enc:=encWd) (fun r=>dO _) fun O=>?_;conv=>whnf
 refine gX ?_;refine fz ?_;refine gH ?_;refine O.new (ai (l:=[(n64 0),(n64 0)]) rfl rfl rfl) fun g1 h O=>?_;refine gH ?_
 apply Cs;conv=>whnf
 refine jn hm 23 [4,7,8] (fun s=>s) (fun v3 h=>Own vars h0 [(sC g1 [(n64 0),(n64 0)])] h) (fun v3=>[(20,(.bool v3))]) (fun hm=>?_) ?_
 ·refine gX ?_;refine br hm (fun hm=>?_) fun hm=>?_
  ·refine gX ?_;exact jx (eqZ (Int.ofNat p1) f.line.pin) hm O
  ·refine gX ?_;exact jx false hm O
 ·clear hm;rintro v3 base h hm O;refine gX ?_;refine br hm (fun hm=>?_) fun hm=>?_
  ·refine gX ?_;refine O.stC 2 (.head _) [(n64 x.one),(n64 x.zero)] fun h O=>?_;refine gX ?_
   refine⟨_,au rfl rfl O.i0 rfl rfl (lbE rfl) rfl,?_⟩;conv=>whnf
   exact fe hm O
  ·refine gX ?_;refine O.stC 2 (.head _) [(n64 p2.one),(n64 p2.zero)] fun h O=>?_;refine gX ?_
   refine⟨_,au rfl rfl O.i0 rfl rfl (lbE rfl) rfl,?_⟩;conv=>whnf
   exact fe hm O
def qz (p0:Nat) (p1:Wd) (f:Flt) (x:Wd) (K:Wd->Prop):Prop :=
 an (α:=Bool) (fun k4=>((eqN p0 f.line.node)=true->k4 true)/\((eqN p0 f.line.node)=false->((eqN f.model 2)=true->k4 (eqN p0 f.other))/\((eqN f.model 2)=false->k4 false))) (fun v3=>(v3=true->K x)/\(v3=false->K p1))
theorem zZ {p0:Nat}{p1:Wd}{f:Flt}{x:Wd}{K:Wd->Prop} (hm:qz p0 p1 f x K) {h0:Heap} (hB:HasB vars h0):∃ r,K r/\CallD Tryz.prog NG 264 ⟨[i64 p0,encWd p1,FP (az f),FP (encWd x)]⟩ h0 (encWd r) h0:=by
 unfold qz at hm
 refine fw Tryz.func264 hB (enc:=encWd) (fun r=>dO _) fun O=>?_;conv=>whnf
 refine gX ?_;refine fz ?_;refine gH ?_;refine O.new (ai (l:=[(n64 0),(n64 0)]) rfl rfl rfl) fun g1 h O=>?_;refine gH ?_
 apply Cs;conv=>whnf
 refine jn hm 25 [3,5,6] (fun s=>s) (fun v3 h=>Own vars h0 [(sC g1 [(n64 0),(n64 0)])] h) (fun v3=>[(22,(.bool v3))]) (fun hm=>?_) ?_
 ·refine gX ?_;refine br hm (fun hm=>?_) fun hm=>?_
  ·refine gX ?_;exact jx true hm O
  ·refine gX ?_;refine br hm (fun hm=>?_) fun hm=>?_
   ·refine gX ?_;exact jx (eqN p0 f.other) hm O
   ·refine gX ?_;exact jx false hm O
 ·clear hm;rintro v3 base h hm O;refine gX ?_;refine br hm (fun hm=>?_) fun hm=>?_
  ·refine gX ?_;refine O.stC 2 (.head _) [(n64 x.one),(n64 x.zero)] fun h O=>?_;refine gX ?_
   refine⟨_,au rfl rfl O.i0 rfl rfl (lbE rfl) rfl,?_⟩;conv=>whnf
   exact fe hm O
  ·refine gX ?_;refine O.stC 2 (.head _) [(n64 p1.one),(n64 p1.zero)] fun h O=>?_;refine gX ?_
   refine⟨_,au rfl rfl O.i0 rfl rfl (lbE rfl) rfl,?_⟩;conv=>whnf
   exact fe hm O
theorem dG {α:Type}{first:(α->Prop)->Prop}{rest:α->Prop} (P:α->Prop) (h1:∀ k,(∀ a,P a->k a)->first k) (h2:∀ a,P a->rest a):an first rest:=h1 rest h2
theorem dM {α:Type}{a:α}{first:(α->Prop)->Prop}{rest:α->Prop} (h1:rest a->first rest) (h2:rest a):an first rest:=h1 h2
def ve (e d:Nat):Nat:=if e=0 then 3 else if e=1 then min d 2 else 2
def xO (v:Nat):Nat:=if 3<v then 2 else v
def I3 (l:List Nat):Option Nat:=l.findIdx? fun v=>v != 3
def xu (l:List Nat):Nat:=match I3 l with
 |none=>3
 |some i=>if (l.contains 0&&l.contains 1)||l.any (fun v=>xO v==2) then 2 else l.getD i 0
def jP (k:Nat) (l:List Nat):Nat:=if k=12 then ve (l.getD 0 0) (l.getD 1 0) else if k=13 then xu l else zd k l
theorem Fh (i:Nat):(!ltI (Int.ofNat i) (Int.ofNat 0))=true:=by
 have:ltI (Int.ofNat i) (Int.ofNat 0)=false:=sn.2 (Int.natCast_nonneg i);rw[this];rfl
theorem DN {n:Nat} (h:Arity 12 n):n=2:=by
 obtain⟨h1,h2⟩:=h
 have e1:loN 12=2:=by decide
 have e2:hiZ 12=2:=by decide
 rw[e1] at h1;rw[e2] at h2;simp only[Int.ofNat_eq_natCast] at h2;omega
theorem vZ {n:Nat} (h:Arity 14 n):n=1:=by
 obtain⟨h1,h2⟩:=h
 have e1:loN 14=1:=by decide
 have e2:hiZ 14=1:=by decide
 rw[e1] at h1;rw[e2] at h2;simp only[Int.ofNat_eq_natCast] at h2;omega
theorem Ez (k:Nat) (l:List Nat):zd k l<=2:=by
 have hn:∀ v,lu v<=2:=fun v=>by unfold lu;split <;> omega
 have hx:∀ (l:List Nat) (o:Nat),o<=1->lN l o<=2:=by
  intro l
  induction l with
  |nil=>intro o ho;unfold lN;omega
  |cons v r ih =>
   intro o ho;unfold lN;split
   ·refine ih _ ?_
    have q1:o=0\/o=1:=by omega
    have q2:v=0\/v=1:=by omega
    rcases q1 with rfl|rfl <;> rcases q2 with rfl|rfl <;> decide
   ·omega
 have hd:∀ (low high:Nat) (l:List Nat) (o:Nat),low<=2->o<=2->cV low high l o<=2:=by
  intro low high l
  induction l with
  |nil=>intro o h1 h2;exact h2
  |cons v r ih =>
   intro o h1 h2;unfold cV;split
   ·exact h1
   ·refine ih _ h1 ?_;split
    ·exact h2
    ·omega
 unfold zd
 repeat' split
 all_goals first|omega|exact hn _|exact hd _ _ _ _ (by decide) (by decide) | exact hx _ _ (by decide) | (unfold tX;repeat' split) <;> omega
theorem E8 (k:Nat) {l:List Nat} (hl:∀ v∈l,v<=3):jP k l<=3:=by
 unfold jP;split
 ·unfold ve;repeat' split
  all_goals omega
 split
 ·unfold xu;split
  ·omega
  ·split
   ·omega
   ·rename_i i hi _;obtain⟨h1,h2,_⟩:=List.findIdx?_eq_some_iff_getElem.1 hi;rw[List.getD,List.getElem?_eq_getElem h1];exact hl _ (List.getElem_mem h1)
 ·have:=Ez k l;omega
structure CloN where
 fn:FuncId
 caps:List Value
 F:Nat->Wd->Wd
 pure:AllPure caps
 ok:∀ (n:Nat) (w:Wd) {h:Heap},HasB vars h->CallD Tryz.prog NG fn ⟨i64 n::encWd w::caps⟩ h (encWd (F n w)) h
def iF (x:CloN):Value:=.func (.func x.fn) ⟨[]⟩ ⟨x.caps⟩
structure CloP where
 fn:FuncId
 caps:List Value
 F:Nat->Nat->Wd->Wd
 pure:AllPure caps
 ok:∀ (n j:Nat) (w:Wd) {h:Heap},HasB vars h->CallD Tryz.prog NG fn ⟨i64 n::i64 j::encWd w::caps⟩ h (encWd (F n j w)) h
def iI (x:CloP):Value:=.func (.func x.fn) ⟨[]⟩ ⟨x.caps⟩
theorem DH (x:CloN):PureV (iF x):=PureV.func AllPure.nil x.pure
theorem C8 (x:CloP):PureV (iI x):=PureV.func AllPure.nil x.pure
structure Eng where
 circ:Circ
 order:List Nat
 ins:List Nat
 state:List Nat
 net:CloN
 pin:CloP
def kG (x:Eng):Value:=.agg ⟨cl (ar x.circ)++[ah 1 i64 x.order,ah 1 i64 x.ins,ah 1 i64 x.state,iF x.net,iI x.pin]⟩
theorem rh (l:List Nat):PureV (ah 1 i64 l):=cF fun _=>AllPure.cons (PureV.flat rfl) AllPure.nil
theorem Dw (x:Eng):AllPure (cl (kG x)):=(tA x.circ).append (AllPure.cons (rh _) (AllPure.cons (rh _) (AllPure.cons (rh _) (AllPure.cons (DH _) (AllPure.cons (C8 _) AllPure.nil)))))
theorem zg (x:Eng):PureV (kG x):=PureV.agg (Dw x)
theorem sP {f:FuncId}{vs:Array Value}{r:Wd}{h:Heap} (w:∃ q,r=q/\CallD Tryz.prog NG f vs h (encWd q) h):CallD Tryz.prog NG f vs h (encWd r) h:=by
 obtain⟨q,rfl,c⟩:=w;exact c
def G4:CloN where
 fn:=123
 caps:=[]
 F:=fun _ w=>w
 pure:=AllPure.nil
 ok:=fun n w _ hB=>sP (Ax (p0:=n) (p1:=w) rfl hB)
def GM:CloP where
 fn:=124
 caps:=[]
 F:=fun _ _ w=>w
 pure:=AllPure.nil
 ok:=fun n j w _ hB=>sP (yI (p0:=n) (p1:=j) (p2:=w) rfl hB)
def F3 (f:Flt) (x:Wd):Nat->Nat->Wd->Wd:=fun n j w=>if n=f.line.node/\Int.ofNat j=f.line.pin then x else w
def ES (f:Flt) (x:Wd):Nat->Wd->Wd:=fun n w=>if n=f.line.node\/(f.model=2/\n=f.other) then x else w
theorem Cy (f:Flt) (x:Wd):AllPure [FP (az f),FP (encWd x)]:=AllPure.cons (PureV.fp (nO f)) (AllPure.cons (PureV.fp (kM x)) AllPure.nil)
def H7 (f:Flt) (x:Wd):CloP where
 fn:=263
 caps:=[FP (az f),FP (encWd x)]
 F:=F3 f x
 pure:=Cy f x
 ok:=fun n j w _ hB=>sP (zS (p0:=n) (p1:=j) (p2:=w) (f:=f) (x:=x) (by
  unfold rA
  refine dG (fun b=>b=decide (n=f.line.node/\Int.ofNat j=f.line.pin)) (fun k hk=>⟨fun q=>hk _ ?_,fun q=>hk _ ?_⟩) fun b hb=>⟨fun q=>?_,fun q=>?_⟩
  ·have q:=dA.1 q
   rw[Bool.eq_iff_iff,Ea]
   simp[q]
  ·have q:=cY.1 q
   simp[q]
  ·rw[q] at hb
   exact if_pos (of_decide_eq_true hb.symm)
  ·rw[q] at hb
   exact if_neg (of_decide_eq_false hb.symm)) hB)
def Io (f:Flt) (x:Wd):CloN where
 fn:=264
 caps:=[FP (az f),FP (encWd x)]
 F:=ES f x
 pure:=Cy f x
 ok:=fun n w _ hB=>sP (zZ (p0:=n) (p1:=w) (f:=f) (x:=x) (by
  unfold qz
  refine dG (fun b=>b=decide (n=f.line.node\/(f.model=2/\n=f.other))) (fun k hk=>⟨fun q=>hk _ ?_,fun q=>⟨fun q2=>hk _ ?_,fun q2=>hk _ ?_⟩⟩) fun b hb=>⟨fun q=>?_,fun q=>?_⟩
  ·have q:=dA.1 q
   simp[q]
  ·have q:=cY.1 q
   have q2:=dA.1 q2
   rw[Bool.eq_iff_iff,dA]
   simp[q,q2]
  ·have q:=cY.1 q
   have q2:=cY.1 q2
   simp[q,q2]
  ·rw[q] at hb
   exact if_pos (of_decide_eq_true hb.symm)
  ·rw[q] at hb
   exact if_neg (of_decide_eq_false hb.symm)) hB)
set_option maxHeartbeats 8000000
def cu (p0:Circ) (K:Eng->Prop):Prop :=
 dc p0 (fun r3=>cS p0 (fun r4=>cN p0 (fun r5=>K (⟨p0,r3.1,r4,r5,(G4),(GM)⟩:Eng))))
theorem iT {p0:Circ}{K:Eng->Prop} (hm:cu p0 K) {h0:Heap} (hB:HasB vars h0):∃ r,K r/\CallD Tryz.prog NG 56 ⟨[ar p0]⟩ h0 (kG r) h0:=by
 unfold cu at hm
 refine fw Tryz.func56 hB (enc:=kG) (fun r=>zg _) fun O=>?_;conv=>whnf
 refine gX ?_;refine fz ?_;refine gH ?_;refine O.new (ai (l:=[(.slice none 0 0),(.slice none 0 0),(.slice none 0 0),(.slice none 0 0),(.slice none 0 0),(.slice none 0 0),(.slice none 0 0),.nilFunc,.nilFunc]) rfl rfl rfl) fun g1 h O=>?_;refine gH ?_;refine gX ?_;refine ca (og hm O.has) fun r3 hm=>?_;refine gX ?_;refine dF ?_;refine gX ?_;refine dF ?_;refine gX ?_;refine ca (iP hm O.has) fun r4 hm=>?_;refine gH ?_;refine⟨.inl (Ext.refl _),?_⟩;refine gH ?_;refine dF ?_;refine gX ?_;refine ca (iY hm O.has) fun r5 hm=>?_;refine gH ?_;refine⟨.inl (Ext.refl _),?_⟩;refine gH ?_;refine O.stC 9 (.head _) [((ah 4 aj) p0.nodes),((ah 1 Value.string) p0.names),((ah 3 aD) p0.mems),((ah 1 i64) p0.outs),((ah 1 i64) r3.1),((ah 1 i64) r4),((ah 1 i64) r5),(.func (.func 123) ⟨[]⟩ ⟨[]⟩),(.func (.func 124) ⟨[]⟩ ⟨[]⟩)] fun h O=>?_;refine gH ?_;refine gX ?_
 refine⟨_,au rfl rfl O.i0 rfl rfl (lbE rfl) rfl,?_⟩;conv=>whnf
 exact fe hm O
def aK (p0:Eng) (p1:(List Wd)) (p2:(List Wd)) (K:((List Wd)×(List Wd))->Prop):Prop :=
 16*p0.circ.nodes.length<=2 ^ 48/\p0.circ.nodes.length<2 ^ 63/\an (α:=(List Wd)) (fun k5=>aF (S:=((List Wd)×Nat)) (fun (v6,v7) nx8=>((ltN v7 p0.ins.length)=true->∃ x9,p0.ins[v7]?=some x9/\∃ x10,p1[v7]?=some x10/\x9<p0.circ.nodes.length/\∃ x11,v6[x9]?=some x11/\v7+1<2 ^ 63/\nx8 ((v6.set x9 x10),(v7+1)))/\((ltN v7 p0.ins.length)=false->k5 v6)) ((List.replicate p0.circ.nodes.length ((⟨0,0⟩:Wd):Wd)),0)) (fun v4=>an (α:=(List Wd)) (fun k13=>aF (S:=((List Wd)×Nat)) (fun (v14,v15) nx16=>((ltN v15 p0.state.length)=true->∃ x17,p0.state[v15]?=some x17/\∃ x18,p2[v15]?=some x18/\x17<p0.circ.nodes.length/\∃ x19,v14[x17]?=some x19/\v15+1<2 ^ 63/\nx16 ((v14.set x17 x18),(v15+1)))/\((ltN v15 p0.state.length)=false->k13 v14)) (v4,0)) (fun v12=>an (α:=(List Wd)) (fun k21=>aF (S:=((List Wd)×Nat)) (fun (v22,v23) nx24=>((ltN v23 p0.order.length)=true->∃ x25,p0.order[v23]?=some x25/\an (α:=(List Wd)) (fun k27=>∃ x28,p0.circ.nodes[x25]?=some x28/\an (α:=Bool) (fun k30=>((neN x28.kind 0)=true->k30 (neN x28.kind 14))/\((neN x28.kind 0)=false->k30 false)) (fun v29=>(v29=true->an (α:=(List Wd)) (fun k36=>∃ x37,p0.circ.nodes[x25]?=some x37/\aF (S:=((List Wd)×Nat)) (fun (v39,v40) nx42=>((ltN v40 x37.ins.length)=true->∃ x43,x37.ins[v40]?=some x43/\x43<p0.circ.nodes.length/\∃ x44,v22[x43]?=some x44/\(v39.length+([(p0.pin.F x25 v40 x44)]:(List Wd)).length)*16<=2 ^ 47/\v40+1<2 ^ 63/\nx42 ((v39++([(p0.pin.F x25 v40 x44)]:(List Wd))),(v40+1)))/\((ltN v40 x37.ins.length)=false->k36 v39)) (([]:List Wd),0)) (fun v34=>ft x28.kind v34 (fun r49=>x25<p0.circ.nodes.length/\∃ x50,v22[x25]?=some x50/\k27 (v22.set x25 r49))))/\(v29=false->k27 v22))) (fun v26=>x25<p0.circ.nodes.length/\∃ x51,v26[x25]?=some x51/\x25<p0.circ.nodes.length/\∃ x52,v26[x25]?=some x52/\v23+1<2 ^ 63/\nx24 ((v26.set x25 (p0.net.F x25 x51)),(v23+1))))/\((ltN v23 p0.order.length)=false->k21 v22)) (v12,0)) (fun v20=>an (α:=(List Wd)) (fun k56=>aF (S:=((List Wd)×Nat)) (fun (v58,v59) nx61=>((ltN v59 p0.circ.outs.length)=true->∃ x62,p0.circ.outs[v59]?=some x62/\x62<p0.circ.nodes.length/\∃ x63,v20[x62]?=some x63/\(v58.length+([x63]:(List Wd)).length)*16<=2 ^ 47/\v59+1<2 ^ 63/\nx61 ((v58++([x63]:(List Wd))),(v59+1)))/\((ltN v59 p0.circ.outs.length)=false->k56 v58)) (([]:List Wd),0)) (fun v54=>an (α:=(List Wd)) (fun k69=>aF (S:=((List Wd)×Nat)) (fun (v71,v72) nx74=>((ltN v72 p0.state.length)=true->∃ x75,p0.state[v72]?=some x75/\an (α:=(List Wd)) (fun k82=>∃ x83,p0.circ.nodes[x75]?=some x83/\aF (S:=((List Wd)×Nat)) (fun (v85,v86) nx89=>((ltN v86 x83.ins.length)=true->∃ x90,x83.ins[v86]?=some x90/\x90<p0.circ.nodes.length/\∃ x91,v20[x90]?=some x91/\(v85.length+([(p0.pin.F x75 v86 x91)]:(List Wd)).length)*16<=2 ^ 47/\v86+1<2 ^ 63/\nx89 ((v85++([(p0.pin.F x75 v86 x91)]:(List Wd))),(v86+1)))/\((ltN v86 x83.ins.length)=false->k82 v85)) (([]:List Wd),0)) (fun v79=>∃ x96,v79[0]?=some x96/\(v71.length+([x96]:(List Wd)).length)*16<=2 ^ 47/\v72+1<2 ^ 63/\nx74 ((v71++([x96]:(List Wd))),(v72+1))))/\((ltN v72 p0.state.length)=false->k69 v71)) (v54,0)) (fun v67=>p0.circ.nodes.length=v20.length/\K (v20,v67))))))
theorem eY {p0:Eng}{p1:(List Wd)}{p2:(List Wd)}{K:((List Wd)×(List Wd))->Prop} (hm:aK p0 p1 p2 K) {h0:Heap} (hB:HasB vars h0):∃ r,K r/\CallD Tryz.prog NG 58 ⟨[kG p0,(ah 2 encWd) p1,(ah 2 encWd) p2]⟩ h0 ((fun (r:((List Wd)×(List Wd)))=>Value.tuple ⟨[(ah 2 encWd) (r.1),(ah 2 encWd) (r.2)]⟩) r) h0:=by
 unfold aK at hm
 refine fw Tryz.func58 hB (enc:=(fun (r:((List Wd)×(List Wd)))=>Value.tuple ⟨[(ah 2 encWd) (r.1),(ah 2 encWd) (r.2)]⟩)) (fun r=>PureV.tup (AllPure.cons (cF (fun _=>kM _)) (AllPure.cons (cF (fun _=>kM _)) (AllPure.nil)))) fun O=>?_;conv=>whnf
 refine gX ?_;refine fz ?_;refine gX ?_;have O:=O.bC (.cells (flatC ((([]:List Wd)).map encWd)) false);refine O.mkL (enc:=encWd) 16 2 (⟨0,0⟩:Wd) hm fun g2 h O hm=>?_;refine gH ?_;refine jn hm 132 [2,3,6,7] (fun s=>s) (fun v4 h=>Own vars h0 [(sC g2 (flatC (v4.map encWd))),(none,.cells (flatC (([]:List Wd).map encWd)) false)] h) (fun v4=>[]) (fun hm=>?_) ?_
 ·refine gX ?_;refine lw 132 [1,2,3,6,7,25,26] (σ:=((List Wd)×Nat)) (fun s=>s) (fun (v6,v7) h=>Own vars h0 [(sC g2 (flatC (v6.map encWd))),(none,.cells (flatC (([]:List Wd).map encWd)) false)] h) (fun (v6,v7)=>[(27,(i64 v7))]) ((List.replicate p0.circ.nodes.length ((⟨0,0⟩:Wd):Wd)),0) hm O ?_;clear hm;rintro⟨v6,v7⟩ nx8 base h hm O;refine gX ?_;refine br hm (fun hm=>?_) fun hm=>?_
  ·refine gX ?_;refine atF hm fun x9 hx9 hm=>?_;refine gX ?_;refine atF hm fun x10 hx10 hm=>?_;refine gH ?_;refine ix 2 hm fun x11 hx11 hm=>?_;refine gH ?_;refine O.stE 2 (.head _) hx11 x10 fun h O=>?_;refine gX ?_;refine aH hm fun hm=>?_;refine gH ?_;exact jx ((v6.set x9 x10),(v7+1)) hm O
  ·refine gX ?_;exact jx v6 hm O
 ·clear hm;rintro v4 base h hm O
  conv=>whnf
  refine jn hm 132 [3,6,7] (fun s=>s) (fun v12 h=>Own vars h0 [(sC g2 (flatC (v12.map encWd))),(none,.cells (flatC (([]:List Wd).map encWd)) false)] h) (fun v12=>[]) (fun hm=>?_) ?_
  ·refine gX ?_;refine lw 132 [2,3,6,7,41,42] (σ:=((List Wd)×Nat)) (fun s=>s) (fun (v14,v15) h=>Own vars h0 [(sC g2 (flatC (v14.map encWd))),(none,.cells (flatC (([]:List Wd).map encWd)) false)] h) (fun (v14,v15)=>[(43,(i64 v15))]) (v4,0) hm O ?_;clear hm;rintro⟨v14,v15⟩ nx16 base h hm O;refine gX ?_;refine br hm (fun hm=>?_) fun hm=>?_
   ·refine gX ?_;refine atF hm fun x17 hx17 hm=>?_;refine gX ?_;refine atF hm fun x18 hx18 hm=>?_;refine gH ?_;refine ix 2 hm fun x19 hx19 hm=>?_;refine gH ?_;refine O.stE 2 (.head _) hx19 x18 fun h O=>?_;refine gX ?_;refine aH hm fun hm=>?_;refine gH ?_;exact jx ((v14.set x17 x18),(v15+1)) hm O
   ·refine gX ?_;exact jx v14 hm O
  ·clear hm;rintro v12 base h hm O
   conv=>whnf
   refine jn hm 132 [3,6,7] (fun s=>s) (fun v20 h=>Own vars h0 [(sC g2 (flatC (v20.map encWd))),(none,.cells (flatC (([]:List Wd).map encWd)) false)] h) (fun v20=>[]) (fun hm=>?_) ?_
   ·refine gX ?_;refine lw 132 [3,6,7,57,58] (σ:=((List Wd)×Nat)) (fun s=>s) (fun (v22,v23) h=>Own vars h0 [(sC g2 (flatC (v22.map encWd))),(none,.cells (flatC (([]:List Wd).map encWd)) false)] h) (fun (v22,v23)=>[(59,(i64 v23))]) (v12,0) hm O ?_;clear hm;rintro⟨v22,v23⟩ nx24 base h hm O;refine gX ?_;refine br hm (fun hm=>?_) fun hm=>?_
    ·refine gX ?_;refine atF hm fun x25 hx25 hm=>?_;refine gH ?_;refine jn hm 132 [3,6,7,13,57,58,59] (fun s=>s) (fun v26 h=>Own vars h0 [(sC g2 (flatC (v26.map encWd))),(none,.cells (flatC (([]:List Wd).map encWd)) false)] h) (fun v26=>[]) (fun hm=>?_) ?_
     ·refine gX ?_;refine atF hm fun x28 hx28 hm=>?_;refine gH ?_;refine jn hm 132 [3,6,7,13,14,57,58,59] (fun s=>s) (fun v29 h=>Own vars h0 [(sC g2 (flatC (v22.map encWd))),(none,.cells (flatC (([]:List Wd).map encWd)) false)] h) (fun v29=>[(75,(.bool v29))]) (fun hm=>?_) ?_
      ·refine gX ?_;refine br hm (fun hm=>?_) fun hm=>?_
       ·refine gX ?_;exact jx (neN x28.kind 14) hm O
       ·refine gX ?_;exact jx false hm O
      ·clear hm;rintro v29 base h hm O;refine gX ?_;refine br hm (fun hm=>?_) fun hm=>?_
       ·refine gX ?_;refine fg Tryz.func127 ?_;refine gX ?_;refine fz ?_;refine gH ?_;have O:=O.bC (.cells (flatC ((([]:List Wd)).map encWd)) false)
        apply Cs;conv=>whnf
        apply Cs;refine gH ?_;have O:=O.bC (.cells (flatC ((([]:List Wd)).map encWd)) false);refine jn (σ:=(List Wd)×Option Nat) hm 37 [] (fun s=>s.1) (fun (v34,a33) h=>(a33=none->v34=[])/\Own vars h0 [(a33,.cells (flatC (v34.map encWd)) false),(sC g2 (flatC (v22.map encWd))),(none,.cells (flatC (([]:List Wd).map encWd)) false)] h) (fun (v34,a33)=>[(7,(ae 2 a33 (v34.map encWd)))]) (fun hm=>?_) ?_
        ·refine gX ?_;refine atF hm fun x37 hx37 hm=>?_;refine gX ?_;refine lw 37 [1,2,3,16,17] (σ:=((List Wd)×Nat)×Option Nat) (fun s=>s.1) (fun ((v39,v40),a38) h=>(a38=none->v39=[])/\Own vars h0 [(sC g2 (flatC (v22.map encWd))),(a38,.cells (flatC (v39.map encWd)) false),(none,.cells (flatC (([]:List Wd).map encWd)) false)] h) (fun ((v39,v40),a38)=>[(7,(ae 2 a38 (v39.map encWd))),(18,(i64 v40))]) ((([]:List Wd),0),none) hm ⟨(fun _=>rfl),(O.sel [2,0,3] (by decide))⟩ ?_;clear hm;rintro⟨⟨v39,v40⟩,a38⟩ nx42 base h hm ⟨ha41,O⟩;refine gX ?_;refine br hm (fun hm=>?_) fun hm=>?_
         ·refine gX ?_;refine atF hm fun x43 hx43 hm=>?_;refine gX ?_;refine cC.2 ?_;refine gH ?_;refine dF ?_;refine gH ?_
          first | (refine cC.2 ?_;refine gH ?_) | skip
          refine ix 2 hm fun x44 hx44 hm=>?_;refine gH ?_;refine⟨_,aI (l:=cl (encWd x44)) rfl O.i0 rfl rfl (cW (enc:=encWd) (s:=2) (k:=0) (fun _=>rfl) (ag hx44) (Nat.le_refl _)) (bX (enc:=encWd) (s:=2) (fun _=>rfl) hx44),?_⟩;refine gH ?_
          first|refine⟨.inr (.inr (aI (l:=cl (encWd x44)) rfl O.i0 rfl rfl (cW (enc:=encWd) (s:=2) (k:=0) (fun _=>rfl) (ag hx44) (Nat.le_refl _)) (bX (enc:=encWd) (s:=2) (fun _=>rfl) hx44))),?_⟩|refine⟨.inr (.inl (by kernel_rfl)),?_⟩
          refine gX ?_;refine cC.2 ?_;refine⟨_,_,p0.pin.ok x25 v40 x44 O.has,?_⟩;refine gH ?_;refine⟨.inl (Ext.refl _),?_⟩;refine gH ?_;refine O.dJ (l:=([(p0.pin.F x25 v40 x44)]:(List Wd))) (enc:=encWd) (s:=2) (z:=(.agg ⟨[(n64 0),(n64 0)]⟩)) rfl rfl (by kernel_rfl) (by kernel_rfl) rfl rfl rfl rfl (fun _=>rfl) fun g45 h O=>?_;refine gH ?_;refine O.gR (enc:=encWd) (l:=v39) (new:=([(p0.pin.F x25 v40 x44)]:(List Wd))) (s:=2) (b:=16) (.tail _ (.tail _ (.head _))) ha41 rfl rfl rfl rfl rfl rfl rfl rfl (YOk.own O.i0 rfl (fun _=>rfl) rfl) (fun _=>rfl) (fun _=>rfl) (by decide) hm.1 fun a47 h ha48 O=>?_;refine gH ?_;replace hm:=hm.2;refine gX ?_;refine aH hm fun hm=>?_;refine gH ?_;exact jx (((v39++([(p0.pin.F x25 v40 x44)]:(List Wd))),(v40+1)),a47) hm ⟨ha48,(O.sel [1,2,3] (by decide))⟩
         ·refine gX ?_;exact jx (v39,a38) hm ⟨ha41,(O.sel [1,0,2] (by decide))⟩
        ·clear hm;rintro⟨v34,a33⟩ base h hm ⟨ha35,O⟩;refine gX ?_;refine O.GI (fun _ hb=>su hm hb) (.head _) ha35 (fun _=>rfl) (i:=1) rfl (by kernel_rfl) (fun h2 q=>(LLe.cons (VLe.refl _ _) (LLe.cons (q) (LLe.nil _)))) (fun r49 h hm' O=>?_);replace hm:=hm';refine gH ?_;refine ix 2 hm fun x50 hx50 hm=>?_;refine gH ?_;refine O.stE 2 (.tail _ (.head _)) hx50 r49 fun h O=>?_;refine gH ?_;exact jx (v22.set x25 r49) hm (O.sel [1,2] (by decide))
       ·refine gX ?_;exact jx v22 hm O
     ·clear hm;rintro v26 base h hm O;refine gX ?_;refine cC.2 ?_;refine gH ?_;refine dF ?_;refine gH ?_
      first | (refine cC.2 ?_;refine gH ?_) | skip
      refine ix 2 hm fun x51 hx51 hm=>?_;refine gH ?_;refine⟨_,aI (l:=cl (encWd x51)) rfl O.i0 rfl rfl (cW (enc:=encWd) (s:=2) (k:=0) (fun _=>rfl) (ag hx51) (Nat.le_refl _)) (bX (enc:=encWd) (s:=2) (fun _=>rfl) hx51),?_⟩;refine gH ?_
      first|refine⟨.inr (.inr (aI (l:=cl (encWd x51)) rfl O.i0 rfl rfl (cW (enc:=encWd) (s:=2) (k:=0) (fun _=>rfl) (ag hx51) (Nat.le_refl _)) (bX (enc:=encWd) (s:=2) (fun _=>rfl) hx51))),?_⟩|refine⟨.inr (.inl (by kernel_rfl)),?_⟩
      refine gX ?_;refine cC.2 ?_;refine⟨_,_,p0.net.ok x25 x51 O.has,?_⟩;refine gH ?_;refine⟨.inl (Ext.refl _),?_⟩;refine gH ?_;refine ix 2 hm fun x52 hx52 hm=>?_;refine gH ?_;refine O.stE 2 (.head _) hx52 (p0.net.F x25 x51) fun h O=>?_;refine gH ?_;refine gX ?_;refine aH hm fun hm=>?_;refine gH ?_;exact jx ((v26.set x25 (p0.net.F x25 x51)),(v23+1)) hm O
    ·refine gX ?_;exact jx v22 hm O
   ·clear hm;rintro v20 base h hm O
    conv=>whnf
    refine jn (σ:=(List Wd)×Option Nat) hm 132 [3,6] (fun s=>s.1) (fun (v54,a53) h=>(a53=none->v54=[])/\Own vars h0 [(sC g2 (flatC (v20.map encWd))),(a53,.cells (flatC (v54.map encWd)) false)] h) (fun (v54,a53)=>[(7,(ae 2 a53 (v54.map encWd)))]) (fun hm=>?_) ?_
    ·refine gX ?_;refine lw 132 [3,6,99,100] (σ:=((List Wd)×Nat)×Option Nat) (fun s=>s.1) (fun ((v58,v59),a57) h=>(a57=none->v58=[])/\Own vars h0 [(sC g2 (flatC (v20.map encWd))),(a57,.cells (flatC (v58.map encWd)) false)] h) (fun ((v58,v59),a57)=>[(7,(ae 2 a57 (v58.map encWd))),(101,(i64 v59))]) ((([]:List Wd),0),none) hm ⟨(fun _=>rfl),O⟩ ?_;clear hm;rintro⟨⟨v58,v59⟩,a57⟩ nx61 base h hm ⟨ha60,O⟩;refine gX ?_;refine br hm (fun hm=>?_) fun hm=>?_
     ·refine gX ?_;refine atF hm fun x62 hx62 hm=>?_;refine gX ?_;refine ix 2 hm fun x63 hx63 hm=>?_;refine gH ?_;refine⟨_,aI (l:=cl (encWd x63)) rfl O.i0 rfl rfl (cW (enc:=encWd) (s:=2) (k:=0) (fun _=>rfl) (ag hx63) (Nat.le_refl _)) (bX (enc:=encWd) (s:=2) (fun _=>rfl) hx63),?_⟩;refine gH ?_;refine fz ?_;refine gH ?_;refine O.apL (enc:=encWd) (l:=v58) (new:=([x63]:(List Wd))) 2 (.tail _ (.head _)) ha60 hm fun a64 h ha65 O hm=>?_;refine gX ?_;refine aH hm fun hm=>?_;refine gH ?_;exact jx (((v58++([x63]:(List Wd))),(v59+1)),a64) hm ⟨ha65,O⟩
     ·refine gX ?_;exact jx (v58,a57) hm ⟨ha60,O⟩
    ·clear hm;rintro⟨v54,a53⟩ base h hm ⟨ha55,O⟩
     conv=>whnf
     refine jn (σ:=(List Wd)×Option Nat) hm 132 [6] (fun s=>s.1) (fun (v67,a66) h=>(a66=none->v67=[])/\Own vars h0 [(sC g2 (flatC (v20.map encWd))),(a66,.cells (flatC (v67.map encWd)) false)] h) (fun (v67,a66)=>[(7,(ae 2 a66 (v67.map encWd)))]) (fun hm=>?_) ?_
     ·refine gX ?_;refine lw 132 [3,6,114,115] (σ:=((List Wd)×Nat)×Option Nat) (fun s=>s.1) (fun ((v71,v72),a70) h=>(a70=none->v71=[])/\Own vars h0 [(sC g2 (flatC (v20.map encWd))),(a70,.cells (flatC (v71.map encWd)) false)] h) (fun ((v71,v72),a70)=>[(7,(ae 2 a70 (v71.map encWd))),(116,(i64 v72))]) ((v54,0),a53) hm ⟨ha55,O⟩ ?_;clear hm;rintro⟨⟨v71,v72⟩,a70⟩ nx74 base h hm ⟨ha73,O⟩;refine gX ?_;refine br hm (fun hm=>?_) fun hm=>?_
      ·refine gX ?_;refine atF hm fun x75 hx75 hm=>?_;refine gX ?_;refine fg Tryz.func127 ?_;refine gX ?_;refine fz ?_;refine gH ?_;have O:=O.bC (.cells (flatC ((([]:List Wd)).map encWd)) false)
       apply Cs;conv=>whnf
       apply Cs;refine gH ?_;have O:=O.bC (.cells (flatC ((([]:List Wd)).map encWd)) false);refine jn (σ:=(List Wd)×Option Nat) hm 37 [] (fun s=>s.1) (fun (v79,a78) h=>(a78=none->v79=[])/\(a70=none->v71=[])/\Own vars h0 [(a78,.cells (flatC (v79.map encWd)) false),(sC g2 (flatC (v20.map encWd))),(a70,.cells (flatC (v71.map encWd)) false)] h) (fun (v79,a78)=>[(7,(ae 2 a78 (v79.map encWd)))]) (fun hm=>?_) ?_
       ·refine gX ?_;refine atF hm fun x83 hx83 hm=>?_;refine gX ?_;refine lw 37 [1,2,3,16,17] (σ:=((List Wd)×Nat)×Option Nat) (fun s=>s.1) (fun ((v85,v86),a84) h=>(a84=none->v85=[])/\(a70=none->v71=[])/\Own vars h0 [(sC g2 (flatC (v20.map encWd))),(a84,.cells (flatC (v85.map encWd)) false),(a70,.cells (flatC (v71.map encWd)) false)] h) (fun ((v85,v86),a84)=>[(7,(ae 2 a84 (v85.map encWd))),(18,(i64 v86))]) ((([]:List Wd),0),none) hm ⟨(fun _=>rfl),ha73,(O.sel [2,0,3] (by decide))⟩ ?_;clear hm;rintro⟨⟨v85,v86⟩,a84⟩ nx89 base h hm ⟨ha87,ha88,O⟩;refine gX ?_;refine br hm (fun hm=>?_) fun hm=>?_
        ·refine gX ?_;refine atF hm fun x90 hx90 hm=>?_;refine gX ?_;refine cC.2 ?_;refine gH ?_;refine dF ?_;refine gH ?_
         first | (refine cC.2 ?_;refine gH ?_) | skip
         refine ix 2 hm fun x91 hx91 hm=>?_;refine gH ?_;refine⟨_,aI (l:=cl (encWd x91)) rfl O.i0 rfl rfl (cW (enc:=encWd) (s:=2) (k:=0) (fun _=>rfl) (ag hx91) (Nat.le_refl _)) (bX (enc:=encWd) (s:=2) (fun _=>rfl) hx91),?_⟩;refine gH ?_
         first|refine⟨.inr (.inr (aI (l:=cl (encWd x91)) rfl O.i0 rfl rfl (cW (enc:=encWd) (s:=2) (k:=0) (fun _=>rfl) (ag hx91) (Nat.le_refl _)) (bX (enc:=encWd) (s:=2) (fun _=>rfl) hx91))),?_⟩|refine⟨.inr (.inl (by kernel_rfl)),?_⟩
         refine gX ?_;refine cC.2 ?_;refine⟨_,_,p0.pin.ok x75 v86 x91 O.has,?_⟩;refine gH ?_;refine⟨.inl (Ext.refl _),?_⟩;refine gH ?_;refine O.dJ (l:=([(p0.pin.F x75 v86 x91)]:(List Wd))) (enc:=encWd) (s:=2) (z:=(.agg ⟨[(n64 0),(n64 0)]⟩)) rfl rfl (by kernel_rfl) (by kernel_rfl) rfl rfl rfl rfl (fun _=>rfl) fun g92 h O=>?_;refine gH ?_;refine O.gR (enc:=encWd) (l:=v85) (new:=([(p0.pin.F x75 v86 x91)]:(List Wd))) (s:=2) (b:=16) (.tail _ (.tail _ (.head _))) ha87 rfl rfl rfl rfl rfl rfl rfl rfl (YOk.own O.i0 rfl (fun _=>rfl) rfl) (fun _=>rfl) (fun _=>rfl) (by decide) hm.1 fun a94 h ha95 O=>?_;refine gH ?_;replace hm:=hm.2;refine gX ?_;refine aH hm fun hm=>?_;refine gH ?_;exact jx (((v85++([(p0.pin.F x75 v86 x91)]:(List Wd))),(v86+1)),a94) hm ⟨ha95,ha88,(O.sel [1,2,3] (by decide))⟩
        ·refine gX ?_;exact jx (v85,a84) hm ⟨ha87,ha88,(O.sel [1,0,2] (by decide))⟩
       ·clear hm;rintro⟨v79,a78⟩ base h hm ⟨ha80,ha81,O⟩;refine gX ?_;obtain⟨x96,hx96,hm⟩:=hm;have h9:=hm;obtain⟨g97,rfl⟩:=fP ha80 hx96;replace hm:=h9;refine bb (s:=2) (j:=0) rfl rfl rfl rfl (by rw[List.length_map];exact ag hx96) ?_;refine gH ?_;refine⟨_,aI (l:=cl (encWd x96)) rfl O.i0 rfl rfl (cW (enc:=encWd) (s:=2) (k:=0) (fun _=>rfl) (ag hx96) (Nat.le_refl _)) (bX (enc:=encWd) (s:=2) (fun _=>rfl) hx96),?_⟩;refine gH ?_;refine fz ?_;refine gH ?_;refine O.apL (enc:=encWd) (l:=v71) (new:=([x96]:(List Wd))) 2 (.tail _ (.tail _ (.head _))) ha81 hm fun a98 h ha99 O hm=>?_;refine gX ?_;refine aH hm fun hm=>?_;refine gH ?_;exact jx (((v71++([x96]:(List Wd))),(v72+1)),a98) hm ⟨ha99,(O.sel [1,2] (by decide))⟩
      ·refine gX ?_;exact jx (v71,a70) hm ⟨ha73,O⟩
     ·clear hm;rintro⟨v67,a66⟩ base h hm ⟨ha68,O⟩;refine gX ?_;obtain⟨hn100,hm⟩:=hm;exact⟨(v20,v67),hm,O.ext,fun h2 F=>VLe.tup (LLe.cons (O.gA F (Nat.le_refl _) (.head _) (fun _=>rfl) hn100) (LLe.cons (O.jR F (Nat.le_refl _) (.tail _ (.head _)) ha68 (fun _=>rfl)) (LLe.nil _)))⟩
def bn (p0:Eng) (p1:Flt) (_p2:(List Wd)) (K:Eng->Prop):Prop :=
 bU p1.value (fun r5=>an (α:=Unit) (fun k8=>((neN p1.model 0)=true->False)/\((neN p1.model 0)=false->k8 ())) (fun _=>((!ltI p1.line.pin (Int.ofNat 0))=true->K (⟨p0.circ,p0.order,p0.ins,p0.state,p0.net,(H7 p1 r5)⟩:Eng))/\((!ltI p1.line.pin (Int.ofNat 0))=false->K (⟨p0.circ,p0.order,p0.ins,p0.state,(Io p1 r5),p0.pin⟩:Eng))))
theorem jA {p0:Eng}{p1:Flt}{p2:(List Wd)}{K:Eng->Prop} (hm:bn p0 p1 p2 K) {h0:Heap} (hB:HasB vars h0):∃ r,K r/\CallD Tryz.prog NG 232 ⟨[kG p0,az p1,(ah 2 encWd) p2]⟩ h0 (kG r) h0:=by
 unfold bn at hm
 refine fw Tryz.func232 hB (enc:=kG) (fun r=>zg _) fun O=>?_;conv=>whnf
 refine gX ?_;refine O.new (GR rfl) fun g1 h O=>?_;refine gH ?_;refine fz ?_;refine gH ?_;refine O.new (ai (l:=[nS,nS,nS,nS,nS,nS,nS,.nilFunc,.nilFunc]) rfl rfl rfl) fun g3 h O=>?_;refine gH ?_;refine gX ?_;refine ca (bP hm O.has) fun r5 hm=>?_;refine gH ?_;refine O.new (ai (l:=[(n64 0),(n64 0)]) rfl rfl rfl) fun g6 h O=>?_;refine gH ?_;refine O.stC 2 (.head _) [(n64 r5.one),(n64 r5.zero)] fun h O=>?_;refine gH ?_;refine jn hm 27 [3,4,6,7] (fun s=>s) (fun _ h=>Own vars h0 [(sC g1 [((ah 4 aj) p0.circ.nodes),((ah 1 Value.string) p0.circ.names),((ah 3 aD) p0.circ.mems),((ah 1 i64) p0.circ.outs),((ah 1 i64) p0.order),((ah 1 i64) p0.ins),((ah 1 i64) p0.state),(iF p0.net),(iI p0.pin)]),(sC g3 [nS,nS,nS,nS,nS,nS,nS,.nilFunc,.nilFunc]),(sC g6 [(n64 r5.one),(n64 r5.zero)])] h) (fun _=>[]) (fun hm=>?_) ?_
 ·refine gX ?_;refine br hm (fun hm=>?_) fun hm=>?_
  ·refine gX ?_;exact False.elim hm
  ·refine gX ?_;exact jx () hm (O.sel [2,1,0] (by decide))
 ·clear hm;rintro _ base h hm O;refine gX ?_;refine br hm (fun hm=>?_) fun hm=>?_
  ·apply Cs;conv=>whnf
   refine CodeS.CA O (.tail _ (.tail _ (.head _))) 7 rfl rfl fun h O=>?_;refine gX ?_;refine O.stC 1 (.head _) [((ah 4 aj) p0.circ.nodes),((ah 1 Value.string) p0.circ.names),((ah 3 aD) p0.circ.mems),((ah 1 i64) p0.circ.outs),((ah 1 i64) p0.order),((ah 1 i64) p0.ins),((ah 1 i64) p0.state),(iF p0.net),(.func (.func 263) ⟨[]⟩ ⟨[(FP (az p1)),(FP (encWd r5))]⟩)] fun h O=>?_;refine gX ?_;refine ldA O.i0 ?_;refine gH ?_;refine O.stC 9 (.tail _ (.head _)) [((ah 4 aj) p0.circ.nodes),((ah 1 Value.string) p0.circ.names),((ah 3 aD) p0.circ.mems),((ah 1 i64) p0.circ.outs),((ah 1 i64) p0.order),((ah 1 i64) p0.ins),((ah 1 i64) p0.state),(iF p0.net),(.func (.func 263) ⟨[]⟩ ⟨[(FP (az p1)),(FP (encWd r5))]⟩)] fun h O=>?_;refine gX ?_
   refine⟨_,au rfl rfl O.i1 rfl rfl (lbE rfl) rfl,?_⟩;conv=>whnf
   exact fe hm O
  ·apply Cs;conv=>whnf
   apply Cs;conv=>whnf
   refine CodeS.CA O (.tail _ (.tail _ (.head _))) 7 rfl rfl fun h O=>?_;refine gX ?_;refine O.stC 1 (.head _) [((ah 4 aj) p0.circ.nodes),((ah 1 Value.string) p0.circ.names),((ah 3 aD) p0.circ.mems),((ah 1 i64) p0.circ.outs),((ah 1 i64) p0.order),((ah 1 i64) p0.ins),((ah 1 i64) p0.state),(.func (.func 264) ⟨[]⟩ ⟨[(FP (az p1)),(FP (encWd r5))]⟩),(iI p0.pin)] fun h O=>?_;refine gX ?_;refine ldA O.i0 ?_;refine gH ?_;refine O.stC 9 (.tail _ (.head _)) [((ah 4 aj) p0.circ.nodes),((ah 1 Value.string) p0.circ.names),((ah 3 aD) p0.circ.mems),((ah 1 i64) p0.circ.outs),((ah 1 i64) p0.order),((ah 1 i64) p0.ins),((ah 1 i64) p0.state),(.func (.func 264) ⟨[]⟩ ⟨[(FP (az p1)),(FP (encWd r5))]⟩),(iI p0.pin)] fun h O=>?_;refine gX ?_
   refine⟨_,au rfl rfl O.i1 rfl rfl (lbE rfl) rfl,?_⟩;conv=>whnf
   exact fe hm O
def eP (p0:(List Pat)) (p1:Nat) (K:(List Wd)->Prop):Prop :=
 16*p1<=2 ^ 48/\p1<2 ^ 63/\an (α:=(List Wd)) (fun k4=>aF (S:=((List Wd)×Nat)) (fun (v5,v6) nx7=>((ltN v6 p1)=true->an (α:=(List Wd)) (fun k9=>aF (S:=((List Wd)×Nat)) (fun (v10,v11) nx12=>((ltN v11 p0.length)=true->∃ x13,p0[v11]?=some x13/\v6<p1/\∃ x16,v10[v6]?=some x16/\∃ x17,x13.inp[v6]?=some x17/\cP x16 v11 x17 (fun r18=>v6<p1/\∃ x19,v10[v6]?=some x19/\v11+1<2 ^ 63/\nx12 ((v10.set v6 r18),(v11+1))))/\((ltN v11 p0.length)=false->k9 v10)) (v5,0)) (fun v8=>v6+1<2 ^ 63/\nx7 (v8,(v6+1))))/\((ltN v6 p1)=false->k4 v5)) ((List.replicate p1 ((⟨0,0⟩:Wd):Wd)),0)) (fun v3=>p1=v3.length/\K v3)
theorem uY {p0:(List Pat)}{p1:Nat}{K:(List Wd)->Prop} (hm:eP p0 p1 K) {h0:Heap} (hB:HasB vars h0):∃ r,K r/\CallD Tryz.prog NG 229 ⟨[(ah 2 aP) p0,i64 p1,(.func (.func 230) ⟨[]⟩ ⟨[]⟩)]⟩ h0 ((ah 2 encWd) r) h0:=by
 unfold eP at hm
 refine fw Tryz.func229 hB (enc:=(ah 2 encWd)) (fun r=>cF (fun _=>kM _)) fun O=>?_;conv=>whnf
 refine gX ?_;refine O.mkL (enc:=encWd) 16 2 (⟨0,0⟩:Wd) hm fun g1 h O hm=>?_;refine gH ?_;refine jn hm 43 [7] (fun s=>s) (fun v3 h=>Own vars h0 [(sC g1 (flatC (v3.map encWd)))] h) (fun v3=>[]) (fun hm=>?_) ?_
 ·refine gX ?_;refine lw 43 [0,2,7,14] (σ:=((List Wd)×Nat)) (fun s=>s) (fun (v5,v6) h=>Own vars h0 [(sC g1 (flatC (v5.map encWd)))] h) (fun (v5,v6)=>[(15,(i64 v6))]) ((List.replicate p1 ((⟨0,0⟩:Wd):Wd)),0) hm O ?_;clear hm;rintro⟨v5,v6⟩ nx7 base h hm O;refine gX ?_;refine br hm (fun hm=>?_) fun hm=>?_
  ·apply Cs;conv=>whnf
   refine jn hm 43 [0,2,7,14,15] (fun s=>s) (fun v8 h=>Own vars h0 [(sC g1 (flatC (v8.map encWd)))] h) (fun v8=>[]) (fun hm=>?_) ?_
   ·refine gX ?_;refine lw 43 [0,2,7,8,14,15,18,19] (σ:=((List Wd)×Nat)) (fun s=>s) (fun (v10,v11) h=>Own vars h0 [(sC g1 (flatC (v10.map encWd)))] h) (fun (v10,v11)=>[(20,(i64 v11))]) (v5,0) hm O ?_;clear hm;rintro⟨v10,v11⟩ nx12 base h hm O;refine gX ?_;refine br hm (fun hm=>?_) fun hm=>?_
    ·refine gX ?_;refine atF hm fun x13 hx13 hm=>?_;refine gH ?_;refine O.new (ai (l:=[nS,nS]) rfl rfl rfl) fun g14 h O=>?_;refine gH ?_;refine O.stC 2 (.head _) [((ah 1 n8) x13.inp),((ah 1 n8) x13.state)] fun h O=>?_;refine gX ?_;refine ix 2 hm fun x16 hx16 hm=>?_;refine gH ?_;refine⟨_,aI (l:=cl (encWd x16)) rfl O.i1 rfl rfl (cW (enc:=encWd) (s:=2) (k:=0) (fun _=>rfl) (ag hx16) (Nat.le_refl _)) (bX (enc:=encWd) (s:=2) (fun _=>rfl) hx16),?_⟩;refine gH ?_
     first|refine⟨.inr (.inr (aI (l:=cl (encWd x16)) rfl O.i1 rfl rfl (cW (enc:=encWd) (s:=2) (k:=0) (fun _=>rfl) (ag hx16) (Nat.le_refl _)) (bX (enc:=encWd) (s:=2) (fun _=>rfl) hx16))),?_⟩|refine⟨.inr (.inl (by kernel_rfl)),?_⟩
     refine gX ?_;refine ldA O.i0 ?_;refine gH ?_
     first|refine⟨.inr (.inr (aI rfl O.i0 rfl rfl (lbE rfl) rfl)),?_⟩|refine⟨.inr (.inl (by kernel_rfl)),?_⟩
     refine gX ?_;refine fg Tryz.func230 ?_;refine gX ?_;refine fz ?_;refine gX ?_;refine⟨.inl (Ext.refl _),?_⟩;refine gH ?_;refine atF hm fun x17 hx17 hm=>?_;refine gH ?_;refine ca (ja hm O.has) fun r18 hm=>?_;refine gH ?_;refine⟨.inl (Ext.refl _),?_⟩;refine gH ?_;refine ix 2 hm fun x19 hx19 hm=>?_;refine gH ?_;refine O.stE 2 (.tail _ (.head _)) hx19 r18 fun h O=>?_;refine gH ?_;refine gX ?_;refine aH hm fun hm=>?_;refine gH ?_;exact jx ((v10.set v6 r18),(v11+1)) hm (O.sel [1] (by decide))
    ·refine gX ?_;exact jx v10 hm O
   ·clear hm;rintro v8 base h hm O;refine gX ?_;refine aH hm fun hm=>?_;refine gH ?_;exact jx (v8,(v6+1)) hm O
  ·refine gX ?_;exact jx v5 hm O
 ·clear hm;rintro v3 base h hm O;refine gX ?_;obtain⟨hn20,hm⟩:=hm;exact⟨v3,hm,O.ext,fun h2 F=>O.gA F (Nat.le_refl _) (.head _) (fun _=>rfl) hn20⟩
def eJ (p0:(List Pat)) (p1:Nat) (K:(List Wd)->Prop):Prop :=
 16*p1<=2 ^ 48/\p1<2 ^ 63/\an (α:=(List Wd)) (fun k4=>aF (S:=((List Wd)×Nat)) (fun (v5,v6) nx7=>((ltN v6 p1)=true->an (α:=(List Wd)) (fun k9=>aF (S:=((List Wd)×Nat)) (fun (v10,v11) nx12=>((ltN v11 p0.length)=true->∃ x13,p0[v11]?=some x13/\v6<p1/\∃ x16,v10[v6]?=some x16/\∃ x17,x13.state[v6]?=some x17/\cP x16 v11 x17 (fun r18=>v6<p1/\∃ x19,v10[v6]?=some x19/\v11+1<2 ^ 63/\nx12 ((v10.set v6 r18),(v11+1))))/\((ltN v11 p0.length)=false->k9 v10)) (v5,0)) (fun v8=>v6+1<2 ^ 63/\nx7 (v8,(v6+1))))/\((ltN v6 p1)=false->k4 v5)) ((List.replicate p1 ((⟨0,0⟩:Wd):Wd)),0)) (fun v3=>p1=v3.length/\K v3)
theorem tP {p0:(List Pat)}{p1:Nat}{K:(List Wd)->Prop} (hm:eJ p0 p1 K) {h0:Heap} (hB:HasB vars h0):∃ r,K r/\CallD Tryz.prog NG 229 ⟨[(ah 2 aP) p0,i64 p1,(.func (.func 231) ⟨[]⟩ ⟨[]⟩)]⟩ h0 ((ah 2 encWd) r) h0:=by
 unfold eJ at hm
 refine fw Tryz.func229 hB (enc:=(ah 2 encWd)) (fun r=>cF (fun _=>kM _)) fun O=>?_;conv=>whnf
 refine gX ?_;refine O.mkL (enc:=encWd) 16 2 (⟨0,0⟩:Wd) hm fun g1 h O hm=>?_;refine gH ?_;refine jn hm 43 [7] (fun s=>s) (fun v3 h=>Own vars h0 [(sC g1 (flatC (v3.map encWd)))] h) (fun v3=>[]) (fun hm=>?_) ?_
 ·refine gX ?_;refine lw 43 [0,2,7,14] (σ:=((List Wd)×Nat)) (fun s=>s) (fun (v5,v6) h=>Own vars h0 [(sC g1 (flatC (v5.map encWd)))] h) (fun (v5,v6)=>[(15,(i64 v6))]) ((List.replicate p1 ((⟨0,0⟩:Wd):Wd)),0) hm O ?_;clear hm;rintro⟨v5,v6⟩ nx7 base h hm O;refine gX ?_;refine br hm (fun hm=>?_) fun hm=>?_
  ·apply Cs;conv=>whnf
   refine jn hm 43 [0,2,7,14,15] (fun s=>s) (fun v8 h=>Own vars h0 [(sC g1 (flatC (v8.map encWd)))] h) (fun v8=>[]) (fun hm=>?_) ?_
   ·refine gX ?_;refine lw 43 [0,2,7,8,14,15,18,19] (σ:=((List Wd)×Nat)) (fun s=>s) (fun (v10,v11) h=>Own vars h0 [(sC g1 (flatC (v10.map encWd)))] h) (fun (v10,v11)=>[(20,(i64 v11))]) (v5,0) hm O ?_;clear hm;rintro⟨v10,v11⟩ nx12 base h hm O;refine gX ?_;refine br hm (fun hm=>?_) fun hm=>?_
    ·refine gX ?_;refine atF hm fun x13 hx13 hm=>?_;refine gH ?_;refine O.new (ai (l:=[nS,nS]) rfl rfl rfl) fun g14 h O=>?_;refine gH ?_;refine O.stC 2 (.head _) [((ah 1 n8) x13.inp),((ah 1 n8) x13.state)] fun h O=>?_;refine gX ?_;refine ix 2 hm fun x16 hx16 hm=>?_;refine gH ?_;refine⟨_,aI (l:=cl (encWd x16)) rfl O.i1 rfl rfl (cW (enc:=encWd) (s:=2) (k:=0) (fun _=>rfl) (ag hx16) (Nat.le_refl _)) (bX (enc:=encWd) (s:=2) (fun _=>rfl) hx16),?_⟩;refine gH ?_
     first|refine⟨.inr (.inr (aI (l:=cl (encWd x16)) rfl O.i1 rfl rfl (cW (enc:=encWd) (s:=2) (k:=0) (fun _=>rfl) (ag hx16) (Nat.le_refl _)) (bX (enc:=encWd) (s:=2) (fun _=>rfl) hx16))),?_⟩|refine⟨.inr (.inl (by kernel_rfl)),?_⟩
     refine gX ?_;refine ldA O.i0 ?_;refine gH ?_
     first|refine⟨.inr (.inr (aI rfl O.i0 rfl rfl (lbE rfl) rfl)),?_⟩|refine⟨.inr (.inl (by kernel_rfl)),?_⟩
     refine gX ?_;refine fg Tryz.func231 ?_;refine gX ?_;refine fz ?_;refine gX ?_;refine⟨.inl (Ext.refl _),?_⟩;refine gH ?_;refine atF hm fun x17 hx17 hm=>?_;refine gH ?_;refine ca (ja hm O.has) fun r18 hm=>?_;refine gH ?_;refine⟨.inl (Ext.refl _),?_⟩;refine gH ?_;refine ix 2 hm fun x19 hx19 hm=>?_;refine gH ?_;refine O.stE 2 (.tail _ (.head _)) hx19 r18 fun h O=>?_;refine gH ?_;refine gX ?_;refine aH hm fun hm=>?_;refine gH ?_;exact jx ((v10.set v6 r18),(v11+1)) hm (O.sel [1] (by decide))
    ·refine gX ?_;exact jx v10 hm O
   ·clear hm;rintro v8 base h hm O;refine gX ?_;refine aH hm fun hm=>?_;refine gH ?_;exact jx (v8,(v6+1)) hm O
  ·refine gX ?_;exact jx v5 hm O
 ·clear hm;rintro v3 base h hm O;refine gX ?_;obtain⟨hn20,hm⟩:=hm;exact⟨v3,hm,O.ext,fun h2 F=>O.gA F (Nat.le_refl _) (.head _) (fun _=>rfl) hn20⟩
set_option maxHeartbeats 8000000
theorem JA {cs:List Value}{m:Nat}{v:Value} (h:m<cs.length):bp cs (0+m*1) [v]=cs.set m v:=by
 unfold Abs.bp;rw[List.set_eq_take_append_cons_drop,if_pos h];simp
theorem HZ (n:Nat):flatC ((List.replicate n ([]:List Nat)).map (ah 1 n64))=List.replicate n (ah 1 n64 []):=by
 induction n with
 |zero=>rfl
 |succ n ih=>rw[List.replicate_succ,List.map_cons,List.replicate_succ,<- ih];rfl
theorem Ka {α:Type} (n j:Nat) (v:α):(List.replicate n v).set j v=List.replicate n v:=by
 apply List.ext_getElem?;intro i;rw[List.getElem?_set,List.getElem?_replicate,List.length_replicate];by_cases e:j=i
 ·subst e;rw[if_pos rfl]
 ·rw[if_neg e]
theorem yH {c:Circ}{l:List Flt} (hc:cp c l [] (fun e=>e=0)) (hord:cu c fun _=>True) (hl:l.length<=65536) {h0:Heap} (hB:HasB vars h0) :
  ∃ r,r=List.replicate l.length ([]:List Nat)/\CallD Tryz.prog NG 114 ⟨[ar c,ah 5 az l,ah 2 aP []]⟩ h0 ((fun (r:List (List Nat))=>Value.tuple ⟨[ah 1 (ah 1 n64) r,i64 0]⟩) r) h0:=by
 refine fw Tryz.func114 hB (enc:=fun (r:List (List Nat))=>Value.tuple ⟨[ah 1 (ah 1 n64) r,i64 0]⟩) (fun r=>PureV.tup (AllPure.cons (cF fun _=>AllPure.cons (cF fun _=>AllPure.cons (PureV.flat rfl) AllPure.nil) AllPure.nil) (AllPure.cons (PureV.flat rfl) AllPure.nil))) fun O=>?_;conv=>whnf
 refine gX ?_;refine fz ?_;refine gX ?_;refine ca (iV hc O.has) fun e1 hm1=>?_;obtain rfl:e1=0:=hm1;refine gX ?_;refine bf ?_;refine gX ?_;refine O.mkL (enc:=fun _:Unit=>Value.slice none 0 0) (n:=l.length) (W:=True) 24 1 () ⟨by omega,by omega,trivial⟩ fun go h O _=>?_;refine gH ?_;refine O.new (ai (l:=[nS]) rfl rfl rfl) fun g9 h O=>?_;refine gH ?_;refine O.stC 1 (.head _) [.slice (some ⟨go,0,none⟩) l.length l.length] fun h O=>?_;refine gH ?_;refine CodeS.xF (cs':=flatC ((List.replicate l.length ([]:List Nat)).map (ah 1 n64))) O (.tail _ (.head _)) (t2:=22) rfl rfl (Je ..) fun h O=>?_;refine gX ?_;refine ib hM (nn:=60) (by kernel_rfl) (σ:=Nat) (fun j h=>j<=l.length/\Own vars h0 [(some g9,.cells [.slice (some ⟨go,0,none⟩) l.length l.length] false),(some go,.cells (flatC ((List.replicate l.length ([]:List Nat)).map (ah 1 n64))) false)] h)
  (fun j=>[(2,ah 2 aP []),(3,FP (ar c)),(9,.pointer (some ⟨g9,0,none⟩)),(24,i64 l.length),(25,i64 j)]) (fun j=>l.length-j) rfl ⟨0,⟨Nat.zero_le _,O⟩,rfl,rfl,rfl,rfl,rfl,trivial⟩ ?_
 clear O;rintro j base h ⟨hj,O⟩;refine gX ?_;by_cases hlt:j<l.length
 ·refine bt ?_ (congrArg Value.bool (by show ltN j l.length=true;rw[aY];simp;omega));conv=>whnf
  apply Cs;conv=>whnf
  apply Cs;conv=>whnf
  apply Cs;conv=>whnf
  apply Cs;conv=>whnf
  apply Cs;refine gH ?_;refine CodeS.kX ?_;refine gH ?_;refine⟨.inr (.inr (bz rfl O.i0 rfl rfl)),?_⟩;refine gH ?_;refine aH (a:=0) (b:=64) (W:=True) ⟨by decide,trivial⟩ fun _=>?_;refine gH ?_;refine nW (a:=0+64) (b:=1) (W:=True) ⟨by decide,by decide,trivial⟩ fun _=>?_;refine gH ?_;refine CM (a:=0+64-1) (b:=64) (W:=True) ⟨by decide,by decide,trivial⟩ fun _=>?_;refine gH ?_;refine O.BE (enc:=n64) (z:=0) (b:=8) (s:=1) (n:=(0+64-1)/64) rfl rfl rfl rfl rfl (by decide) (by kernel_rfl) rfl rfl (by decide) (by decide) fun gr h O=>?_;refine gH ?_;refine bb (s:=1) (j:=j) rfl rfl rfl rfl hlt ?_;refine gH ?_
  have hln:j<(flatC ((List.replicate l.length ([]:List Nat)).map (ah 1 n64))).length:=by rw[HZ,List.length_replicate];exact hlt
  refine O.store (n:=1) (cs':=bp (flatC ((List.replicate l.length ([]:List Nat)).map (ah 1 n64))) (0+j*1) [.slice (some ⟨gr,0,none⟩) ((0+64-1)/64) ((0+64-1)/64)]) (.tail _ (.tail _ (.head _))) rfl rfl rfl rfl (by omega) rfl rfl fun h O=>?_
  conv=>whnf
  refine⟨.inl (by kernel_rfl),?_⟩;refine gH ?_;refine CodeS.ghost (cs2':=flatC ((List.replicate l.length ([]:List Nat)).map (ah 1 n64))) O (.head _) (.tail _ (.tail _ (.head _))) (t1:=35) (t2:=28) rfl rfl rfl rfl (fun h2 hq=>?_) fun h O=>?_
  ·rw[JA hln,HZ];have:=LLe.set (h:=h2) (cs:=List.replicate l.length (ah 1 n64 [])) (i:=j) (VLe.flM (enc:=n64) (l:=[]) (n:=(0+64-1)/64) (cap:=(0+64-1)/64) (sp:=none) (s:=1) hq rfl (fun _=>rfl));rw[Ka] at this;exact this
  ·refine gX ?_;refine aH (a:=j) (b:=1) (W:=True) ⟨by omega,trivial⟩ fun _=>?_;refine gX ?_;exact⟨j+1,by omega,⟨hlt,O.tail⟩,rfl,rfl,rfl,rfl,rfl,trivial⟩
 ·obtain rfl:j=l.length:=by omega
  refine bf ?_ (congrArg Value.bool (by show ltN l.length l.length=false;rw[aY];simp));refine gX ?_;refine ca (iT hord O.has) fun x _=>?_;refine gH ?_;refine O.new (ai (l:=[nS,nS,nS,nS,nS,nS,nS,.nilFunc,.nilFunc]) rfl rfl rfl) fun gx h O=>?_;refine gH ?_;refine O.stC 9 (.head _) [((ah 4 aj) x.circ.nodes),((ah 1 Value.string) x.circ.names),((ah 3 aD) x.circ.mems),((ah 1 i64) x.circ.outs),((ah 1 i64) x.order),((ah 1 i64) x.ins),((ah 1 i64) x.state),(iF x.net),(iI x.pin)] fun h O=>?_;refine gX ?_;refine O.new (ai (l:=[(i64 0)]) rfl rfl rfl) fun gi h O=>?_;refine gH ?_;refine O.stC 1 (.head _) [(i64 0)] fun h O=>?_;refine gX ?_;have O:=O.sel [0,2,3] (by decide);refine ib hM (nn:=60) (by kernel_rfl) (σ:=Unit) (fun _ h=>Own vars h0 [(some gi,.cells [(i64 0)] false),(some g9,.cells [.slice (some ⟨go,0,none⟩) l.length l.length] false),(some go,.cells (flatC ((List.replicate l.length ([]:List Nat)).map (ah 1 n64))) false)] h)
   (fun _=>[(2,ah 2 aP []),(9,.pointer (some ⟨g9,0,none⟩)),(12,.pointer (some ⟨gi,0,none⟩))]) (fun _=>0) rfl ⟨(),O,rfl,rfl,rfl,trivial⟩ ?_
  clear O;rintro _ base h O;refine gX ?_;refine bf ?_ (by exact rfl);refine gX ?_;exact⟨List.replicate l.length [],rfl,O.ext,fun h2 F=>VLe.tup (LLe.cons (O.gA F (Nat.le_refl _) (.tail _ (.tail _ (.head _))) (fun _=>rfl) (by simp)) (LLe.cons (VLe.refl _ _) (LLe.nil _)))⟩
set_option maxHeartbeats 8000000
def eW (n j:Nat):List (List Nat):=List.replicate j [0]++List.replicate (n-j) []
theorem qE {n j:Nat} (h:j<=n):(eW n j).length=n:=by simp[eW];omega
theorem xl {n j:Nat} (h:j<n):(eW n j)[j]?=some []:=by
 unfold eW;rw[List.getElem?_append_right (by simp),List.length_replicate,Nat.sub_self,List.getElem?_replicate,if_pos (by omega)]
theorem wY {n j:Nat} (h:j<n):(eW n j).set j [0]=eW n (j+1):=by
 unfold eW;apply List.ext_getElem?;intro i;rw[List.getElem?_set];by_cases e:j=i
 ·subst e;rw[if_pos rfl,if_pos (by simp;omega),List.getElem?_append_left (by simp),List.getElem?_replicate,if_pos (by omega)]
 ·rw[if_neg e];by_cases c:i<j
  ·rw[List.getElem?_append_left (by simpa using c),List.getElem?_append_left (by simp;omega),List.getElem?_replicate,List.getElem?_replicate,if_pos c,if_pos (by omega)]
  ·rw[List.getElem?_append_right (by simp;omega),List.getElem?_append_right (by simp;omega),List.getElem?_replicate,List.getElem?_replicate,List.length_replicate,List.length_replicate];by_cases c2:i<n
   ·rw[if_pos (by omega),if_pos (by omega)]
   ·rw[if_neg (by omega),if_neg (by omega)]
theorem zt {n:Nat}:RowsOk (List.replicate n (none:Option Nat)) (eW n 0):=by
 refine⟨by simp[eW],fun j r a hr ha=>?_⟩;unfold eW at hr;rw[List.replicate_zero,List.nil_append,List.getElem?_replicate] at hr;rw[List.getElem?_replicate] at ha;split at hr
 ·split at ha
  ·cases hr;cases ha;simp
  ·cases ha
 ·cases hr
theorem tD {A:List (Option Nat)}{R:List (List Nat)} (ok:RowsOk A R) {j g v:Nat}:RowsOk (A.set j (some g)) (R.set j [v]):=by
 refine⟨by rw[List.length_set,List.length_set];exact ok.len,fun i r a hr ha=>?_⟩;rw[List.getElem?_set] at hr ha;by_cases e:j=i
 ·rw[if_pos e] at hr ha;split at hr
  ·split at ha
   ·cases hr;cases ha;simp
   ·cases ha
  ·cases hr
 ·rw[if_neg e] at hr ha;exact ok.nil i r a hr ha
theorem iS {A:List (Option Nat)}{R:List (List Nat)}{j:Nat}{a:Option Nat}{r:List Nat} (hl:A.length=R.length):aw 1 n64 (A.set j a) (R.set j r)=(aw 1 n64 A R).set j (ae 1 a (r.map n64)):=by
 unfold aw;apply List.ext_getElem?;intro i;rw[List.getElem?_zipWith,List.getElem?_set,List.getElem?_set,List.getElem?_set,List.getElem?_zipWith,List.length_zipWith];by_cases e:j=i
 ·subst e;rw[if_pos rfl,if_pos rfl,if_pos rfl];by_cases h1:j<A.length
  ·rw[if_pos h1,if_pos (by omega),if_pos (by omega)]
  ·rw[if_neg h1,if_neg (by omega),if_neg (by omega)]
 ·rw[if_neg e,if_neg e,if_neg e]
set_option maxHeartbeats 8000000
theorem CD {h0 h:Heap}{S:List Slot}{A:List (Option Nat)}{R:List (List Nat)}{g9 gi go n j v w:Nat} (ok:RowsOk A R) (hR:R[j]?=some [w]) (hn:n=R.length) (m9:(some g9,.cells [.slice (some ⟨go,0,none⟩) n n] false)∈S) (mi:(some gi,.cells [(i64 0)] false)∈S) (mo:(some go,.cells (aw 1 n64 A R) false)∈S)
  (O:Own vars h0 (S++aC n64 A R) h):∃ u h',CallD Tryz.prog NG 186 ⟨[i64 j,n64 v,.pointer (some ⟨g9,0,none⟩),.pointer (some ⟨gi,0,none⟩)]⟩ h u h'/\∃ _u:Unit,u=.tuple ⟨[]⟩/\RowsOk A (R.set j [v])/\Own vars h0 (S++aC n64 A (R.set j [v])) h':=by
 obtain⟨a,ha,hnil,O1⟩:=Own.focus ok O hR
 have hj:j<n:=by rw[hn];exact ag hR
 obtain⟨gr,rfl⟩:∃ g,a=some g:=by
  cases a with
  |none=>have:=hnil.1 rfl;cases this
  |some g=>exact⟨g,rfl⟩
 refine fg Tryz.func186 ?_;conv=>whnf
 refine CodeS.kX ?_;refine gH ?_;refine ldO (O1.at (.tail _ (List.mem_append_left _ m9))) ?_;refine gH ?_;refine⟨.inr (.inr (bz rfl (O1.at (.tail _ (List.mem_append_left _ m9))) rfl rfl)),?_⟩;refine gH ?_;refine bb (s:=1) (j:=j) rfl rfl rfl rfl hj ?_;refine gH ?_;refine⟨_,nL (O1.at (.tail _ (List.mem_append_left _ mo))) ha hR rfl rfl,?_⟩;refine gH ?_;refine⟨.inr (.inr (nL (O1.at (.tail _ (List.mem_append_left _ mo))) ha hR rfl rfl)),?_⟩;refine gH ?_;refine ldO (O1.at (.tail _ (List.mem_append_left _ mi))) ?_;refine gH ?_;refine CM (a:=0) (b:=64) (W:=True) ⟨by decide,by decide,trivial⟩ fun _=>?_;refine gH ?_;refine bb (s:=1) (j:=0/64) (g:=gr) (off:=0) (n:=1) (cap:=1) (sp:=some 1) rfl rfl rfl rfl (by decide) ?_;refine gH ?_;refine O1.stE 1 (.head _) (j:=0/64) (l:=[w]) (enc:=n64) (y:=w) rfl v fun h O2=>?_
 conv=>whnf
 refine⟨.inl (by kernel_rfl),?_⟩;refine gH ?_;have O3:=O2.nQ (r':=[v]) hR ok
 have hA:A.set j (some gr)=A:=by
  apply List.ext_getElem?;intro i;rw[List.getElem?_set];by_cases e:j=i
  ·subst e;rw[if_pos rfl,ha,if_pos (ag ha)]
  ·rw[if_neg e]
 have ok3:=tD ok (j:=j) (g:=gr) (v:=v);rw[hA] at O3 ok3;exact⟨(),rfl,ok3,O3⟩
theorem ym {A:List (Option Nat)}{R:List (List Nat)}{j v w:Nat} (hR:R[j]?=some [w]):aw 1 n64 A (R.set j [v])=aw 1 n64 A R:=by
 unfold aw;apply List.ext_getElem?;intro i;rw[List.getElem?_zipWith,List.getElem?_zipWith,List.getElem?_set];by_cases e:j=i
 ·subst e;rw[if_pos rfl,if_pos (ag hR),hR]
  cases A[j]? <;> rfl
 ·rw[if_neg e]
end Go.Proofs.YtgiedjgdlckahaaGreatDoor

namespace Go.Abs
section
variable {P:Program} {ρ:Operand->Value} {d:Option Tmp} {ty:TypeId} {pos:String} {af:Array Edge} {gd:Option (Nat×Bool)} {t yt:TypeId} {x y:Operand} {K:Value->Prop}
theorem JO {a b:Nat} (hb:b<=a) (ha:a<2 ^ 64) (k:K (.int .u64 (Int.ofNat (a-b)))) (hx:ρ x=.int .u64 (Int.ofNat a):=by exact rfl) (hy:ρ y=.int .u64 (Int.ofNat b):=by exact rfl) :
  ∃ v,aq P ρ { dst:=d,op:=.binOp .sub t x y yt,type:=ty,pos:=pos,after:=af,guard:=gd }=some v/\K v:=by
 refine⟨_,vr hx hy ?_,k⟩;simp only[dK,Option.some.injEq,Value.int.injEq,true_and]
 have e:Int.ofNat a-Int.ofNat b=Int.ofNat (a-b):=by simp only[Int.ofNat_eq_natCast];omega
 rw[e];exact nD (by omega)
end
theorem Gq {k i:Nat} (hk:k<64):(cz 1 k-1).testBit i=decide (i<k):=by
 have e:cz 1 k=2 ^ k:=by
  unfold cz;rw[Nat.one_mul];exact Nat.mod_eq_of_lt (Nat.pow_lt_pow_right (by decide) hk)
 rw[e,Nat.testBit_two_pow_sub_one]
theorem zy {k:Nat} (hk:k<64):1<=cz 1 k/\cz 1 k<2 ^ 64:=by
 have e:cz 1 k=2 ^ k:=by
  unfold cz;rw[Nat.one_mul];exact Nat.mod_eq_of_lt (Nat.pow_lt_pow_right (by decide) hk)
 rw[e];exact⟨Nat.one_le_two_pow,Nat.pow_lt_pow_right (by decide) hk⟩
end Go.Abs

namespace Go.Proofs.YtgiedjgdlckahaaGreatDoor
open Go.Abs
set_option maxRecDepth 100000
set_option maxHeartbeats 8000000
def wH (n h:Nat):Nat:=if n<64 then aB h (cz 1 n-1) else h
theorem FU {x:Eng}{l:List Flt}{ts:List Pat}{G:Nat->Nat->Prop} (hm:eP ts x.ins.length fun pi=>eJ ts x.state.length fun ps=>aK x pi ps fun gd=>∀ (k:Nat) (f:Flt),l[k]?=some f->bn x f gd.1 fun y=>aK y pi ps fun bd=>bG gd.2 bd.2 fun h=>G k (wH ts.length h))
  (ht:ts.length<=64) {h0 h:Heap} {S:List Slot} {A:List (Option Nat)} {R:List (List Nat)} {g9 gi go:Nat} (hl:l.length<2 ^ 60) (ok:RowsOk A R) (hn:l.length=R.length) (hR:∀ k,k<l.length->R[k]?=some [0]) (m9:(some g9,.cells [.slice (some ⟨go,0,none⟩) l.length l.length] false)∈S) (mi:(some gi,.cells [(i64 0)] false)∈S) (mo:(some go,.cells (aw 1 n64 A R) false)∈S)
  (O:Own vars h0 (S++aC n64 A R) h) :
  ∃ u h',CallD Tryz.prog NG 185 ⟨[kG x,ah 5 az l,ah 2 aP ts,.func (.func 186) ⟨[]⟩ ⟨[.pointer (some ⟨g9,0,none⟩),.pointer (some ⟨gi,0,none⟩)]⟩]⟩ h u h'/\∃ (_u:Unit) (R':List (List Nat)),u=.tuple ⟨[]⟩/\R'.length=l.length/\(∀ k,k<l.length->∃ v,R'[k]?=some [v]/\G k v)/\aw 1 n64 A R'=aw 1 n64 A R/\RowsOk A R'/\Own vars h0 (S++aC n64 A R') h':=by
 refine fg Tryz.func185 ?_;refine gX ?_;refine fz ?_;refine gX ?_;refine ca (uY hm O.has) fun pi hm=>?_;refine gX ?_;refine ca (tP hm O.has) fun ps hm=>?_;refine gX ?_;refine ca (eY hm O.has) fun gd hm=>?_;refine gX ?_;refine ib hM (nn:=68) (by kernel_rfl) (σ:=Nat×List (List Nat)) (fun s h=>s.1<=l.length/\s.2.length=l.length/\(∀ k,k<s.1->∃ v,s.2[k]?=some [v]/\G k v)/\(∀ k,s.1<=k->k<l.length->s.2[k]?=some [0])/\aw 1 n64 A s.2=aw 1 n64 A R/\RowsOk A s.2/\Own vars h0 (S++aC n64 A s.2) h)
  (fun s=>[(1,ah 5 az l),(2,ah 2 aP ts),(3,.func (.func 186) ⟨[]⟩ ⟨[.pointer (some ⟨g9,0,none⟩),.pointer (some ⟨gi,0,none⟩)]⟩),(4,FP (kG x)),(8,ah 2 encWd pi),(9,ah 2 encWd ps),(10,ah 2 encWd gd.1),(11,ah 2 encWd gd.2),(34,i64 l.length),(35,i64 s.1)]) (fun s=>l.length-s.1) rfl
  ⟨(0,R),⟨Nat.zero_le _,hn.symm,fun k hk=>absurd hk (Nat.not_lt_zero _),fun k _ hk=>hR k hk,rfl,ok,O⟩,rfl,rfl,rfl,rfl,rfl,rfl,rfl,rfl,rfl,rfl,trivial⟩ ?_
 clear O ok;rintro⟨j,R1⟩ base h ⟨hj,hlen,hdone,htodo,hrv,ok,O⟩;dsimp only at hj hlen hdone htodo hrv ok O;refine gX ?_;by_cases hlt:j<l.length
 ·refine bt ?_ (congrArg Value.bool (by show ltN j l.length=true;rw[aY];simp;omega));conv=>whnf
  obtain⟨f,hf⟩:∃ f,l[j]?=some f:=⟨_,List.getElem?_eq_getElem hlt⟩;have hmj:=hm j f hf
  apply Cs;conv=>whnf
  apply Cs;conv=>whnf
  apply Cs;conv=>whnf
  apply Cs;conv=>whnf
  apply Cs;refine gH ?_
  apply Cs;conv=>whnf
  refine CodeS.rH ?_;refine gH ?_;refine atF (W:=fun _=>True) ⟨f,hf,trivial⟩ fun f' hf' _=>?_;rw[hf] at hf';cases hf';refine gH ?_;refine ca (jA hmj O.has) fun y hmj=>?_;refine gH ?_;refine ca (eY hmj O.has) fun bd hmj=>?_;refine gX ?_;refine ca (lk hmj O.has) fun hits hmj=>?_;refine gX ?_
  have step:∀ v,G j v->(∀ k,k<j+1->∃ w,(R1.set j [v])[k]?=some [w]/\G k w)/\(∀ k,j+1<=k->k<l.length->(R1.set j [v])[k]?=some [0])/\aw 1 n64 A (R1.set j [v])=aw 1 n64 A R:=by
   intro v hv;refine⟨fun k hk=>?_,fun k hk hk2=>?_,by rw[ym (htodo j (Nat.le_refl _) hlt)];exact hrv⟩
   ·by_cases e:k=j
    ·subst e;exact⟨v,by rw[List.getElem?_set,if_pos rfl,if_pos (by omega)],hv⟩
    ·rw[List.getElem?_set,if_neg (Ne.symm e)];exact hdone k (by omega)
   ·rw[List.getElem?_set,if_neg (by omega)];exact htodo k (by omega) hk2
  by_cases hk:ts.length<64
  ·have hv:G j (aB hits (cz 1 ts.length-1)):=by rw[wH,if_pos hk] at hmj;exact hmj
   refine bt ?_ (congrArg Value.bool (by show ltN ts.length 64=true;rw[aY];simp;omega));refine gX ?_;refine Ik (a:=1) (b:=ts.length) (W:=True) ⟨by omega,trivial⟩ fun _=>?_;refine gH ?_;refine JO (a:=cz 1 ts.length) (b:=1) (zy hk).1 (zy hk).2 ?_;refine gH ?_;refine eV (a:=hits) (b:=cz 1 ts.length-1) ?_;refine gX ?_;obtain⟨_,h2,cd,_,rfl,ok2,O2⟩:=CD (n:=l.length) (v:=aB hits (cz 1 ts.length-1)) ok (htodo j (Nat.le_refl _) hlt) hlen.symm m9 mi (by rw[hrv];exact mo) O;refine⟨_,_,cd,?_⟩;refine gX ?_;refine aH (a:=j) (b:=1) (W:=True) ⟨by omega,trivial⟩ fun _=>?_;refine gX ?_;exact⟨(j+1,R1.set j [aB hits (cz 1 ts.length-1)]),by show l.length-(j+1)<l.length-j;omega,⟨hlt,by rw[List.length_set];exact hlen,(step _ hv).1,(step _ hv).2.1,(step _ hv).2.2,ok2,O2⟩,rfl,rfl,rfl,rfl,rfl,rfl,rfl,rfl,rfl,rfl,trivial⟩
  ·have hv:G j hits:=by rw[wH,if_neg hk] at hmj;exact hmj
   refine bf ?_ (congrArg Value.bool (by show ltN ts.length 64=false;rw[aY];simp;omega));refine gX ?_;obtain⟨_,h2,cd,_,rfl,ok2,O2⟩:=CD (n:=l.length) (v:=hits) ok (htodo j (Nat.le_refl _) hlt) hlen.symm m9 mi (by rw[hrv];exact mo) O;refine⟨_,_,cd,?_⟩;refine gX ?_;refine aH (a:=j) (b:=1) (W:=True) ⟨by omega,trivial⟩ fun _=>?_;refine gX ?_;exact⟨(j+1,R1.set j [hits]),by show l.length-(j+1)<l.length-j;omega,⟨hlt,by rw[List.length_set];exact hlen,(step _ hv).1,(step _ hv).2.1,(step _ hv).2.2,ok2,O2⟩,rfl,rfl,rfl,rfl,rfl,rfl,rfl,rfl,rfl,rfl,trivial⟩
 ·refine bf ?_ (congrArg Value.bool (by show ltN j l.length=false;rw[aY];simp;omega));refine gX ?_;exact⟨(),R1,rfl,hlen,fun k hk=>hdone k (by omega),hrv,ok,O⟩
set_option maxHeartbeats 8000000
theorem zL {c:Circ}{l:List Flt}{ts:List Pat}{G:Nat->Nat->Prop} (hc:cp c l ts (fun e=>e=0)) (hord:cu c fun x=>eP ts x.ins.length fun pi=>eJ ts x.state.length fun ps=>aK x pi ps fun gd=>∀ (k:Nat) (f:Flt),l[k]?=some f->bn x f gd.1 fun y=>aK y pi ps fun bd=>bG gd.2 bd.2 fun h=>G k (wH ts.length h)) (hl:l.length<=65536) (ht:0<ts.length) (ht2:ts.length<=64) {h0:Heap} (hB:HasB vars h0) :
  ∃ r:List (List Nat),(r.length=l.length/\∀ k,k<l.length->∃ v,r[k]?=some [v]/\G k v)/\CallD Tryz.prog NG 114 ⟨[ar c,ah 5 az l,ah 2 aP ts]⟩ h0 ((fun (r:List (List Nat))=>Value.tuple ⟨[ah 1 (ah 1 n64) r,i64 0]⟩) r) h0:=by
 refine fw Tryz.func114 hB (enc:=fun (r:List (List Nat))=>Value.tuple ⟨[ah 1 (ah 1 n64) r,i64 0]⟩) (fun r=>PureV.tup (AllPure.cons (cF fun _=>AllPure.cons (cF fun _=>AllPure.cons (PureV.flat rfl) AllPure.nil) AllPure.nil) (AllPure.cons (PureV.flat rfl) AllPure.nil))) fun O=>?_;conv=>whnf
 refine gX ?_;refine fz ?_;refine gX ?_;refine ca (iV hc O.has) fun e1 hm1=>?_;obtain rfl:e1=0:=hm1;refine gX ?_;refine bf ?_;refine gX ?_;refine O.vd (b:=24) n64 1 rfl rfl rfl rfl rfl rfl (by omega) (by omega) fun go h O=>?_;refine gH ?_;refine O.new (ai (l:=[(.slice none 0 0)]) rfl rfl rfl) fun g9 h O=>?_;refine gH ?_;refine O.stC 1 (.head _) [.slice (some ⟨go,0,none⟩) l.length l.length] fun h O=>?_;refine gX ?_;refine ib hM (nn:=60) (by kernel_rfl) (σ:=Nat×List (Option Nat)) (fun s h=>s.1<=l.length/\RowsOk s.2 (eW l.length s.1)/\Own vars h0 ([(some g9,.cells [.slice (some ⟨go,0,none⟩) l.length l.length] false),(some go,.cells (aw 1 n64 s.2 (eW l.length s.1)) false)]++aC n64 s.2 (eW l.length s.1)) h)
  (fun s=>[(1,ah 5 az l),(2,ah 2 aP ts),(3,FP (ar c)),(9,.pointer (some ⟨g9,0,none⟩)),(24,i64 l.length),(25,i64 s.1)]) (fun s=>l.length-s.1) rfl ⟨(0,List.replicate l.length none),⟨Nat.zero_le _,zt,O⟩,rfl,rfl,rfl,rfl,rfl,rfl,trivial⟩ ?_
 clear O;rintro⟨j,A⟩ base h ⟨hj,ok,O⟩;dsimp only at hj ok O;refine gX ?_;by_cases hlt:j<l.length
 ·refine bt ?_ (congrArg Value.bool (by show ltN j l.length=true;rw[aY];simp;omega));conv=>whnf
  apply Cs;conv=>whnf
  apply Cs;conv=>whnf
  apply Cs;conv=>whnf
  apply Cs;conv=>whnf
  apply Cs;refine gH ?_;refine CodeS.kX ?_;refine gH ?_;refine⟨.inr (.inr (bz rfl O.i0 rfl rfl)),?_⟩;refine gH ?_;refine aH (a:=ts.length) (b:=64) (W:=True) ⟨by omega,trivial⟩ fun _=>?_;refine gH ?_;refine nW (a:=ts.length+64) (b:=1) (W:=True) ⟨by omega,by omega,trivial⟩ fun _=>?_;refine gH ?_;refine CM (a:=ts.length+64-1) (b:=64) (W:=True) ⟨by decide,by omega,trivial⟩ fun _=>?_;refine gH ?_
  have hq:(ts.length+64-1)/64=1:=by omega
  refine O.BE (enc:=n64) (z:=0) (b:=8) (s:=1) (n:=(ts.length+64-1)/64) rfl rfl rfl rfl rfl (by decide) (by kernel_rfl) rfl rfl (by omega) (by omega) fun gr h O=>?_;refine gH ?_;rw[hq] at O;refine bb (s:=1) (j:=j) rfl rfl rfl rfl hlt ?_;refine gH ?_
  have hvl:(aw 1 n64 A (eW l.length j)).length=l.length:=by unfold aw;rw[List.length_zipWith,ok.len,Nat.min_self,qE hj]
  refine O.store (n:=1) (cs':=bp (aw 1 n64 A (eW l.length j)) (0+j*1) [.slice (some ⟨gr,0,none⟩) ((ts.length+64-1)/64) ((ts.length+64-1)/64)]) (.tail _ (.tail _ (.head _))) rfl rfl rfl rfl (by omega) rfl rfl fun h O=>?_
  conv=>whnf
  refine⟨.inl (by kernel_rfl),?_⟩;refine gH ?_;rw[JA (by omega),hq] at O;refine CodeS.xF (cs':=(aw 1 n64 A (eW l.length j)).set j (ae 1 (some gr) ([0].map n64))) O (.tail _ (.tail _ (.head _))) (t2:=28) rfl rfl (LLe.set (O.AV (l:=[0]) (enc:=n64) (s:=1) (n:=1) (.head _) (fun _=>rfl) rfl (Nat.lt_succ_self 0))) fun h O=>?_;rw[<- iS ok.len,wY hlt] at O
  have hA:A.set j none=A:=by
   have hrj:=xl hlt
   have haj:A[j]?=some none:=by
    have h1:j<A.length:=by have:=ok.len;rw[qE hj] at this;omega
    have h2:=ok.nil j [] A[j] hrj (List.getElem?_eq_getElem h1);rw[List.getElem?_eq_getElem h1,h2.2 rfl]
   apply List.ext_getElem?;intro i;rw[List.getElem?_set];by_cases e:j=i
   ·subst e;rw[if_pos rfl,haj];split
    ·rfl
    ·rename_i hh;rw[List.getElem?_eq_none (by omega)] at haj;cases haj
   ·rw[if_neg e]
  have O2:Own vars h0 ((some gr,.cells (flatC (([0]:List Nat).map n64)) false)::([(some g9,.cells [.slice (some ⟨go,0,none⟩) l.length l.length] false),(some go,.cells (aw 1 n64 (A.set j (some gr)) (eW l.length (j+1))) false)]++aC n64 (A.set j none) (eW l.length j))) h:=by rw[hA];exact O
  have O3:=O2.nQ (xl hlt) ok;have ok3:=tD ok (j:=j) (g:=gr) (v:=0);rw[wY hlt] at O3 ok3;refine gX ?_;refine aH (a:=j) (b:=1) (W:=True) ⟨by omega,trivial⟩ fun _=>?_;refine gX ?_;exact⟨(j+1,A.set j (some gr)),by show l.length-(j+1)<l.length-j;omega,⟨hlt,ok3,O3⟩,rfl,rfl,rfl,rfl,rfl,rfl,trivial⟩
 ·obtain rfl:j=l.length:=by omega
  refine bf ?_ (congrArg Value.bool (by show ltN l.length l.length=false;rw[aY];simp));refine gX ?_;refine ca (iT hord O.has) fun x hx=>?_;refine gH ?_;refine O.new (ai (l:=[(.slice none 0 0),(.slice none 0 0),(.slice none 0 0),(.slice none 0 0),(.slice none 0 0),(.slice none 0 0),(.slice none 0 0),.nilFunc,.nilFunc]) rfl rfl rfl) fun gx h O=>?_;refine gH ?_;refine O.stC 9 (.head _) [((ah 4 aj) x.circ.nodes),((ah 1 Value.string) x.circ.names),((ah 3 aD) x.circ.mems),((ah 1 i64) x.circ.outs),((ah 1 i64) x.order),((ah 1 i64) x.ins),((ah 1 i64) x.state),(iF x.net),(iI x.pin)] fun h O=>?_;refine gX ?_;refine O.new (ai (l:=[(i64 0)]) rfl rfl rfl) fun gi h O=>?_;refine gH ?_;refine O.stC 1 (.head _) [(i64 0)] fun h O=>?_;refine gX ?_;refine ib hM (nn:=60) (by kernel_rfl) (σ:=Nat×Nat×List (List Nat)) (fun s h=>(s.1=0/\s.2.2=eW l.length l.length\/s.1=64/\s.2.2.length=l.length/\∀ k,k<l.length->∃ v,s.2.2[k]?=some [v]/\G k v)/\RowsOk A s.2.2/\Own vars h0 ([(some s.2.1,.cells [(i64 s.1)] false),(some gx,.cells [((ah 4 aj) x.circ.nodes),((ah 1 Value.string) x.circ.names),((ah 3 aD) x.circ.mems),((ah 1 i64) x.circ.outs),((ah 1 i64) x.order),((ah 1 i64) x.ins),((ah 1 i64) x.state),(iF x.net),(iI x.pin)] false),(some g9,.cells [.slice (some ⟨go,0,none⟩) l.length l.length] false),(some go,.cells (aw 1 n64 A s.2.2) false)]++aC n64 A s.2.2) h)
   (fun s=>[(1,ah 5 az l),(2,ah 2 aP ts),(9,.pointer (some ⟨g9,0,none⟩)),(11,.pointer (some ⟨gx,0,none⟩)),(12,.pointer (some ⟨s.2.1,0,none⟩))]) (fun s=>64-s.1) rfl ⟨(0,gi,eW l.length l.length),⟨.inl ⟨rfl,rfl⟩,ok,O⟩,rfl,rfl,rfl,rfl,rfl,trivial⟩ ?_
  clear O ok;rintro⟨from_,gi,R⟩ base h ⟨hfr,ok,O⟩;dsimp only at hfr ok O;refine gX ?_
  rcases hfr with⟨rfl,rfl⟩|⟨rfl,hR,hG⟩
  ·refine bt ?_ (congrArg Value.bool (by show ltN 0 ts.length=true;rw[aY];simp;omega));conv=>whnf
   apply Cs;conv=>whnf
   apply Cs;conv=>whnf
   apply Cs;conv=>whnf
   refine CodeS.kX ?_;refine gH ?_;refine ldA (l:=[((ah 4 aj) x.circ.nodes),((ah 1 Value.string) x.circ.names),((ah 3 aD) x.circ.mems),((ah 1 i64) x.circ.outs),((ah 1 i64) x.order),((ah 1 i64) x.ins),((ah 1 i64) x.state),(iF x.net),(iI x.pin)]) O.i1 ?_;refine gH ?_;refine⟨.inr (.inr (aI (l:=[((ah 4 aj) x.circ.nodes),((ah 1 Value.string) x.circ.names),((ah 3 aD) x.circ.mems),((ah 1 i64) x.circ.outs),((ah 1 i64) x.order),((ah 1 i64) x.ins),((ah 1 i64) x.state),(iF x.net),(iI x.pin)]) rfl O.i1 rfl rfl (lbE rfl) rfl)),?_⟩;refine gH ?_;refine aH (a:=0) (b:=64) (W:=True) ⟨by decide,trivial⟩ fun _=>?_;refine gH ?_;refine⟨_,JD (a:=0+64) (b:=ts.length) rfl rfl,?_⟩;refine gH ?_;refine Ii (s:=2) (enc:=aP) (l:=ts) (i:=0) (j:=min (0+64) ts.length) (Nat.zero_le _) (Nat.min_le_right _ _) ?_;refine gH ?_
   have hts:List.drop 0 (List.take (min (0+64) ts.length) ts)=ts:=by rw[List.drop_zero,List.take_of_length_le (by omega)]
   have hR0:∀ k,k<l.length->(eW l.length l.length)[k]?=some [0]:=fun k hk=>by
    unfold eW;rw[List.getElem?_append_left (by simpa using hk),List.getElem?_replicate,if_pos hk]
   obtain⟨_,h2,cd,_,R',rfl,hl',hG',hrv',ok',O⟩:=FU (g9:=g9) (gi:=gi) (go:=go) hx ht2 (by omega) ok (qE (Nat.le_refl _)).symm hR0 (.tail _ (.tail _ (.head _))) (.head _) (.tail _ (.tail _ (.tail _ (.head _)))) O;rw[<- hts] at cd;rw[<- hrv'] at O;refine⟨_,_,cd,?_⟩
   conv=>whnf
   refine⟨.inl (by kernel_rfl),?_⟩;refine gX ?_;refine O.new (ai (l:=[(i64 0)]) rfl rfl rfl) fun g2 h O=>?_;refine gH ?_;refine O.stC 1 (.head _) [(i64 0)] fun h O=>?_;refine gX ?_;refine aH (a:=0) (b:=64) (W:=True) ⟨by decide,trivial⟩ fun _=>?_;refine gX ?_;refine O.stC 1 (.head _) [(i64 64)] fun h O=>?_;refine gX ?_;exact⟨(64,g2,R'),(by show 64-64<64-0;decide),⟨.inr ⟨rfl,hl',hG'⟩,ok',O.fY [_,_,_,_,_] [0,2,3,4] (by decide)⟩,rfl,rfl,rfl,rfl,rfl,trivial⟩
  ·refine bf ?_ (congrArg Value.bool (by show ltN 64 ts.length=false;rw[aY];simp;omega));refine gX ?_;exact⟨R,⟨hR,hG⟩,O.ext,fun h2 F=>VLe.tup (LLe.cons (O.FW F (Nat.le_refl _) (.tail _ (.tail _ (.tail _ (.head _)))) ok (fun _=>rfl) hR.symm) (LLe.cons (VLe.refl _ _) (LLe.nil _)))⟩
structure GK (ks:List Nat) (x:Node):Prop where
 kind1:1<=x.kind
 kind:x.kind<=13
 arity:Arity x.kind x.ins.length
 ins:∀ k∈x.ins,k<ks.length
 bus:x.kind=13->∀ k∈x.ins,ks.getD k 0=12
 mem:x.mem=0
 bit:x.bit=0
theorem nJ (ks:List Nat):∀ (i:Nat) (t:Nat),t∈cQ ks i->t<i/\ks.getD t 0=12
 |0,t,h=>by unfold cQ at h;cases h
 |i+1,t,h=>by
  unfold cQ at h;split at h
  ·rename_i e
   rcases List.mem_append.1 h with h|h
   ·have:=nJ ks i t h;exact⟨by omega,this.2⟩
   ·rw[List.mem_singleton] at h;subst h;exact⟨by omega,e⟩
  ·have:=nJ ks i t h;exact⟨by omega,this.2⟩
theorem nk {l:List Nat}{i:Nat} (h:i<l.length):l.getD i 0∈l:=by
 rw[List.getD,List.getElem?_eq_getElem h];exact List.getElem_mem h
theorem tc:∀ kk,kk<6->Arity (5+kk) 2/\Arity (5+kk) 3:=by decide
theorem Am (bus:Bool) (g:GData) {ks:List Nat} (hn:0<ks.length):GK ks (jq bus g ks):=by
 have ha:=Nat.mod_lt g.a hn;have hb:=Nat.mod_lt g.b hn;have hd:=Nat.mod_lt g.d hn
 have hkk:(if bus then g.kind%13 else g.kind%9)<13:=by
  split
  ·exact Nat.mod_lt _ (by decide)
  ·exact Nat.lt_trans (Nat.mod_lt _ (by decide)) (by decide)
 unfold jq;generalize (if bus then g.kind%13 else g.kind%9)=kk at hkk;by_cases c1:kk<6
 ·rw[if_pos c1];by_cases c2:128<=g.kind
  ·rw[if_pos c2];refine⟨by dsimp only;omega,by dsimp only;omega,?_,?_,fun e=>by dsimp only at e;omega,rfl,rfl⟩
   ·exact (tc kk c1).2
   ·intro k m;simp only[List.mem_cons,List.not_mem_nil,or_false] at m
    rcases m with rfl|rfl|rfl <;> assumption
  ·rw[if_neg c2];refine⟨by dsimp only;omega,by dsimp only;omega,?_,?_,fun e=>by dsimp only at e;omega,rfl,rfl⟩
   ·exact (tc kk c1).1
   ·intro k m;simp only[List.mem_cons,List.not_mem_nil,or_false] at m
    rcases m with rfl|rfl <;> assumption
 rw[if_neg c1];by_cases c2:kk=6
 ·rw[if_pos c2];exact⟨(by decide:1<=4),(by decide:4<=13),(by decide:Arity 4 1),fun k m=>by simp only[List.mem_cons,List.not_mem_nil,or_false] at m;subst m;exact ha,(fun e=>by cases e),rfl,rfl⟩
 rw[if_neg c2];by_cases c3:kk=7
 ·rw[if_pos c3];refine⟨(by decide:1<=11),(by decide:11<=13),(by decide:Arity 11 3),fun k m=>?_,(fun e=>by cases e),rfl,rfl⟩;simp only[List.mem_cons,List.not_mem_nil,or_false] at m
  rcases m with rfl|rfl|rfl <;> assumption
 rw[if_neg c3];by_cases c4:kk=9\/kk=10
 ·rw[if_pos c4];refine⟨(by decide:1<=12),(by decide:12<=13),(by decide:Arity 12 2),fun k m=>?_,(fun e=>by cases e),rfl,rfl⟩;simp only[List.mem_cons,List.not_mem_nil,or_false] at m
  rcases m with rfl|rfl <;> assumption
 rw[if_neg c4];by_cases c5:10<kk/\0<(cQ ks ks.length).length
 ·rw[if_pos c5];have h1:=nJ ks ks.length _ (nk (Nat.mod_lt g.a c5.2));have h2:=nJ ks ks.length _ (nk (Nat.mod_lt (g.a%(cQ ks ks.length).length+1) c5.2));by_cases c6:1<(cQ ks ks.length).length
  ·rw[if_pos c6]
   refine⟨(by decide:1<=13),(by decide:13<=13),(by decide:Arity 13 2),fun k m=>?_,fun _ k m=>?_,rfl,rfl⟩ <;>
   ·simp only[List.mem_cons,List.not_mem_nil,or_false] at m
    rcases m with rfl|rfl
    ·first|exact h1.1|exact h1.2
    ·first|exact h2.1|exact h2.2
  ·rw[if_neg c6]
   refine⟨(by decide:1<=13),(by decide:13<=13),(by decide:Arity 13 1),fun k m=>?_,fun _ k m=>?_,rfl,rfl⟩ <;>
   ·simp only[List.mem_cons,List.not_mem_nil,or_false] at m;subst m
    first|exact h1.1|exact h1.2
 rw[if_neg c5];by_cases c7:240<g.kind
 ·rw[if_pos c7]
  have:g.a%2=0\/g.a%2=1:=by omega
  rcases this with e|e <;> rw[e]
  ·exact⟨(by decide:1<=1),(by decide:1<=13),(by decide:Arity 1 0),(fun k m=>by cases m),(fun _ k m=>by cases m),rfl,rfl⟩
  ·exact⟨(by decide:1<=2),(by decide:2<=13),(by decide:Arity 2 0),(fun k m=>by cases m),(fun _ k m=>by cases m),rfl,rfl⟩
 ·rw[if_neg c7];exact⟨(by decide:1<=3),(by decide:3<=13),(by decide:Arity 3 1),fun k m=>by simp only[List.mem_cons,List.not_mem_nil,or_false] at m;subst m;exact ha,(fun e=>by cases e),rfl,rfl⟩
theorem si (bus:Bool) (gs:List GData) (base:List Node) (hb:0<base.length):∀ m,m<=gs.length->∀ (i:Nat) (y:Node),(eI bus gs base m)[i]?=some y ->
  (i<base.length/\base[i]?=some y)\/(base.length<=i/\∃ g,y=jq bus g (((eI bus gs base m).take i).map Node.kind))
 |0,_,i,y,h=>.inl ⟨ag h,h⟩
 |m+1,hm,i,y,h=>by
  have hg:gs[m]?=some gs[m]:=List.getElem?_eq_getElem (by omega);have hl:=fy bus gs base m (by omega);rw[nu hg] at h ⊢;by_cases c:i<(eI bus gs base m).length
  ·rw[List.getElem?_append_left c] at h
   rcases si bus gs base hb m (by omega) i y h with q|⟨q1,g,q2⟩
   ·exact .inl q
   ·refine .inr ⟨q1,g,?_⟩;rw[List.take_append_of_le_length (by omega)];exact q2
  ·have hi:i=(eI bus gs base m).length:=by
    have:=ag h;rw[List.length_append,List.length_singleton] at this;omega
   subst hi;rw[List.getElem?_append_right (Nat.le_refl _),Nat.sub_self] at h
   cases h
   refine .inr ⟨by omega,gs[m],?_⟩;rw[List.take_left'];rfl
theorem xm {first:Nat}{d:Nat->Nat}{ns:List Node}{j:Nat}:∀ {m},j<m->first+m<=ns.length->(nU first d m ns)[first+j]?=some (pS (d j))
 |m+1,h,hl=>by
  rw[nU,List.getElem?_set];by_cases c:m=j
  ·subst c;rw[if_pos rfl,if_pos (by rw[iU];omega)]
  ·rw[if_neg (by omega)];exact xm (by omega) (by omega)
theorem tO {first:Nat}{d:Nat->Nat}{ns:List Node}{j:Nat} (h:j<first):∀ m,(nU first d m ns)[j]?=ns[j]?
 |0=>rfl
 |m+1=>by rw[nU,List.getElem?_set_ne (by omega)];exact tO h m
def I5 (x:CData) (_i:Nat) (y:Node):Prop:=x.mem=true/\(y=DP 0\/y=DP 1)
theorem ta {x:CData}{i:Nat}{y:Node} (h:(fR x).nodes[i]?=some y) :
  (i<x.inp%4+1/\y=ij)\/(x.inp%4+1<=i/\i<x.inp%4+1+x.dffs%3/\∃ d,d<(cH x).length/\y=pS d)\/I5 x i y \/
  (x.inp%4+1+x.dffs%3<=i/\(cH x)[i]?=some y/\∃ g,y=jq x.bus g (((cH x).take i).map Node.kind)):=by
 have h:(nU (x.inp%4+1) (oB x (cH x).length) (x.dffs%3) (cH x))[i]?=some y:=h;have hbl:=gB x.inp x.dffs x.mem;have hrl:=iK x
 have hbase:∀ i,i<x.inp%4+1->(hZ x.inp x.dffs x.mem)[i]?=some ij:=fun i hi=>by
  unfold hZ;rw[List.append_assoc,List.getElem?_append_left (by rw[List.length_replicate];exact hi),List.getElem?_replicate,if_pos hi]
 by_cases c1:i<x.inp%4+1
 ·rw[tO c1] at h;unfold cH at h;rw[pd _ _ _ (by omega) _ (Nat.min_le_left _ _),hbase i c1] at h
  cases h
  exact .inl ⟨c1,rfl⟩
 ·by_cases c2:i<x.inp%4+1+x.dffs%3
  ·have e:i=x.inp%4+1+(i-(x.inp%4+1)):=by omega
   rw[e,xm (by omega) (by omega)] at h
   cases h
   exact .inr (.inl ⟨by omega,c2,_,Nat.mod_lt _ (qF x),rfl⟩)
  ·rw[qk (by omega)] at h
   rcases si x.bus x.gates (hZ x.inp x.dffs x.mem) (by omega) _ (Nat.min_le_left _ 8) i y h with⟨q,e⟩|⟨_,g,q⟩
   ·refine .inr (.inr (.inl ?_));unfold hZ at e;rw[List.getElem?_append_right (by simp only[List.length_append,List.length_replicate];omega)] at e
    cases hm:x.mem
    ·rw[hm] at e;simp at e
    ·rw[hm] at e;simp only[if_true] at e;refine⟨hm,?_⟩;have hme:=List.mem_of_getElem? e;simpa using hme
   ·exact .inr (.inr (.inr ⟨by omega,h,g,q⟩))
theorem DT {x:CData} (hm:x.mem=false) {i:Nat}{y:Node} (h:(fR x).nodes[i]?=some y) :
  (i<x.inp%4+1/\y=ij)\/(x.inp%4+1<=i/\i<x.inp%4+1+x.dffs%3/\∃ d,d<(cH x).length/\y=pS d) \/
  (x.inp%4+1+x.dffs%3<=i/\(cH x)[i]?=some y/\∃ g,y=jq x.bus g (((cH x).take i).map Node.kind)):=by
 rcases ta h with q|q|q|q
 ·exact .inl q
 ·exact .inr (.inl q)
 ·have:=q.1;rw[hm] at this;cases this
 ·exact .inr (.inr q)
theorem AH (x:CData) (k:Nat):(((fR x).nodes).map Node.kind).getD k 0=((cH x).map Node.kind).getD k 0:=by
 have hrl:=iK x
 show ((nU (x.inp%4+1) (oB x (cH x).length) (x.dffs%3) (cH x)).map Node.kind).getD k 0=_
 rw[List.getD,List.getD,List.getElem?_map,List.getElem?_map];by_cases c1:k<x.inp%4+1
 ·rw[tO c1]
 ·by_cases c2:k<x.inp%4+1+x.dffs%3
  ·have e:k=x.inp%4+1+(k-(x.inp%4+1)):=by omega
   rw[e,xm (by omega) (by omega),yF (by omega)];rfl
  ·rw[qk (by omega)]
theorem nN (x:CData):(fR x).mems=if x.mem then [⟨[x.port0%(cH x).length],[x.port1%(cH x).length,x.port2%(cH x).length],x.port3%(cH x).length⟩] else []:=rfl
theorem AU (x:CData):Good (fR x):=by
 have hle:=B8 x;have hpos:=qF x;have hn:(fR x).nodes.length=(cH x).length:=iU _
 have node:∀ (i:Nat) (y:Node),(fR x).nodes[i]?=some y->GoodN (fR x) i y:=by
  intro i y h;have hi:=ag h;rw[hn] at hi
  rcases ta h with⟨_,rfl⟩|⟨_,_,d,hd,rfl⟩|⟨hm,e⟩|⟨h1,h2,g,hg⟩
  ·exact⟨(by decide:0<=15),(by decide:Arity 0 0),(fun k m=>by cases m),(fun e=>by cases e),fun _=>⟨rfl,rfl⟩,(fun e=>by cases e),fun e=>absurd e (by decide:¬ 1<=0)⟩
  ·refine⟨(by decide:14<=15),(by decide:Arity 14 1),fun k m=>?_,(fun e=>by cases e),fun _=>⟨rfl,rfl⟩,(fun e=>by cases e),fun _ e=>absurd e (by decide:¬ 14<=13)⟩
   have:k=d:=by simpa[pS] using m
   rw[hn,this];exact hd
  ·have em:=nN x;rw[hm] at em;simp only[if_true] at em
   rcases e with rfl|rfl
   ·exact⟨(by decide:15<=15),(by decide:Arity 15 0),(fun k m=>by cases m),(fun e=>by cases e),fun e=>absurd rfl e,fun _=>⟨_,(by rw[em];rfl),by show (0:Nat)<2;decide⟩,fun _ e=>absurd e (by decide:¬ 15<=13)⟩
   ·exact⟨(by decide:15<=15),(by decide:Arity 15 0),(fun k m=>by cases m),(fun e=>by cases e),fun e=>absurd rfl e,fun _=>⟨_,(by rw[em];rfl),by show (1:Nat)<2;decide⟩,fun _ e=>absurd e (by decide:¬ 15<=13)⟩
  ·have hks:(((cH x).take i).map Node.kind).length=i:=by rw[List.length_map,List.length_take];omega
   have G:=Am x.bus g (ks:=((cH x).take i).map Node.kind) (by omega);rw[<- hg] at G
   have lt:∀ k∈y.ins,k<i:=fun k m=>by have:=G.ins k m;omega
   refine⟨by have:=G.kind;omega,G.arity,fun k m=>by have:=lt k m;omega,fun e k m=>?_,fun _=>⟨G.mem,G.bit⟩,fun e=>by have:=G.kind;omega,fun _ _=>lt⟩;have hk:=lt k m
   have hk2:k<(fR x).nodes.length:=by omega
   refine⟨_,List.getElem?_eq_getElem hk2,?_⟩;have e1:=AH x k;rw[List.getD,List.getElem?_map,List.getElem?_eq_getElem hk2] at e1;have e2:=G.bus e k m;rw[List.getD,List.getElem?_map,List.getElem?_take,if_pos hk] at e2;rw[List.getD,List.getElem?_map,e2] at e1;exact e1
 refine⟨by omega,by show ((List.range (cH x).length).map lj).length=_;rw[hn];simp,FA (n:=(cH x).length) (by omega) rfl,Ey ⟨by omega,fun i y h=>⟨(node i y h).ins,(node i y h).few⟩⟩,?_,?_,?_,?_,node,by rw[hn];exact hpos⟩
 ·intro m hme;rw[nN] at hme;split at hme
  ·rw[List.mem_singleton] at hme;subst hme
   have lt:∀ a,a%(cH x).length<(fR x).nodes.length:=fun a=>by rw[hn];exact Nat.mod_lt _ hpos
   exact⟨(by decide:1<=1/\1<=8),(by decide:1<=2/\2<=32),fun k m=>by rw[List.mem_singleton.1 m];exact lt _,fun k m=>by simp only[List.mem_cons,List.not_mem_nil,or_false] at m;rcases m with rfl|rfl <;> exact lt _,lt _⟩
  ·cases hme
 ·rw[nN];split <;> simp
 ·intro o m;have m:o∈(x.outs.take 3).map (· % (cH x).length)++[(cH x).length-1]:=m;rw[hn]
  rcases List.mem_append.1 m with m|m
  ·obtain⟨q,_,rfl⟩:=List.mem_map.1 m;exact Nat.mod_lt _ hpos
  ·rw[List.mem_singleton] at m;omega
 ·show ((x.outs.take 3).map (· % (cH x).length)++[(cH x).length-1]).length<=16
  rw[List.length_append,List.length_map,List.length_take,List.length_singleton];omega
theorem Db {x:CData} (_:x.mem=false):Good (fR x):=AU x
end Go.Proofs.YtgiedjgdlckahaaGreatDoor
