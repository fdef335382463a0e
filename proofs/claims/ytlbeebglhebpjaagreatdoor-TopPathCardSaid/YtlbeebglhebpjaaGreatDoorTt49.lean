/-
  All, Alz, Knc, Kn, Tl1, Tl2, Tl3, Tl4, Tl5, Tw2, Cir12, Tpb, Knd, TopPath: parts of the proof.
-/
import Derived.Test.YtlbeebglhebpjaaGreatDoorTt48
namespace Go.Proofs.YtlbeebglhebpjaaGreatDoor
open Go.Abs
set_option maxRecDepth 100000
set_option maxHeartbeats 8000000
def jZ (m:Nat) (ls:List LnZ):List Flt:=ls.flatMap fun x=>[⟨m,x,0,0⟩,⟨m,x,1,0⟩]
theorem tn {m:Nat}{ls:List LnZ}{k:Nat}{x:LnZ} (hx:ls[k]?=some x):jZ m (ls.take (k+1))=jZ m (ls.take k)++[⟨m,x,0,0⟩]++[⟨m,x,1,0⟩]:=by
 have:ls.take (k+1)=ls.take k++[x]:=by
  rw[List.take_add_one,hx];rfl
 rw[this]
 simp[jZ]
theorem Ao (m:Nat) (ls:List LnZ):(jZ m ls).length=2*ls.length:=by
 induction ls with
 |nil=>rfl
 |cons x l ih=>simp[jZ] at ih ⊢;omega
theorem sq {c:Circ}{m:Nat}{ls:List LnZ} (hl:bw c (fun r=>r=(ls,0))) (hm:m<2) (hn:2*ls.length<65536) :
  FnV Tryz.prog NG vars 30 ⟨[ax c,n8 m]⟩ (.tuple ⟨[ah 5 bE (jZ m ls),i64 0]⟩):=by
 refine fnT Tryz.func30 (by exact rfl) (fk Tryz.func30) (lbE rfl) (PureV.tup (ag.cons (cb (fun _=>nV _)) (ag.cons (PureV.flat rfl) (ag.nil)))) fun h0 O=>?_
 refine CodeT.seq hM (by kernel_rfl) ?_;refine gX ?_
 refine fz ?_;refine gH ?_
 (first|refine O.new (ai (l:=[nS]) rfl rfl rfl) fun g4 h O=>?_|refine O.bF (ai (l:=[nS]) rfl rfl rfl) fun g4 h O=>?_);refine gH ?_
 (first|refine O.new (ai (l:=[(i64 0)]) rfl rfl rfl) fun g5 h O=>?_|refine O.bF (ai (l:=[(i64 0)]) rfl rfl rfl) fun g5 h O=>?_);refine gH ?_
 refine CodeT.seq hM (by kernel_rfl) ?_;refine gX ?_
 refine ca (dr hl O.has) fun r1 hm1=>?_;subst hm1;refine gX ?_
 refine CodeT.seq hM (by kernel_rfl) ?_;refine gX ?_
 refine bf ?_;refine gX ?_
 refine bf ?_ (congrArg Value.bool (by show ltN 3 m=false;rw[cW];simp;omega));refine gX ?_
 refine CodeT.seq hM (by kernel_rfl) ?_;refine gX ?_
 (first|refine O.new (ai (l:=[nS]) rfl rfl rfl) fun g8 h O=>?_|refine O.bF (ai (l:=[nS]) rfl rfl rfl) fun g8 h O=>?_);refine gH ?_
 refine CodeT.range hM (by kernel_rfl) ?_;refine gX ?_
 refine fg Tryz.func61 ?_;refine gX ?_
 refine fz ?_;refine gH ?_
 refine fz ?_;refine gH ?_
 refine fz ?_;refine gX ?_
 have O:=O.bc (.cells (flatC (([]:List Flt).map bE)) false)
 refine RangeT.mk' 94 [FP (n8 m),FP (ah 2 au ls),FP (ax c)] (by exact rfl) (by exact rfl) (fk Tryz.func94) fun L D q I hI kept hq1 hq2 hq3 hq4 hq5=>?_
 have yl:∀ (pre:List Flt) (a:Option Nat) (L':List Slot) (h:Heap) (x:Flt),(a=none->pre=[])->pre.length<65536->Own vars h0 ((a,.cells (flatC (pre.map bE)) false)::(some g8,.cells [aj 5 a (pre.map bE)] false)::L') h ->
   ∃ h',YC Tryz.prog NG I L [bE x] h (.bool true) h'/\∃ a',(a'=none->pre++[x]=[])/\Own vars h0 ((a',.cells (flatC ((pre++[x]).map bE)) false)::(some g8,.cells [aj 5 a' ((pre++[x]).map bE)] false)::L') h':=by
  intro pre a L' h x ha hlen O
  subst hI
  refine A8 hq1 hq4 hq5 (fun p m=>by cases m with|head=>exact (show (26:Nat)<36 by decide) | tail _ m=>cases m) rfl ?_
  rw[hq2,hq3,Ew]
  refine CodeY.cut (nn:=36) (fun h=>Own vars h0 ((a,.cells (flatC (pre.map bE)) false)::(some g8,.cells [aj 5 a (pre.map bE)] false)::L') h) [(8,.pointer (some ⟨g8,0,none⟩)),(26,bE x)] rfl ⟨O,by rw[Env.bA];rfl,by rw[Env.bA];rfl,trivial⟩ ?_
  clear O;intro base O;conv=>whnf
  refine CodeY.reg aE (by kernel_rfl) (by kernel_rfl) ?_;refine gH ?_
  (first|refine O.new (ai (l:=[(n8 0),(i64 0),(z64 0),(n8 0),(i64 0)]) rfl rfl rfl) fun g9 h O=>?_|refine O.bF (ai (l:=[(n8 0),(i64 0),(z64 0),(n8 0),(i64 0)]) rfl rfl rfl) fun g9 h O=>?_);refine gH ?_
  refine O.stC 5 (.head _) [(n8 x.model),(i64 x.line.node),(z64 x.line.pin),(n8 x.value),(i64 x.other)] fun h O=>?_;refine gH ?_
  refine CodeY.block (CodeY.seq aE (CodeY.seq aE (CodeY.reg aE (by kernel_rfl) (by kernel_rfl) ?_)));refine gH ?_
  refine CodeY.cond (by exact rfl) false (congrArg Value.bool (by show eqN pre.length 65536=false;rw[iB];simp;omega)) (CodeY.skip ?_);refine gX ?_
  refine CodeY.reg aE (by kernel_rfl) (by kernel_rfl) ?_;refine gH ?_
  refine ldA (O.at (.head _)) ?_;refine gH ?_
  refine fz ?_;refine gH ?_
  refine O.apL (b:=40) (W:=True) (enc:=bE) (l:=pre) (new:=[x]) 5 (.tail _ (.head _)) ha ⟨by simp;omega,trivial⟩ fun a' h ha' O _=>?_;refine gH ?_
  refine O.stC 1 (.tail _ (.tail _ (.head _))) [aj 5 a' ((pre++[x]).map bE)] fun h O=>?_;refine gH ?_
  exact⟨a',ha',O.tail⟩
 refine C4 Tryz.func94 (by exact rfl) (by exact rfl) (lbE rfl) ?_
 refine CodeY.seq kept (CodeY.reg kept (by kernel_rfl) (by kernel_rfl) ?_);refine gH ?_
 refine fz ?_;refine gH ?_
 refine CodeY.seq kept (CodeY.seq kept (CodeY.reg kept (by kernel_rfl) (by kernel_rfl) ?_));refine gH ?_
 refine CodeY.cond (by exact rfl) true (congrArg Value.bool (by show ltN m 2=true;rw[cW];simp;omega)) ?_
 refine CodeY.seq kept (CodeY.seq kept (CodeY.reg kept (by kernel_rfl) (by kernel_rfl) ?_));refine gH ?_
 refine CodeY.block (CodeY.loop kept (nn:=64) (σ:=Nat) (fun k h=>k<=ls.length/\∃ a,(a=none->jZ m (ls.take k)=[])/\Own vars h0 [(a,.cells (flatC ((jZ m (ls.take k)).map bE)) false),(some g8,.cells [aj 5 a ((jZ m (ls.take k)).map bE)] false),(some g5,.cells [i64 0] false),(some g4,.cells [.slice none 0 0] false)] h)
  (fun k=>[(1,FP (n8 m)),(4,FP (.func (.yield L) ⟨[]⟩ ⟨[]⟩)),(12,ah 2 au ls),(13,i64 ls.length),(14,i64 k)]) (fun k=>ls.length-k) rfl ⟨0,⟨Nat.zero_le _,none,fun _=>rfl,O⟩,rfl,rfl,rfl,rfl,rfl,trivial⟩ ?_)
 clear O;rintro k base h ⟨hk,a,ha,O⟩;conv=>whnf
 refine CodeY.seq kept (CodeY.reg kept (by kernel_rfl) (by kernel_rfl) ?_);refine gH ?_
 by_cases hlt:k<ls.length
 ·obtain⟨x,hx⟩:∃ x,ls[k]?=some x:=⟨_,List.getElem?_eq_getElem hlt⟩
  have hlen:(jZ m (ls.take k)).length=2*k:=by rw[Ao,List.length_take,Nat.min_eq_left hk]
  refine CodeY.seq kept (CodeY.cond (by exact rfl) true (congrArg Value.bool (by show ltN k ls.length=true;rw[cW];simp;omega)) (CodeY.skip ?_));refine gX ?_
  refine CodeY.seq kept (CodeY.block (CodeY.seq kept (CodeY.reg kept (by kernel_rfl) (by kernel_rfl) ?_)));refine gH ?_
  refine atF (W:=fun _=>True) ⟨x,hx,trivial⟩ fun x' hx' _=>?_
  obtain rfl:x=x':=by rw[hx] at hx';exact Option.some.inj hx'
  refine gH ?_
  (first|refine O.new (ai (l:=[(i64 0),(z64 0)]) rfl rfl rfl) fun g6 h O=>?_|refine O.bF (ai (l:=[(i64 0),(z64 0)]) rfl rfl rfl) fun g6 h O=>?_);refine gH ?_
  refine O.stC 2 (.head _) [(i64 x.node),(z64 x.pin)] fun h O=>?_;refine gH ?_
  refine CodeY.seq kept (CodeY.region kept (by kernel_rfl) (by kernel_rfl) (RegYS.Bd 4 ?_));refine gH ?_
  refine ldA (O.at (.head _)) ?_;refine gH ?_
  have O:=O.sel [1,2,0,3,4] (by decide)
  obtain⟨h1,y1,a1,ha1,O⟩:=yl (jZ m (ls.take k)) a [(some g6,.cells [(i64 x.node),(z64 x.pin)] false),(some g5,.cells [i64 0] false),(some g4,.cells [.slice none 0 0] false)] h ⟨m,x,0,0⟩ ha (by omega) O
  refine RegYS.yield (by exact rfl) (by exact rfl) (by exact rfl) (by exact rfl) y1 ?_;refine gH ?_
  refine RegYS.Bd 6 ?_;refine gH ?_
  refine bf ?_;refine gH ?_
  refine ldA (O.at (.tail _ (.tail _ (.head _)))) ?_;refine gH ?_
  obtain⟨h2,y2,a2,ha2,O⟩:=yl _ a1 _ h1 ⟨m,x,1,0⟩ ha1 (by simp;omega) O
  refine RegYS.yield (by exact rfl) (by exact rfl) (by exact rfl) (by exact rfl) y2 ?_;refine gH ?_
  refine RegYS.Bd 2 ?_;refine gH ?_
  refine RegYS.nil ?_;refine gX ?_
  refine CodeY.cond (by exact rfl) false (by exact rfl) (CodeY.skip ?_);refine gX ?_
  refine CodeY.reg kept (by kernel_rfl) (by kernel_rfl) ?_;refine gH ?_
  refine aR (a:=k) (b:=1) (W:=True) ⟨by omega,trivial⟩ fun _=>?_;refine gH ?_
  refine⟨k+1,by omega,⟨hlt,a2,?_,?_⟩,rfl,rfl,rfl,rfl,rfl,trivial⟩
  ·rw[tn hx];exact ha2
  ·rw[tn hx];exact O.sel [0,1,3,4] (by decide)
 ·obtain rfl:k=ls.length:=by omega
  refine CodeY.seq kept (CodeY.cond (by exact rfl) false (congrArg Value.bool (by show ltN ls.length ls.length=false;rw[cW];simp)) (CodeY.exit ?_));refine gX ?_
  rw[List.take_length] at O ha
  refine CodeY.ret ?_
  intro D'
  refine CodeY.seq ln (CodeY.reg ln (by kernel_rfl) (by kernel_rfl) ?_);refine gH ?_
  refine fg Tryz.func62 ?_;refine gX ?_
  refine lT (s:=5) (enc:=bE) (l:=jZ m ls) (n:=(jZ m ls).length) (m:=(jZ m ls).length) rfl rfl rfl rfl rfl rfl rfl ?_;refine gX ?_
  refine O.stC 1 (.tail _ (.tail _ (.tail _ (.head _)))) [iw a ((jZ m ls).map bE)] fun h O=>?_;refine gH ?_
  refine O.stC 1 (.tail _ (.tail _ (.head _))) [i64 0] fun h O=>?_;refine gH ?_
  refine CodeY.ret ?_;conv=>whnf
  refine⟨_,Eu rfl rfl (O.at (.tail _ (.tail _ (.tail _ (.head _))))) rfl rfl,?_⟩;conv=>whnf
  refine⟨_,Eu rfl rfl (O.at (.tail _ (.tail _ (.head _)))) rfl rfl,?_⟩;conv=>whnf
  exact⟨O.ext,fun h2 F=>VLe.tup (LLe.cons (O.mM F (Nat.le_refl _) (.head _) ha (fun _=>rfl)) (LLe.cons (VLe.refl _ _) (LLe.nil _)))⟩
def iX (p0:Circ) (p1:Nat) (K:((List Flt)×Nat)->Prop):Prop :=
 ∃ ls:List LnZ,bw p0 (fun r=>r=(ls,0))/\p1<2/\2*ls.length<65536/\K (jZ p1 ls,0)
theorem pK {p0:Circ}{p1:Nat}{K:((List Flt)×Nat)->Prop} (hm:iX p0 p1 K) {h0:Heap} (hB:HasB vars h0):∃ r,K r/\CallD Tryz.prog NG 30 ⟨[ax p0,n8 p1]⟩ h0 ((fun (r:((List Flt)×Nat))=>Value.tuple ⟨[(ah 5 bE) (r.1),i64 (r.2)]⟩) r) h0:=by
 obtain⟨ls,h1,h2,h3,hk⟩:=hm
 exact⟨_,hk,(sq h1 h2 h3).call h0 hB⟩
def DU (c:Circ):List Flt:=jZ 0 (nN c)
theorem wS {c:Circ} (C:Cir c):(nN c).length<=272:=by
 have:=kR C _ (Nat.le_refl _)
 have:=C.len
 unfold nN
 omega
theorem Ch {c:Circ} (C:Cir c) {K:List Flt×Nat->Prop} (h:K (DU c,0)):iX c 0 K:=by
 have:=wS C
 exact⟨nN c,mV C rfl,by decide,by omega,h⟩
structure FailT where
 test:Int
 next:Bool
 index:Int
def wm (x:FailT):Value:=.agg ⟨[z64 x.test,.bool x.next,z64 x.index]⟩
theorem vz (x:FailT):ag (cl (wm x)):=ag.cons (PureV.flat rfl) (ag.cons (PureV.flat rfl) (ag.cons (PureV.flat rfl) ag.nil))
def mf:Circ:=⟨[⟨0,[],0,0⟩,⟨0,[],0,0⟩,⟨8,[0,1],0,0⟩],[⟨#[97]⟩,⟨#[98]⟩,⟨#[121]⟩],[],[2]⟩
theorem uP {i:Nat}{x:Node} (h:mf.nodes[i]?=some x):(i=0/\x=⟨0,[],0,0⟩)\/(i=1/\x=⟨0,[],0,0⟩)\/(i=2/\x=⟨8,[0,1],0,0⟩):=by
 have hi:=ak h
 have hi:i<3:=hi
 have:i=0\/i=1\/i=2:=by omega
 rcases this with rfl|rfl|rfl
 ·cases h;exact .inl ⟨rfl,rfl⟩
 ·cases h;exact .inr (.inl ⟨rfl,rfl⟩)
 ·cases h;exact .inr (.inr ⟨rfl,rfl⟩)
theorem Ca:Cir mf:=by
 have node:∀ i x,mf.nodes[i]?=some x->GoodN mf i x:=by
  intro i x h
  rcases uP h with⟨rfl,rfl⟩|⟨rfl,rfl⟩|⟨rfl,rfl⟩
  ·exact⟨(by decide:0<=15),(by decide:Arity 0 0),(fun k m=>by cases m),(fun e=>by cases e),fun _=>⟨rfl,rfl⟩,(fun e=>by cases e),fun e=>absurd e (by decide:¬ 1<=0)⟩
  ·exact⟨(by decide:0<=15),(by decide:Arity 0 0),(fun k m=>by cases m),(fun e=>by cases e),fun _=>⟨rfl,rfl⟩,(fun e=>by cases e),fun e=>absurd e (by decide:¬ 1<=0)⟩
  ·exact⟨(by decide:8<=15),(by decide:Arity 8 2),(by decide:∀ k∈[0,1],k<3),(fun e=>by cases e),fun _=>⟨rfl,rfl⟩,(fun e=>by cases e),fun _ _=>(by decide:∀ k∈[0,1],k<2)⟩
 have F:FanOk mf:=AS ⟨by decide,fun i x h=>⟨(node i x h).ins,(node i x h).few⟩⟩
 have N:NamesOk mf:=by
  refine FnV.pT (enc:=i64) (PureV.flat rfl) fun h hB=>?_
  exact kq (K:=fun r=>r=0) (mZ (fun s m=>Bp m) (by decide) (by decide) rfl) hB
 refine⟨⟨by decide,rfl,N,F,(fun m h=>by cases h),by decide,by decide,by decide,node,by decide⟩,rfl,fun i x h=>?_⟩
 rcases uP h with⟨rfl,rfl⟩|⟨rfl,rfl⟩|⟨rfl,rfl⟩ <;> decide
def Dt:List Flt:=DU mf
theorem BI:ag [ax mf,ah 5 bE Dt]:=ag.cons (jq _) (ag.cons (cb nV) ag.nil)
def DZ:List Pat:=[⟨[1,0],[]⟩,⟨[0,0],[]⟩]
def DQ:Flt:=⟨0,⟨2,Int.negSucc 0⟩,0,0⟩
theorem BT:ag [ax mf,bE DQ,ah 2 dv DZ]:=ag.cons (jq _) (ag.cons (AF _) (ag.cons (cb sH) ag.nil))
theorem wk:∀ o∈vars,∃ cs,o=.cells cs true/\cs.all plain=true:=fun o m=>by
 obtain⟨i,hi⟩:=List.getElem?_of_mem m
 exact qJ hi
def Ed:List (List Nat):=[[0,6],[1,3,4,7,9],[2,8],[5]]
abbrev uo (r:List (List Nat)×Nat):Value:=.tuple ⟨[ah 1 (ah 1 i64) r.1,i64 r.2]⟩
abbrev tT (r:List FailT×Nat):Value:=.tuple ⟨[ah 3 wm r.1,i64 r.2]⟩
theorem AG (r:List (List Nat)×Nat):PureV (uo r):=PureV.tup (ag.cons (cb fun _=>ag.cons (cb fun _=>ag.cons (PureV.flat rfl) ag.nil) ag.nil) (ag.cons (PureV.flat rfl) ag.nil))
theorem Ah (r:List FailT×Nat):PureV (tT r):=PureV.tup (ag.cons (cb vz) (ag.cons (PureV.flat rfl) ag.nil))
theorem vZ:tr NG (uo (Ed,0)) (jY Tryz.prog [] (kT Tryz.prog) 60 31 ⟨[ax mf,ah 5 bE Dt]⟩ (bQ vars))=true:=by kernel_rfl
theorem CJ:tr NG (tT ([⟨1,false,0⟩],0)) (jY Tryz.prog [] (kT Tryz.prog) 60 32 ⟨[ax mf,bE DQ,ah 2 dv DZ]⟩ (bQ vars))=true:=by kernel_rfl
def lP (c:Circ) (l:List Flt) (K:List (List Nat)×Nat->Prop):Prop:=c=mf/\l=Dt/\K (Ed,0)
theorem pI {p0:Circ}{p1:List Flt}{K:List (List Nat)×Nat->Prop} (hm:lP p0 p1 K) {h0:Heap} (hB:HasB vars h0):∃ r,K r/\CallD Tryz.prog NG 31 ⟨[ax p0,ah 5 bE p1]⟩ h0 (uo r) h0:=by
 obtain⟨rfl,rfl,hk⟩:=hm
 exact FnV.walk (enc:=uo) (FnV.closed hM rfl wk hP (fun f vs h v e=>fq f vs h v e) vZ BI (AG _) (by kernel_rfl) (by decide)) hk hB
def sJ (c:Circ) (f:Flt) (t:List Pat) (K:List FailT×Nat->Prop):Prop:=c=mf/\f=DQ/\t=DZ/\K ([⟨1,false,0⟩],0)
theorem uS {p0:Circ}{p1:Flt}{p2:List Pat}{K:List FailT×Nat->Prop} (hm:sJ p0 p1 p2 K) {h0:Heap} (hB:HasB vars h0):∃ r,K r/\CallD Tryz.prog NG 32 ⟨[ax p0,bE p1,ah 2 dv p2]⟩ h0 (tT r) h0:=by
 obtain⟨rfl,rfl,rfl,hk⟩:=hm
 exact FnV.walk (enc:=tT) (FnV.closed hM rfl wk hP (fun f vs h v e=>fq f vs h v e) CJ BT (Ah _) (by kernel_rfl) (by decide)) hk hB
set_option maxHeartbeats 8000000
def aX  (K:Bool->Prop):Prop :=
 iX (⟨([(⟨0,([]:(List Nat)),0,0⟩:Node),(⟨0,([]:(List Nat)),0,0⟩:Node),(⟨8,([0,1]:(List Nat)),0,0⟩:Node)]:(List Node)),([(⟨#[97]⟩:ByteArray),(⟨#[98]⟩:ByteArray),(⟨#[121]⟩:ByteArray)]:(List ByteArray)),([]:(List Memo)),([2]:(List Nat))⟩:Circ) 0 (fun r3=>lP (⟨([(⟨0,([]:(List Nat)),0,0⟩:Node),(⟨0,([]:(List Nat)),0,0⟩:Node),(⟨8,([0,1]:(List Nat)),0,0⟩:Node)]:(List Node)),([(⟨#[97]⟩:ByteArray),(⟨#[98]⟩:ByteArray),(⟨#[121]⟩:ByteArray)]:(List ByteArray)),([]:(List Memo)),([2]:(List Nat))⟩:Circ) r3.1 (fun r4=>sJ (⟨([(⟨0,([]:(List Nat)),0,0⟩:Node),(⟨0,([]:(List Nat)),0,0⟩:Node),(⟨8,([0,1]:(List Nat)),0,0⟩:Node)]:(List Node)),([(⟨#[97]⟩:ByteArray),(⟨#[98]⟩:ByteArray),(⟨#[121]⟩:ByteArray)]:(List ByteArray)),([]:(List Memo)),([2]:(List Nat))⟩:Circ) (⟨0,(⟨2,(Int.negSucc 0)⟩:LnZ),0,0⟩:Flt) ([(⟨([1,0]:(List Nat)),([]:(List Nat))⟩:Pat),(⟨([0,0]:(List Nat)),([]:(List Nat))⟩:Pat)]:(List Pat)) (fun r5=>((eqN r3.2 0)=true->((eqN r4.2 0)=true->((eqN r5.2 0)=true->((eqN r3.1.length 10)=true->((eqN r4.1.length 4)=true->((eqN r5.1.length 1)=true->∃ x6,r5.1[0]?=some x6/\K ((eqZ x6.test (Int.ofNat 1))&&((x6.next==false)&&((eqZ x6.index (Int.ofNat 0))&&true))))/\((eqN r5.1.length 1)=false->K false))/\((eqN r4.1.length 4)=false->K false))/\((eqN r3.1.length 10)=false->K false))/\((eqN r5.2 0)=false->K false))/\((eqN r4.2 0)=false->K false))/\((eqN r3.2 0)=false->K false))))
theorem eV  {K:Bool->Prop} (hm:aX  K) {h0:Heap} (hB:HasB vars h0):∃ r,K r/\CallD Tryz.prog NG 9 ⟨[]⟩ h0 (Value.bool r) h0:=by
 unfold aX at hm
 refine fw Tryz.func9 hB (enc:=Value.bool) (fun r=>PureV.flat rfl) fun O=>?_;conv=>whnf
 refine gX ?_
 refine fz ?_;refine gH ?_
 refine NewG.frzW rfl (VLe.els (s:=4) (es':=([(⟨0,([]:(List Nat)),0,0⟩:Node),(⟨0,([]:(List Nat)),0,0⟩:Node),(⟨8,([0,1]:(List Nat)),0,0⟩:Node)]).map an) rfl (bI (enc:=an) (s:=4) (fun _=>rfl) _) (LLe.cons (VLe.refl _ _) (LLe.cons (VLe.nil _ _) (LLe.cons (VLe.refl _ _) (LLe.cons (VLe.refl _ _) (LLe.cons (VLe.refl _ _) (LLe.cons (VLe.nil _ _) (LLe.cons (VLe.refl _ _) (LLe.cons (VLe.refl _ _) (LLe.cons (VLe.refl _ _) (LLe.cons (VLe.refl _ _) (LLe.cons (VLe.refl _ _) (LLe.cons (VLe.refl _ _) (LLe.nil _)))))))))))))) ?_;refine gH ?_
 refine fz ?_;refine gH ?_
 refine fz ?_;refine gH ?_
 (first|refine O.new (ai (l:=[(.slice none 0 0),(.slice none 0 0),(.slice none 0 0),(.slice none 0 0)]) rfl rfl rfl) fun g1 h O=>?_|refine O.bF (ai (l:=[(.slice none 0 0),(.slice none 0 0),(.slice none 0 0),(.slice none 0 0)]) rfl rfl rfl) fun g1 h O=>?_);refine gH ?_
 refine O.stC 4 (.head _) [((ah 4 an) ([(⟨0,([]:(List Nat)),0,0⟩:Node),(⟨0,([]:(List Nat)),0,0⟩:Node),(⟨8,([0,1]:(List Nat)),0,0⟩:Node)]:(List Node))),((ah 1 Value.string) ([(⟨#[97]⟩:ByteArray),(⟨#[98]⟩:ByteArray),(⟨#[121]⟩:ByteArray)]:(List ByteArray))),(.slice none 0 0),((ah 1 i64) ([2]:(List Nat)))] fun h O=>?_;refine gX ?_
 refine ldA (O.at (.head _)) ?_;refine gH ?_
 refine caW (pK hm O.has) (LLe.cons (VLe.agg (LLe.cons (VLe.refl _ _) (LLe.cons (VLe.refl _ _) (LLe.cons (VLe.nil _ _) (LLe.cons (VLe.refl _ _) (LLe.nil _)))))) (LLe.cons (VLe.refl _ _) (LLe.nil _))) fun r3 hm=>?_;refine gX ?_
 refine ldA (O.at (.head _)) ?_;refine gH ?_
 refine caW (pI hm O.has) (LLe.cons (VLe.agg (LLe.cons (VLe.refl _ _) (LLe.cons (VLe.refl _ _) (LLe.cons (VLe.nil _ _) (LLe.cons (VLe.refl _ _) (LLe.nil _)))))) (LLe.cons (VLe.refl _ _) (LLe.nil _))) fun r4 hm=>?_;refine gX ?_
 refine ldA (O.at (.head _)) ?_;refine gH ?_
 refine fz ?_;refine gH ?_
 refine fz ?_;refine gH ?_
 refine NewG.frzW rfl (VLe.els (s:=2) (es':=([(⟨([1,0]:(List Nat)),([]:(List Nat))⟩:Pat),(⟨([0,0]:(List Nat)),([]:(List Nat))⟩:Pat)]).map dv) rfl (bI (enc:=dv) (s:=2) (fun _=>rfl) _) (LLe.cons (VLe.refl _ _) (LLe.cons (VLe.nil _ _) (LLe.cons (VLe.refl _ _) (LLe.cons (VLe.nil _ _) (LLe.nil _)))))) ?_;refine gH ?_
 refine caW (uS hm O.has) (LLe.cons (VLe.agg (LLe.cons (VLe.refl _ _) (LLe.cons (VLe.refl _ _) (LLe.cons (VLe.nil _ _) (LLe.cons (VLe.refl _ _) (LLe.nil _)))))) (LLe.cons (VLe.refl _ _) (LLe.cons (VLe.refl _ _) (LLe.nil _)))) fun r5 hm=>?_;refine gX ?_
 refine br hm (fun hm=>?_) fun hm=>?_
 ·refine gX ?_
  refine br hm (fun hm=>?_) fun hm=>?_
  ·refine gX ?_
   refine br hm (fun hm=>?_) fun hm=>?_
   ·refine gX ?_
    refine br hm (fun hm=>?_) fun hm=>?_
    ·refine gX ?_
     refine br hm (fun hm=>?_) fun hm=>?_
     ·refine gX ?_
      refine br hm (fun hm=>?_) fun hm=>?_
      ·refine gX ?_
       refine atF hm fun x6 hx6 hm=>?_;refine gH ?_
       refine⟨.bool ((eqZ x6.test (Int.ofNat 1))&&((x6.next==false)&&((eqZ x6.index (Int.ofNat 0))&&true))),by kernel_rfl,?_⟩;refine gX ?_
       exact fe hm O
      ·refine gX ?_
       exact fe hm O
     ·refine gX ?_
      refine bf ?_;refine gX ?_
      exact fe hm O
    ·refine gX ?_
     refine bf ?_;refine gH ?_
     refine bf ?_;refine gX ?_
     exact fe hm O
   ·refine gX ?_
    refine bf ?_;refine gH ?_
    refine bf ?_;refine gH ?_
    refine bf ?_;refine gX ?_
    exact fe hm O
  ·refine gX ?_
   refine bf ?_;refine gH ?_
   refine bf ?_;refine gH ?_
   refine bf ?_;refine gH ?_
   refine bf ?_;refine gX ?_
   exact fe hm O
 ·refine gX ?_
  refine bf ?_;refine gH ?_
  refine bf ?_;refine gH ?_
  refine bf ?_;refine gH ?_
  refine bf ?_;refine gH ?_
  refine bf ?_;refine gX ?_
  exact fe hm O
def js (ends:List Bool) (L:List (List LnZ)):Nat->Nat->Bool
 |0,m=>ends.getD m false
 |k+1,m=>(L.getD m []).any fun z=>js ends L k z.node
def jz (ends:List Bool) (L:List (List LnZ)) (m:Nat) (pre:List LnZ) (z:Nat) (k0:Nat):List Bool :=
 (List.range 256).map fun k=>match k with
  |0=>ends.getD m false
  |k+1=>(pre.any fun z=>js ends L k z.node)||(decide (k<k0)&&js ends L k z)
def dm (ends:List Bool) (L:List (List LnZ)) (m:Nat):List Bool:=(List.range 256).map fun k=>js ends L k m
section
variable {ends:List Bool} {L:List (List LnZ)}
theorem Bx (m:Nat) (pre:List LnZ) (z k0:Nat):(jz ends L m pre z k0).length=256:=by simp[jz]
theorem vl {m:Nat}{pre:List LnZ}{z k0 k:Nat} (hk:k<255):(jz ends L m pre z k0)[k+1]?=some ((pre.any fun z=>js ends L k z.node)||(decide (k<k0)&&js ends L k z)):=by
 simp only[jz,List.getElem?_map]
 rw[List.getElem?_range (by omega)]
 rfl
theorem yy (m:Nat) (pre:List LnZ) (z z':Nat):jz ends L m pre z 0=jz ends L m pre z' 0:=by
 unfold jz
 apply List.map_congr_left
 intro k _
 cases k <;> simp
theorem uB {m:Nat}{pre:List LnZ}{z k:Nat} (hk:k<255):(jz ends L m pre z k)[k+1]?=some (pre.any fun z=>js ends L k z.node):=by
 rw[vl hk];simp
theorem wJ (m:Nat):(dm ends L m).length=256:=by simp[dm]
theorem hY {m k:Nat} (hk:k<256):(dm ends L m)[k]?=some (js ends L k m):=by
 simp only[dm,List.getElem?_map]
 rw[List.getElem?_range hk];rfl
theorem uM {m:Nat}{pre:List LnZ}{z k0:Nat} (hk:k0<255) {b:Bool} (hb:b=((pre.any fun z=>js ends L k0 z.node)||js ends L k0 z)):(jz ends L m pre z k0).set (k0+1) b=jz ends L m pre z (k0+1):=by
 apply List.ext_getElem?
 intro i
 rw[List.getElem?_set,Bx]
 by_cases e:k0+1=i
 ·subst e
  rw[if_pos rfl,if_pos (by omega),vl hk,hb]
  simp
 ·rw[if_neg e]
  simp only[jz,List.getElem?_map]
  by_cases c:i<256
  ·rw[List.getElem?_range c]
   cases i with
   |zero=>rfl
   |succ i =>
    simp only[Option.map_some,Option.some.injEq]
    have:decide (i<k0)=decide (i<k0+1):=by
     rw[decide_eq_decide];omega
    rw[this]
  ·rw[List.getElem?_eq_none (by simp;omega)];rfl
theorem yZ (m:Nat) (pre:List LnZ) (z:LnZ) (z':Nat):jz ends L m pre z.node 255=jz ends L m (pre++[z]) z' 0:=by
 unfold jz
 apply List.map_congr_left
 intro k hk
 have hk:=List.mem_range.1 hk
 cases k with
 |zero=>rfl
 |succ k =>
  have h1:k<255:=by omega
  simp[h1]
theorem wG (m:Nat) (z:Nat):(List.replicate 256 false).set 0 (ends.getD m false)=jz ends L m [] z 0:=by
 apply List.ext_getElem?
 intro i
 rw[List.getElem?_set]
 simp only[jz,List.getElem?_map]
 by_cases c:i<256
 ·rw[List.getElem?_range c]
  cases i with
  |zero=>simp
  |succ i =>
   rw[if_neg (by omega),List.getElem?_replicate,if_pos c]
   simp
 ·rw[if_neg (by omega),List.getElem?_eq_none (by simp;omega),List.getElem?_eq_none (by simp;omega)];rfl
theorem AR {m:Nat}{row:List LnZ} (h:L[m]?=some row) (z:Nat):jz ends L m row z 0=dm ends L m:=by
 unfold jz dm
 apply List.map_congr_left
 intro k _
 cases k with
 |zero=>rfl
 |succ k =>
  have:L.getD m []=row:=by rw[List.getD,h];rfl
  simp only[js,this]
  simp
end
structure LenOk (n:Nat) (o:List Nat) (ends:List Bool) (L:List (List LnZ)):Prop where
 few:n<=1024
 ol:o.length<=2048
 el:ends.length=n
 ll:L.length=n
 all:∀ m,m<n->m∈o
 lt:∀ m∈o,m<n
 nodup:o.Nodup
 later:∀ (i m:Nat),o[i]?=some m->∀ row,L[m]?=some row->∀ z∈row,∃ j,i<j/\o[j]?=some z.node
 rows:∀ (m:Nat) (row:List LnZ),L[m]?=some row->row.length<2 ^ 62
def fQ (ends:List Bool) (L:List (List LnZ)) (n:Nat) (S:List Nat):List (List Bool):=(List.range n).map fun m=>if m∈S then dm ends L m else []
section
variable {ends:List Bool} {L:List (List LnZ)} {n:Nat}
theorem tw (S:List Nat):(fQ ends L n S).length=n:=by simp[fQ]
theorem zu:fQ ends L n []=List.replicate n []:=by
 apply List.ext_getElem?
 intro i
 simp only[fQ,List.getElem?_map,List.getElem?_replicate]
 by_cases c:i<n
 ·rw[List.getElem?_range c,if_pos c];simp
 ·rw[List.getElem?_eq_none (by simp;omega),if_neg c];rfl
theorem tq {S:List Nat}{m:Nat} (hm:m<n) (hS:m∈S):(fQ ends L n S)[m]?=some (dm ends L m):=by
 simp only[fQ,List.getElem?_map]
 rw[List.getElem?_range hm]
 simp[hS]
theorem yX {S:List Nat}{m:Nat} (hm:m<n):(fQ ends L n S).set m (dm ends L m)=fQ ends L n (m::S):=by
 apply List.ext_getElem?
 intro i
 rw[List.getElem?_set,tw]
 by_cases e:m=i
 ·subst e
  rw[if_pos rfl,if_pos hm,tq hm (.head _)]
 ·rw[if_neg e]
  simp only[fQ,List.getElem?_map]
  by_cases c:i<n
  ·rw[List.getElem?_range c]
   have:(i∈m::S)↔i∈S:=⟨fun q=>by cases q with|head=>exact absurd rfl e|tail _ q=>exact q,.tail _⟩
   simp only[Option.map_some,this]
  ·rw[List.getElem?_eq_none (by simp;omega)];rfl
theorem yP {o:List Nat} (h:∀ m,m<n->m∈o):fQ ends L n o=(List.range n).map (dm ends L):=by
 unfold fQ
 apply List.map_congr_left
 intro m hm
 rw[if_pos (h m (List.mem_range.1 hm))]
end
abbrev cA:List Bool->Value:=ah 1 Value.bool
theorem kU (l:List (List Bool)):flatC (l.map cA)=l.map cA:=by
 induction l with
 |nil=>rfl
 |cons a l ih=>rw[List.map_cons,show flatC (cA a::l.map cA)=cl (cA a)++flatC (l.map cA) from rfl,ih];rfl
theorem tR {cs:List Value}{m:Nat}{v:Value} (h:m<cs.length):aS cs (0+m*1) [v]=cs.set m v:=by
 unfold Abs.aS
 rw[List.set_eq_take_append_cons_drop,if_pos h]
 simp
theorem oA {l:List (List Bool)}{m:Nat}{v:Value} (h:m<l.length):(aS (flatC (l.map cA)) (0+m*1) [v])[0+m*1]?=some v:=by
 rw[kU,tR (by simpa using h),Nat.zero_add,Nat.mul_one,List.getElem?_set_self (by simpa using h)]
theorem BB {l:List (List Bool)}{m j:Nat}{v:Value}{r:List Bool} (h:m<l.length) (hj:j≠m) (hr:l[j]?=some r):(aS (flatC (l.map cA)) (0+m*1) [v])[0+j*1]?=some (cA r):=by
 rw[kU,tR (by simpa using h),Nat.zero_add,Nat.mul_one,List.getElem?_set_ne (Ne.symm hj),List.getElem?_map,hr];rfl
theorem DY {h:Heap}{l:List (List Bool)}{m:Nat}{v:Value}{r:List Bool} (hm:m<l.length) (le:VLe h v (cA r)):LLe h (aS (flatC (l.map cA)) (0+m*1) [v]) (flatC ((l.set m r).map cA)):=by
 rw[kU,kU,tR (by simpa using hm),List.map_set]
 exact LLe.set le
set_option maxHeartbeats 8000000
def C6:Nat->Int
 |0=>.negSucc 0
 |k+1=>.ofNat k
abbrev uQ (k:Nat):Value:=.int .i64 (C6 k)
theorem ic {P:Program}{ρ:Operand->Value}{d:Option Tmp}{ty:TypeId}{pos:String}{af:Array Edge}{gd:Option (Nat×Bool)}{t yt:TypeId}{x y:Operand}{k:Nat}{K:Value->Prop} (hx:ρ x=i64 k) (hy:ρ y=i64 1) (hk:k<2 ^ 62) (h:K (uQ k)) :
  ∃ v,av P ρ { dst:=d,op:=.binOp .sub t x y yt,type:=ty,pos:=pos,after:=af,guard:=gd }=some v/\K v:=by
 refine⟨uQ k,?_,h⟩
 have:=zN (P:=P) (ρ:=ρ) (d:=d) (ty:=ty) (pos:=pos) (af:=af) (gd:=gd) (t:=t) (yt:=yt) (x:=x) (y:=y) (a:=Int.ofNat k) (b:=Int.ofNat 1) hx hy (by simp only[Int.ofNat_eq_natCast];omega) (by simp only[Int.ofNat_eq_natCast];omega)
 rw[this]
 have e:Int.ofNat k-Int.ofNat 1=C6 k:=by
  cases k with
  |zero=>rfl
  |succ k =>
   show Int.ofNat (k+1)-Int.ofNat 1=Int.ofNat k
   simp only[Int.ofNat_eq_natCast]
   omega
 rw[e]
theorem oh {c:Circ}{nx:List (List LnZ)}{ends:List Bool} (hord:aO c (fun r=>r.2=0/\LenOk c.nodes.length r.1 ends nx)) (hobs:bm c (fun e=>e=ends)) :
  FnV Tryz.prog NG vars 20 ⟨[ax c,ah 1 (ah 2 au) nx]⟩ (ah 1 (ah 1 Value.bool) ((List.range c.nodes.length).map (dm ends nx))):=by
 refine fnT Tryz.func20 (by exact rfl) (fk Tryz.func20) (lbE rfl) (cb fun _=>ag.cons (cb fun _=>ag.cons (PureV.flat rfl) ag.nil) ag.nil) fun h0 O=>?_
 refine CodeT.seq hM (by kernel_rfl) ?_;refine gX ?_
 refine fz ?_;refine gH ?_
 refine fz ?_;refine gX ?_
 refine CodeT.seq hM (by kernel_rfl) ?_;refine gX ?_
 refine ca (cm hord O.has) fun r1 hm1=>?_;refine gX ?_
 obtain⟨o,e1⟩:=r1
 obtain⟨rfl,W⟩:=hm1
 dsimp only at W
 refine CodeT.seq hM (by kernel_rfl) ?_;refine gX ?_
 refine ca (eh hobs O.has) fun r2 hm2=>?_;replace hm2:=Eq.symm hm2;subst hm2;refine gH ?_
 (first|refine O.new (ai (l:=[nS]) rfl rfl rfl) fun g7 h O=>?_|refine O.bF (ai (l:=[nS]) rfl rfl rfl) fun g7 h O=>?_);refine gH ?_
 refine O.stC 1 (.head _) [ah 1 Value.bool ends] fun h O=>?_;refine gX ?_
 refine CodeT.seq hM (by kernel_rfl) ?_;refine gX ?_
 have hfew:=W.few
 refine O.mkL (enc:=fun _:Unit=>Value.slice none 0 0) (n:=c.nodes.length) (W:=True) 24 1 () ⟨by omega,by omega,trivial⟩ fun go h O _=>?_;refine gH ?_
 (first|refine O.new (ai (l:=[nS]) rfl rfl rfl) fun g8 h O=>?_|refine O.bF (ai (l:=[nS]) rfl rfl rfl) fun g8 h O=>?_);refine gH ?_
 refine O.stC 1 (.head _) [.slice (some ⟨go,0,none⟩) c.nodes.length c.nodes.length] fun h O=>?_;refine gX ?_
 refine CodeT.range hM (by kernel_rfl) ?_
 refine CodeS.yj (cs':=flatC ((fQ ends nx c.nodes.length (o.drop o.length)).map cA)) O (.tail _ (.head _)) (t2:=24) rfl rfl (by rw[List.drop_length,zu];exact Ek ..) fun h O=>?_;refine gX ?_
 refine fg Tryz.func46 ?_;refine gX ?_
 refine fz ?_;refine gX ?_
 refine RangeT.mk' 85 [FP (ah 1 i64 o)] (by exact rfl) (by exact rfl) (fk Tryz.func85) fun Lb D q I hI kept hq1 hq2 hq3 hq4 hq5=>?_
 have yl:∀ (i m:Nat) (h:Heap),o[i]?=some m->Own vars h0 [(some g8,.cells [.slice (some ⟨go,0,none⟩) c.nodes.length c.nodes.length] false),(some go,.cells (flatC ((fQ ends nx c.nodes.length (o.drop (i+1))).map cA)) false),(some g7,.cells [ah 1 Value.bool ends] false)] h ->
   ∃ h',YC Tryz.prog NG I Lb [i64 i,i64 m] h (.bool true) h'/\Own vars h0 [(some g8,.cells [.slice (some ⟨go,0,none⟩) c.nodes.length c.nodes.length] false),(some go,.cells (flatC ((fQ ends nx c.nodes.length (o.drop i)).map cA)) false),(some g7,.cells [ah 1 Value.bool ends] false)] h':=by
  intro i m h hi O
  subst hI
  have hm:m<c.nodes.length:=W.lt m (List.mem_of_getElem? hi)
  have hRl:(fQ ends nx c.nodes.length (o.drop (i+1))).length=c.nodes.length:=tw _
  generalize hR:fQ ends nx c.nodes.length (o.drop (i+1))=R at O hRl
  refine A8 hq1 hq4 hq5 (fun p mm=>by
   simp only[List.mem_cons,List.not_mem_nil,or_false] at mm
   rcases mm with rfl|rfl
   ·exact (show (27:Nat)<82 by decide)
   ·exact (show (28:Nat)<82 by decide)) rfl ?_
  rw[hq2,hq3,EE]
  refine CodeY.cut (nn:=82) (fun h=>Own vars h0 [(some g8,.cells [.slice (some ⟨go,0,none⟩) c.nodes.length c.nodes.length] false),(some go,.cells (flatC (R.map cA)) false),(some g7,.cells [ah 1 Value.bool ends] false)] h) [(2,FP (ax c)),(3,FP (ah 1 (ah 2 au) nx)),(7,.pointer (some ⟨g7,0,none⟩)),(8,.pointer (some ⟨g8,0,none⟩)),(28,i64 m)] rfl ⟨O,by rw[Env.bA,Env.bA];rfl,by rw[Env.bA,Env.bA];rfl,by rw[Env.bA,Env.bA];rfl,by rw[Env.bA,Env.bA];rfl,by rw[Env.bA];rfl,trivial⟩ ?_
  clear O;intro base O;conv=>whnf
  refine CodeY.reg aE (by kernel_rfl) (by kernel_rfl) ?_;refine gH ?_
  refine CodeY.block (CodeY.seq aE ?_);conv=>whnf
  refine CodeY.draw hM (by kernel_rfl) (by kernel_rfl) (by kernel_rfl) ?_;refine gH ?_
  refine⟨.inr (.inr (ae rfl (O.at (.head _)) rfl rfl)),?_⟩;refine gH ?_
  refine O.BK (enc:=Value.bool) (z:=false) (b:=1) (s:=1) (n:=256) rfl rfl rfl rfl rfl (by decide) (by kernel_rfl) rfl rfl (by decide) (by decide) fun gr h O=>?_;refine gH ?_
  refine bV (s:=1) (j:=m) rfl rfl rfl rfl hm ?_;refine gH ?_
  have hmR:m<(flatC (R.map cA)).length:=by rw[kU,List.length_map];omega
  refine O.store (n:=1) (cs':=aS (flatC (R.map cA)) (0+m*1) [.slice (some ⟨gr,0,none⟩) 256 256]) (.tail _ (.tail _ (.head _))) rfl rfl rfl rfl (by omega) rfl rfl fun h O=>?_
  conv=>whnf
  refine⟨.inl (by kernel_rfl),?_⟩;refine gH ?_
  obtain⟨eb,heb⟩:∃ b,ends[m]?=some b:=⟨_,List.getElem?_eq_getElem (by rw[W.el];exact hm)⟩
  have heb2:eb=ends.getD m false:=by rw[List.getD,heb];rfl
  refine CodeY.seq aE (CodeY.draw hM (by kernel_rfl) (by kernel_rfl) (by kernel_rfl) ?_);refine gH ?_
  refine⟨.inr (.inr (ae rfl (O.at (.tail _ (.head _))) rfl rfl)),?_⟩;refine gH ?_
  refine bV (s:=1) (j:=m) rfl rfl rfl rfl hm ?_;refine gH ?_
  refine⟨_,ae rfl (O.at (.tail _ (.tail _ (.head _)))) rfl (oA (by omega)),?_⟩;refine gH ?_
  refine⟨.inr (.inr (ae rfl (O.at (.tail _ (.tail _ (.head _)))) rfl (oA (by omega)))),?_⟩;refine gH ?_
  refine ldO (O.at (.tail _ (.tail _ (.tail _ (.head _))))) ?_;refine gH ?_
  refine⟨.inr (.inr (ae rfl (O.at (.tail _ (.tail _ (.tail _ (.head _))))) rfl rfl)),?_⟩;refine gH ?_
  refine atF (W:=fun _=>True) ⟨eb,heb,trivial⟩ fun x' hx' _=>?_
  rw[heb] at hx';cases hx'
  refine gH ?_
  refine bV (s:=1) (j:=0) rfl rfl rfl rfl (by decide) ?_;refine gH ?_
  refine O.stE 1 (.head _) (j:=0) (l:=List.replicate 256 false) (enc:=Value.bool) (y:=false) rfl eb fun h O=>?_
  conv=>whnf
  refine⟨.inl (by kernel_rfl),?_⟩;refine gH ?_
  rw[heb2,wG (L:=nx) m 0] at O
  obtain⟨row,hrow⟩:∃ row,nx[m]?=some row:=⟨_,List.getElem?_eq_getElem (by rw[W.ll];exact hm)⟩
  have hrl:=W.rows m row hrow
  have hz:∀ z∈row,z.node<c.nodes.length/\z.node≠m/\R[z.node]?=some (dm ends nx z.node):=by
   intro z mz
   obtain⟨j,hij,hj⟩:=W.later i m hi row hrow z mz
   have hzn:=W.lt _ (List.mem_of_getElem? hj)
   refine⟨hzn,fun e=>?_,?_⟩
   ·rw[e] at hj
    have h1:=(List.getElem?_eq_some_iff.1 hi)
    have h2:=(List.getElem?_eq_some_iff.1 hj)
    obtain⟨l1,e1⟩:=h1
    obtain⟨l2,e2⟩:=h2
    have:=(List.getElem_inj W.nodup).1 (e1.trans e2.symm)
    omega
   ·rw[<- hR]
    refine tq hzn (List.mem_of_getElem? (i:=j-(i+1)) ?_)
    rw[List.getElem?_drop,<- hj]
    congr 1
    omega
  refine CodeY.seq aE (CodeY.reg aE (by kernel_rfl) (by kernel_rfl) ?_);refine gH ?_
  refine atF (W:=fun _=>True) ⟨row,hrow,trivial⟩ fun x' hx' _=>?_
  rw[hrow] at hx';cases hx'
  refine gH ?_
  refine CodeY.block (CodeY.loop aE (nn:=82) (σ:=Nat) (fun j h=>j<=row.length/\Own vars h0 [(some gr,.cells (flatC ((jz ends nx m (row.take j) 0 0).map Value.bool)) false),(some g8,.cells [.slice (some ⟨go,0,none⟩) c.nodes.length c.nodes.length] false),(some go,.cells (aS (flatC (R.map cA)) (0+m*1) [.slice (some ⟨gr,0,none⟩) 256 256]) false),(some g7,.cells [ah 1 Value.bool ends] false)] h)
   (fun j=>[(8,.pointer (some ⟨g8,0,none⟩)),(10,i64 m),(29,.slice (some ⟨go,0,none⟩) c.nodes.length c.nodes.length),(31,.slice (some ⟨gr,0,none⟩) 256 256),(45,ah 2 au row),(46,i64 row.length),(47,i64 j)]) (fun j=>row.length-j) rfl ⟨0,⟨Nat.zero_le _,O⟩,rfl,rfl,rfl,rfl,rfl,rfl,rfl,trivial⟩ ?_)
  clear O;rintro j base h ⟨hj,O⟩;conv=>whnf
  refine CodeY.seq aE (CodeY.reg aE (by kernel_rfl) (by kernel_rfl) ?_);refine gH ?_
  by_cases hlt:j<row.length
  ·obtain⟨z,hzj⟩:∃ z,row[j]?=some z:=⟨_,List.getElem?_eq_getElem hlt⟩
   obtain⟨hzn,hzm,hzR⟩:=hz z (List.mem_of_getElem? hzj)
   refine CodeY.seq aE (CodeY.cond (by exact rfl) true (congrArg Value.bool (by show ltN j row.length=true;rw[cW];simp;omega)) (CodeY.skip ?_));conv=>whnf
   refine CodeY.seq aE (CodeY.block (CodeY.seq aE (CodeY.reg aE (by kernel_rfl) (by kernel_rfl) ?_)));refine gH ?_
   refine atF (W:=fun _=>True) ⟨z,hzj,trivial⟩ fun x' hx' _=>?_
   rw[hzj] at hx';cases hx'
   refine gH ?_
   (first|refine O.new (ai (l:=[(i64 0),(z64 0)]) rfl rfl rfl) fun g12 h O=>?_|refine O.bF (ai (l:=[(i64 0),(z64 0)]) rfl rfl rfl) fun g12 h O=>?_);refine gH ?_
   refine O.stC 2 (.head _) [(i64 z.node),(z64 z.pin)] fun h O=>?_;refine gH ?_
   refine CodeY.seq aE (CodeY.reg aE (by kernel_rfl) (by kernel_rfl) ?_);refine gH ?_
   rw[yy m (row.take j) 0 z.node] at O
   refine CodeY.block (CodeY.loop aE (nn:=82) (σ:=Nat) (fun k h=>k<=255/\Own vars h0 [(some g12,.cells [(i64 z.node),(z64 z.pin)] false),(some gr,.cells (flatC ((jz ends nx m (row.take j) z.node k).map Value.bool)) false),(some g8,.cells [.slice (some ⟨go,0,none⟩) c.nodes.length c.nodes.length] false),(some go,.cells (aS (flatC (R.map cA)) (0+m*1) [.slice (some ⟨gr,0,none⟩) 256 256]) false),(some g7,.cells [ah 1 Value.bool ends] false)] h)
    (fun k=>[(8,.pointer (some ⟨g8,0,none⟩)),(10,i64 m),(12,.pointer (some ⟨g12,0,none⟩)),(29,.slice (some ⟨go,0,none⟩) c.nodes.length c.nodes.length),(31,.slice (some ⟨gr,0,none⟩) 256 256),(45,ah 2 au row),(46,i64 row.length),(47,i64 j),(51,i64 k)]) (fun k=>255-k) rfl ⟨0,⟨Nat.zero_le _,O⟩,rfl,rfl,rfl,rfl,rfl,rfl,rfl,rfl,rfl,trivial⟩ ?_)
   clear O;rintro k base h ⟨hk,O⟩;conv=>whnf
   refine CodeY.seq aE (CodeY.reg aE (by kernel_rfl) (by kernel_rfl) ?_);refine gH ?_
   by_cases hk2:k<255
   ·refine CodeY.seq aE (CodeY.cond (by exact rfl) true (congrArg Value.bool (by show ltN k 255=true;rw[cW];simp;omega)) (CodeY.skip ?_));conv=>whnf
    refine CodeY.seq aE (CodeY.block (CodeY.seq aE (CodeY.reg aE (by kernel_rfl) (by kernel_rfl) ?_)));refine gH ?_
    refine CodeY.draw hM (by kernel_rfl) (by kernel_rfl) (by kernel_rfl) ?_;refine gH ?_
    refine⟨.inr (.inr (ae rfl (O.at (.tail _ (.tail _ (.head _)))) rfl rfl)),?_⟩;refine gH ?_
    refine bV (s:=1) (j:=m) rfl rfl rfl rfl hm ?_;refine gH ?_
    refine⟨_,ae rfl (O.at (.tail _ (.tail _ (.tail _ (.head _))))) rfl (oA (by omega)),?_⟩;refine gH ?_
    refine⟨.inr (.inr (ae rfl (O.at (.tail _ (.tail _ (.tail _ (.head _))))) rfl (oA (by omega)))),?_⟩;refine gH ?_
    refine aR (a:=k) (b:=1) (W:=True) ⟨by omega,trivial⟩ fun _=>?_;refine gH ?_
    refine⟨.inr (.inr (ae rfl (O.at (.tail _ (.tail _ (.head _)))) rfl rfl)),?_⟩;refine gH ?_
    refine bV (s:=1) (j:=m) rfl rfl rfl rfl hm ?_;refine gH ?_
    refine⟨_,ae rfl (O.at (.tail _ (.tail _ (.tail _ (.head _))))) rfl (oA (by omega)),?_⟩;refine gH ?_
    refine⟨.inr (.inr (ae rfl (O.at (.tail _ (.tail _ (.tail _ (.head _))))) rfl (oA (by omega)))),?_⟩;refine gH ?_
    refine aR (a:=k) (b:=1) (W:=True) ⟨by omega,trivial⟩ fun _=>?_;refine gH ?_
    refine bV (s:=1) (j:=k+1) rfl rfl rfl rfl (by omega) ?_;refine gH ?_
    refine ldE (s:=1) (i:=0) (O.at (.tail _ (.head _))) (uB hk2) ?_;refine gH ?_
    refine⟨_,rfl,fun hb=>?_,fun hb=>?_⟩
    ·refine gH ?_
     refine bV (s:=1) (j:=k+1) rfl rfl rfl rfl (by omega) ?_;refine gH ?_
     refine O.stE 1 (.tail _ (.head _)) (j:=k+1) (uB hk2) true fun h O=>?_
     conv=>whnf
     refine⟨.inl (by kernel_rfl),?_⟩;refine gH ?_
     rw[uM hk2 (by rw[hb];rfl)] at O
     refine CodeY.reg aE (by kernel_rfl) (by kernel_rfl) ?_;refine gH ?_
     refine aR (a:=k) (b:=1) (W:=True) ⟨by omega,trivial⟩ fun _=>?_;refine gH ?_
     exact⟨k+1,by omega,⟨hk2,O⟩,rfl,rfl,rfl,rfl,rfl,rfl,rfl,rfl,rfl,trivial⟩
    ·refine gH ?_
     refine⟨.inr (.inr (ae rfl (O.at (.tail _ (.tail _ (.head _)))) rfl rfl)),?_⟩;refine gH ?_
     refine bV (s:=1) (j:=z.node) rfl rfl rfl rfl hzn ?_;refine gH ?_
     refine⟨_,ae rfl (O.at (.tail _ (.tail _ (.tail _ (.head _))))) rfl (BB (by omega) hzm hzR),?_⟩;refine gH ?_
     refine⟨.inr (.inr (ae rfl (O.at (.tail _ (.tail _ (.tail _ (.head _))))) rfl (BB (by omega) hzm hzR))),?_⟩;refine gH ?_
     refine atF (W:=fun _=>True) ⟨js ends nx k z.node,hY (by omega),trivial⟩ fun x' hx' _=>?_
     rw[hY (by omega)] at hx';cases hx'
     refine gH ?_
     refine bV (s:=1) (j:=k+1) rfl rfl rfl rfl (by omega) ?_;refine gH ?_
     refine O.stE 1 (.tail _ (.head _)) (j:=k+1) (uB hk2) (js ends nx k z.node) fun h O=>?_
     conv=>whnf
     refine⟨.inl (by kernel_rfl),?_⟩;refine gH ?_
     rw[uM hk2 (by rw[hb];rfl)] at O
     refine CodeY.reg aE (by kernel_rfl) (by kernel_rfl) ?_;refine gH ?_
     refine aR (a:=k) (b:=1) (W:=True) ⟨by omega,trivial⟩ fun _=>?_;refine gH ?_
     exact⟨k+1,by omega,⟨hk2,O⟩,rfl,rfl,rfl,rfl,rfl,rfl,rfl,rfl,rfl,trivial⟩
   ·obtain rfl:k=255:=by omega
    refine CodeY.seq aE (CodeY.cond (by exact rfl) false (by exact rfl) (CodeY.exit ?_));conv=>whnf
    refine CodeY.reg aE (by kernel_rfl) (by kernel_rfl) ?_;refine gH ?_
    refine aR (a:=j) (b:=1) (W:=True) ⟨by omega,trivial⟩ fun _=>?_;refine gH ?_
    refine⟨j+1,by omega,⟨hlt,?_⟩,rfl,rfl,rfl,rfl,rfl,rfl,rfl,trivial⟩
    have O:=O.tail
    rw[yZ m (row.take j) z 0] at O
    have e:row.take (j+1)=row.take j++[z]:=by rw[List.take_add_one,hzj];rfl
    rw[e];exact O
  ·obtain rfl:j=row.length:=by omega
   rw[List.take_length,AR hrow] at O
   refine CodeY.seq aE (CodeY.cond (by exact rfl) false (congrArg Value.bool (by show ltN row.length row.length=false;rw[cW];simp)) ?_)
   refine CodeY.ghost (cs2':=flatC ((R.set m (dm ends nx m)).map cA)) aE O (.head _) (.tail _ (.tail _ (.head _))) (t1:=31) (t2:=29) rfl rfl rfl rfl (fun h2 hq=>DY (by omega) (VLe.flM hq (wJ m).symm (fun _=>rfl))) fun h O=>CodeY.exit ?_
   conv=>whnf
   have O:=O.tail
   have e:R.set m (dm ends nx m)=fQ ends nx c.nodes.length (o.drop i):=by
    obtain⟨hil,him⟩:=List.getElem?_eq_some_iff.1 hi
    rw[<- hR,yX hm,List.drop_eq_getElem_cons hil,him]
   rw[e] at O
   exact O
 refine C4 Tryz.func85 (by exact rfl) (by exact rfl) (lbE rfl) ?_
 refine CodeY.seq kept (CodeY.reg kept (by kernel_rfl) (by kernel_rfl) ?_);refine gH ?_
 have hol:=W.ol
 refine ic (k:=o.length) rfl rfl (by omega) ?_;refine gH ?_
 refine CodeY.block (CodeY.loop kept (nn:=19) (σ:=Nat) (fun k h=>k<=o.length/\Own vars h0 [(some g8,.cells [.slice (some ⟨go,0,none⟩) c.nodes.length c.nodes.length] false),(some go,.cells (flatC ((fQ ends nx c.nodes.length (o.drop k)).map cA)) false),(some g7,.cells [ah 1 Value.bool ends] false)] h)
  (fun k=>[(0,.func (.yield Lb) ⟨[]⟩ ⟨[]⟩),(1,FP (ah 1 i64 o)),(3,uQ k)]) (fun k=>k) rfl ⟨o.length,⟨Nat.le_refl _,O⟩,rfl,rfl,rfl,trivial⟩ ?_)
 clear O;rintro k base h ⟨hk,O⟩
 cases k with
 |zero =>
  conv=>whnf
  refine CodeY.seq kept (CodeY.seq kept (CodeY.reg kept (by kernel_rfl) (by kernel_rfl) ?_));refine gH ?_
  refine CodeY.cond (by exact rfl) false (by exact rfl) (CodeY.exit ?_);conv=>whnf
  rw[List.drop_zero,yP W.all] at O
  intro D'
  refine CodeY.seq ln (CodeY.reg ln (by kernel_rfl) (by kernel_rfl) ?_);refine gH ?_
  refine CodeY.ret ?_;conv=>whnf
  exact⟨O.ext,fun h2 F=>O.iu F (Nat.le_refl _) (.tail _ (.head _)) (fun _=>rfl) (by simp)⟩
 |succ k =>
  obtain⟨m,hm⟩:∃ m,o[k]?=some m:=⟨_,List.getElem?_eq_getElem (by omega)⟩
  obtain⟨h1,y1,O⟩:=yl k m h hm O
  conv=>whnf
  refine CodeY.seq kept (CodeY.seq kept (CodeY.reg kept (by kernel_rfl) (by kernel_rfl) ?_));refine gH ?_
  refine CodeY.cond (by exact rfl) true (congrArg Value.bool (by show (!ltN k 0)=true;rw[cW];simp)) (CodeY.skip ?_);conv=>whnf
  refine CodeY.seq kept (CodeY.block (CodeY.seq kept (CodeY.region kept (by kernel_rfl) (by kernel_rfl) (RegYS.Bd 6 ?_))));refine gH ?_
  refine atF (W:=fun _=>True) ⟨m,hm,trivial⟩ fun x' hx' _=>?_
  rw[hm] at hx';cases hx'
  refine gH ?_
  refine RegYS.yield (by exact rfl) (by exact rfl) (by exact rfl) (by exact rfl) y1 ?_;refine gH ?_
  refine RegYS.Bd 1 ?_;refine gH ?_
  refine RegYS.nil ?_;refine gX ?_
  refine CodeY.cond (by exact rfl) false (by exact rfl) (CodeY.skip ?_);refine gX ?_
  refine CodeY.reg kept (by kernel_rfl) (by kernel_rfl) ?_;refine gH ?_
  refine ic (k:=k) rfl rfl (by omega) ?_;refine gH ?_
  exact⟨k,by omega,⟨by omega,O⟩,rfl,rfl,rfl,trivial⟩
set_option maxHeartbeats 8000000
abbrev aY:List LnZ->Value:=ah 2 au
abbrev ss (go gc gn ge n:Nat):Value:=.func (.func 21) ⟨[]⟩ ⟨[.pointer (some ⟨go,0,none⟩),FP (i64 n),.pointer (some ⟨gc,0,none⟩),.pointer (some ⟨gn,0,none⟩),.pointer (some ⟨ge,0,none⟩)]⟩
theorem uL {c:Circ}{nx:List (List LnZ)}{ends:List Bool} (S:StepsOk c nx) (C:Cir c) (hE:∀ m,m<c.nodes.length->ends.getD m false=oC c m):∀ (k m:Nat),m<c.nodes.length->js ends nx k m=false->enW c nx k m=[]:=by
 intro k
 induction k with
 |zero =>
  intro m hm h
  rw[js,hE m hm] at h
  rw[enW,h];rfl
 |succ k ih =>
  intro m hm h
  obtain⟨row,hrow⟩:=aw (l:=nx) (i:=m) (by rw[S.len];exact hm)
  have hg:nx.getD m []=row:=by rw[List.getD,hrow];rfl
  rw[js,hg] at h
  rw[enW,hg]
  rw[List.any_eq_false] at h
  rw[List.flatMap_eq_nil_iff]
  intro z hz
  obtain⟨k',j,rfl,ld⟩:=(S.mem m row hrow z).1 hz
  obtain⟨y,hy,_⟩:=ld.node C
  have:=h _ hz
  rw[ih k' (ak hy) (by simpa using this)]
  rfl
theorem vk {α:Type} (A B:List α) (n:Nat):(A.take n++B).take n=(A++B).take n:=by
 rw[List.take_append,List.take_append,List.take_take,Nat.min_self,List.length_take]
 by_cases h:A.length<=n
 ·rw[Nat.min_eq_right h]
 ·rw[Nat.min_eq_left (by omega)]
  have e1:n-n=0:=by omega
  have e2:n-A.length=0:=by omega
  rw[e1,e2]
theorem jl {α:Type}{A:List α}{n:Nat} (h:A.length<=n):A.take n=A:=List.take_of_length_le h
def lE (c:Circ) (nx:List (List LnZ)) (left:Nat) (row path:List LnZ) (outs:List (List LnZ)) (n j:Nat):List (List LnZ):=(outs++(row.take j).flatMap fun z=>(enW c nx left z.node).map ((path++[z]) ++ ·)).take n
section
variable {c:Circ} {nx:List (List LnZ)} {left:Nat} {row path:List LnZ} {outs:List (List LnZ)} {n:Nat}
theorem sy (h:outs.length<=n):lE c nx left row path outs n 0=outs:=by
 unfold lE
 rw[List.take_zero,List.flatMap_nil,List.append_nil,jl h]
theorem vu (j:Nat):(lE c nx left row path outs n j).length<=n:=by
 unfold lE
 rw[List.length_take];omega
theorem ti {j:Nat}{z:LnZ} (hz:row[j]?=some z):(lE c nx left row path outs n j++(enW c nx left z.node).map ((path++[z]) ++ ·)).take n=lE c nx left row path outs n (j+1):=by
 unfold lE
 rw[vk,List.take_add_one,hz,List.flatMap_append,List.append_assoc]
 simp
theorem Bc {m:Nat} (hm:nx[m]?=some row):lE c nx left row path outs n row.length=(outs++(enW c nx (left+1) m).map (path ++ ·)).take n:=by
 have hg:nx.getD m []=row:=by rw[List.getD,hm];rfl
 unfold lE
 rw[List.take_length,enW,hg,List.map_flatMap]
 congr 3
 funext z
 simp
end
theorem yz {h0 h:Heap}{L:List Slot}{g k cap:Nat}{sp:Option Nat}{path J:List LnZ} (O:Own vars h0 L h) (m:(some g,.cells (flatC ((path++J).map au)) false)∈L) (hk:k=path.length) (hp:0<path.length) (hl:path.length<=2 ^ 20) :
  ∃ v h',CallD Tryz.prog NG 23 ⟨[.slice (some ⟨g,0,sp⟩) k cap]⟩ h v h'/\∃ g',v=.slice (some ⟨g',0,some 2⟩) path.length path.length/\Own vars h0 ((some g',.cells (flatC (path.map au)) false)::L) h':=by
 subst hk
 refine fg Tryz.func23 ?_;refine gX ?_
 refine⟨.bool false,by rfl,?_⟩;refine gX ?_
 refine bf ?_;refine gX ?_
 refine O.tW rfl rfl rfl fun ge h O=>?_;refine gH ?_
 refine O.yo (s:=2) (b:=16) (l:=([]:List LnZ)) (n:=0) (new:=path) (.head _) rfl rfl rfl rfl rfl rfl rfl rfl (YOk.pre (O.at (.tail _ m)) rfl (fun _=>rfl) rfl) (fun _=>rfl) (fun _=>rfl) hp (Nat.le_refl _) (by decide) (by omega) fun g' h O=>?_;refine gX ?_
 have e:0+path.length=path.length:=Nat.zero_add _
 refine⟨g',?_,O.second⟩
 show Value.slice (some ⟨g',0,some 2⟩) (0+path.length) (0+path.length)=_
 rw[e]
theorem Aj {h:Heap}{g k:Nat}:∃ v h',CallD Tryz.prog NG 22 ⟨[.slice (some ⟨g,0,some 2⟩) k k]⟩ h v h'/\∃ _u:Unit,v=.slice (some ⟨g,0,none⟩) k k/\h'=h:=by
 refine fg Tryz.func22 ?_;refine gX ?_
 refine D3 (s:=2) (a:=some g) (n:=k) (m:=k) (Nat.le_refl _) ?_;refine gX ?_
 exact⟨(),rfl,rfl⟩
theorem DB {c:Circ}{nx:List (List LnZ)}{ends:List Bool}{rows:List (List Bool)}{n:Nat} (C:Cir c) (S:StepsOk c nx) (hE:∀ m,m<c.nodes.length->ends.getD m false=oC c m) (hr:rows=(List.range c.nodes.length).map (dm ends nx)) (hn:n<=4096) (hrl:∀ (m:Nat) (row:List LnZ),nx[m]?=some row->row.length<2 ^ 62) {h0:Heap}{go gc gn ge:Nat} :
  ∀ (left:Nat),left<256->∀ (gp:Nat) (path J:List LnZ) (x:LnZ) (a:Option Nat) (outs:List (List LnZ)) (Lr:List Slot) (h:Heap) (p:Nat),path.length=p+1->p+left<=256->path[p]?=some x->x.node<c.nodes.length->outs.length<=n->(a=none->outs=[]) ->
   Own vars h0 ([(some gp,.cells (flatC ((path++J).map au)) false),(a,.cells (flatC ((outs).map aY)) false),(some go,.cells [aj 1 a ((outs).map aY)] false),(some gc,.cells [ah 1 (ah 1 Value.bool) rows] false),(some gn,.cells [ah 1 aY nx] false),(some ge,.cells [ss go gc gn ge n] false)]++Lr) h ->
   CallM Tryz.prog NG 21 ⟨[.slice (some ⟨gp,0,some 2⟩) (p+1) (p+1),i64 left,.pointer (some ⟨go,0,none⟩),FP (i64 n),.pointer (some ⟨gc,0,none⟩),.pointer (some ⟨gn,0,none⟩),.pointer (some ⟨ge,0,none⟩)]⟩ h fun _ h' =>
    ∃ J' a',(a'=none->(outs++(enW c nx left x.node).map (path ++ ·)).take n=[])/\Own vars h0 ([(some gp,.cells (flatC ((path++J').map au)) false),(a',.cells (flatC (((outs++(enW c nx left x.node).map (path ++ ·)).take n).map aY)) false),(some go,.cells [aj 1 a' (((outs++(enW c nx left x.node).map (path ++ ·)).take n).map aY)] false),(some gc,.cells [ah 1 (ah 1 Value.bool) rows] false),(some gn,.cells [ah 1 aY nx] false),(some ge,.cells [ss go gc gn ge n] false)]++Lr) h':=by
 intro left
 induction left with
 |zero =>
  intro _ gp path J x a outs Lr h p hp hpl hx hxn ho ha O
  have hrow:rows[x.node]?=some (dm ends nx x.node):=by rw[hr,List.getElem?_map,List.getElem?_range hxn];rfl
  have hlen:=C.len
  have hx1:(path++J)[p]?=some x:=by rw[List.getElem?_append_left (by omega)];exact hx
  have body:∀ (sp:Option Nat) (cap:Nat),CallM Tryz.prog NG 21 ⟨[.slice (some ⟨gp,0,sp⟩) (p+1) cap,i64 0,.pointer (some ⟨go,0,none⟩),FP (i64 n),.pointer (some ⟨gc,0,none⟩),.pointer (some ⟨gn,0,none⟩),.pointer (some ⟨ge,0,none⟩)]⟩ h fun _ h' =>
    ∃ J' a',(a'=none->(outs++(enW c nx 0 x.node).map (path ++ ·)).take n=[])/\Own vars h0 ([(some gp,.cells (flatC ((path++J').map au)) false),(a',.cells (flatC (((outs++(enW c nx 0 x.node).map (path ++ ·)).take n).map aY)) false),(some go,.cells [aj 1 a' (((outs++(enW c nx 0 x.node).map (path ++ ·)).take n).map aY)] false),(some gc,.cells [ah 1 (ah 1 Value.bool) rows] false),(some gn,.cells [ah 1 aY nx] false),(some ge,.cells [ss go gc gn ge n] false)]++Lr) h':=by
   intro sp cap
   refine CallM.body hM Tryz.func21 rfl (hP _ _ rfl Tryz.func21) (lbE rfl) ?_
   conv=>whnf
   refine CodeM.seq (CodeM.reg ?_);refine gH ?_
   refine ic (k:=p+1) rfl rfl (by omega) ?_;refine gH ?_
   refine bV (s:=2) (j:=p) rfl rfl rfl rfl (by omega) ?_;refine gH ?_
   refine ldE (s:=2) (i:=0) (O.at (.head _)) hx1 ?_;refine gH ?_
   refine CodeM.seq (CodeM.seq (CodeM.reg ?_));refine gH ?_
   refine⟨_,rfl,fun hb=>?_,fun hb=>?_⟩
   ·refine gH ?_
    have he:outs.length=n:=Int.ofNat.inj (of_decide_eq_true hb)
    have hR:(outs++(enW c nx 0 x.node).map (path ++ ·)).take n=outs:=by rw[List.take_append,jl (by omega),he,Nat.sub_self,List.take_zero,List.append_nil]
    refine CodeM.cond ⟨true,by exact rfl,fun _=>CodeM.ret ?_,fun e=>nomatch e⟩;conv=>whnf
    refine⟨J,a,?_,?_⟩
    ·rw[hR];exact ha
    ·rw[hR];exact O
   ·refine gH ?_
    refine ldO (O.at (.tail _ (.tail _ (.tail _ (.head _))))) ?_;refine gH ?_
    refine atF (W:=fun _=>True) ⟨_,hrow,trivial⟩ fun x' hx' _=>?_
    rw[hrow] at hx';cases hx'
    refine gH ?_
    refine atF (W:=fun _=>True) ⟨js ends nx 0 x.node,hY (by decide),trivial⟩ fun x' hx' _=>?_
    rw[hY (by decide)] at hx';cases hx'
    refine gH ?_
    have hne:outs.length<n:=by
     have:outs.length≠n:=fun e=>by rw[e] at hb;simp at hb
     omega
    refine CodeM.cond ⟨_,rfl,fun hc=>CodeM.ret ?_,fun hc=>CodeM.skip ?_⟩
    ·conv=>whnf
     have hR:(outs++(enW c nx 0 x.node).map (path ++ ·)).take n=outs:=by
      rw[uL S C hE 0 x.node hxn (by simpa using hc),List.map_nil,List.append_nil,jl ho]
     refine⟨J,a,?_,?_⟩
     ·rw[hR];exact ha
     ·rw[hR];exact O
    ·conv=>whnf
     refine CodeM.seq (CodeM.seq (CodeM.reg ?_));refine gH ?_
     refine CodeM.cond ⟨true,by exact rfl,fun _=>?_,fun e=>nomatch e⟩
     refine CodeM.seq (CodeM.draw ?_);refine gH ?_
     have Oa:=O
     refine⟨.inr (.inr (ae rfl (O.at (.tail _ (.tail _ (.head _)))) rfl rfl)),?_⟩;refine gH ?_
     obtain⟨_,h1,cd,g',rfl,O1⟩:=yz (sp:=sp) (cap:=cap) O (.head _) hp.symm (by omega) (by omega)
     refine⟨_,h1,cd,?_⟩;refine gH ?_
     refine⟨.inr (.inr (zQ (i:=0) (by kernel_rfl) rfl rfl (O.at (.tail _ (.tail _ (.head _)))) (O1.at (.tail _ (.tail _ (.tail _ (.head _))))))),?_⟩;refine gH ?_
     obtain⟨_,_,cd2,_,rfl,rfl⟩:=Aj (h:=h1) (g:=g') (k:=path.length)
     refine⟨_,_,cd2,?_⟩;refine gH ?_
     refine⟨.inr (.inl (Ext.refl _)),?_⟩;refine gH ?_
     refine O1.bF (kZ (z:=.slice none 0 0) (vs:=[.slice (some ⟨g',0,none⟩) path.length path.length]) rfl rfl (by kernel_rfl) (by kernel_rfl) rfl rfl rfl rfl (by intro v m;rw[List.mem_singleton] at m;subst m;rfl)) fun gb h O=>?_;refine gH ?_
     refine O.append (s:=1) (b:=24) (m:=1) (new:=[.slice (some ⟨g',0,none⟩) path.length path.length]) (.tail _ (.tail _ (.tail _ (.head _)))) (fun e=>by rw[ha e];rfl) rfl rfl rfl rfl rfl rfl rfl rfl rfl (kG (O.at (.head _)) rfl) rfl (fun e m=>by
      rcases List.mem_append.1 m with m|m
      ·obtain⟨q,_,rfl⟩:=List.mem_map.1 m;rfl
      ·rw[List.mem_singleton] at m;subst m;rfl) rfl (by decide) (by rw[List.length_map];omega) rfl fun a1 h ha1 O=>?_
     conv=>whnf
     refine⟨.inl (by kernel_rfl),?_⟩;refine gH ?_
     refine O.stC 1 (.tail _ (.tail _ (.tail _ (.tail _ (.head _))))) [aj 1 a1 (outs.map aY++[.slice (some ⟨g',0,none⟩) path.length path.length])] fun h O=>?_
     conv=>whnf
     refine⟨.inl (by kernel_rfl),?_⟩;refine gH ?_
     obtain⟨a1,rfl⟩:∃ g,a1=some g:=by
      cases a1 with
      |none=>exact absurd (ha1 rfl) (by simp)
      |some g=>exact⟨g,rfl⟩
     refine CodeM.ghost (cs2':=flatC ((outs++[path]).map aY)) O (.tail _ (.head _)) (.tail _ (.tail _ (.tail _ (.head _)))) (t1:=38) (t2:=40) rfl rfl rfl rfl (fun h2 hq=>?_) fun h O=>CodeM.ret ?_
     ·rw[List.map_append,aN,aN]
      exact LLe.append (LLe.refl _ _) (LLe.cons (VLe.flM hq rfl (fun _=>rfl)) (LLe.nil _))
     ·conv=>whnf
      have hR:(outs++(enW c nx 0 x.node).map (path ++ ·)).take n=outs++[path]:=by
       have h1:js ends nx 0 x.node=true:=by simpa using hc
       rw[js,hE _ hxn] at h1
       rw[enW,if_pos h1,List.map_cons,List.map_nil,List.append_nil,jl]
       rw[List.length_append,List.length_singleton];omega
      refine⟨J,some a1,(fun e=>nomatch e),?_⟩
      rw[hR]
      have e1:aj 1 (some a1) (outs.map aY++[.slice (some ⟨g',0,none⟩) path.length path.length])=aj 1 (some a1) ((outs++[path]).map aY):=by
       unfold aj;simp
      rw[e1] at O
      exact O.tail.tail
  exact CallM.room (by omega) (body _ _) (body _ _)
 |succ left ih =>
  intro hl gp path J x a outs Lr h p hp hpl hx hxn ho ha O
  have hrow:rows[x.node]?=some (dm ends nx x.node):=by rw[hr,List.getElem?_map,List.getElem?_range hxn];rfl
  have hlen:=C.len
  have hx1:(path++J)[p]?=some x:=by rw[List.getElem?_append_left (by omega)];exact hx
  obtain⟨row,hrow2⟩:=aw (l:=nx) (i:=x.node) (by rw[S.len];exact hxn)
  have hrl:=hrl _ _ hrow2
  have body:∀ (sp:Option Nat) (cap:Nat),(sp=none/\cap=p+1)\/(sp=some 2/\cap=p+1+1)->CallM Tryz.prog NG 21 ⟨[.slice (some ⟨gp,0,sp⟩) (p+1) cap,i64 (left+1),.pointer (some ⟨go,0,none⟩),FP (i64 n),.pointer (some ⟨gc,0,none⟩),.pointer (some ⟨gn,0,none⟩),.pointer (some ⟨ge,0,none⟩)]⟩ h fun _ h' =>
    ∃ J' a',(a'=none->(outs++(enW c nx (left+1) x.node).map (path ++ ·)).take n=[])/\Own vars h0 ([(some gp,.cells (flatC ((path++J').map au)) false),(a',.cells (flatC (((outs++(enW c nx (left+1) x.node).map (path ++ ·)).take n).map aY)) false),(some go,.cells [aj 1 a' (((outs++(enW c nx (left+1) x.node).map (path ++ ·)).take n).map aY)] false),(some gc,.cells [ah 1 (ah 1 Value.bool) rows] false),(some gn,.cells [ah 1 aY nx] false),(some ge,.cells [ss go gc gn ge n] false)]++Lr) h':=by
   intro sp cap hsp
   refine CallM.body hM Tryz.func21 rfl (hP _ _ rfl Tryz.func21) (lbE rfl) ?_
   conv=>whnf
   refine CodeM.seq (CodeM.reg ?_);refine gH ?_
   refine ic (k:=p+1) rfl rfl (by omega) ?_;refine gH ?_
   refine bV (s:=2) (j:=p) rfl rfl rfl rfl (by omega) ?_;refine gH ?_
   refine ldE (s:=2) (i:=0) (O.at (.head _)) hx1 ?_;refine gH ?_
   refine CodeM.seq (CodeM.seq (CodeM.reg ?_));refine gH ?_
   refine⟨_,rfl,fun hb=>?_,fun hb=>?_⟩
   ·refine gH ?_
    have he:outs.length=n:=Int.ofNat.inj (of_decide_eq_true hb)
    have hR:(outs++(enW c nx (left+1) x.node).map (path ++ ·)).take n=outs:=by rw[List.take_append,jl (by omega),he,Nat.sub_self,List.take_zero,List.append_nil]
    refine CodeM.cond ⟨true,by exact rfl,fun _=>CodeM.ret ?_,fun e=>nomatch e⟩;conv=>whnf
    refine⟨J,a,?_,?_⟩
    ·rw[hR];exact ha
    ·rw[hR];exact O
   ·refine gH ?_
    refine ldO (O.at (.tail _ (.tail _ (.tail _ (.head _))))) ?_;refine gH ?_
    refine atF (W:=fun _=>True) ⟨_,hrow,trivial⟩ fun x' hx' _=>?_
    rw[hrow] at hx';cases hx'
    refine gH ?_
    refine atF (W:=fun _=>True) ⟨js ends nx (left+1) x.node,hY hl,trivial⟩ fun x' hx' _=>?_
    rw[hY hl] at hx';cases hx'
    refine gH ?_
    refine CodeM.cond ⟨_,rfl,fun hc=>CodeM.ret ?_,fun hc=>CodeM.skip ?_⟩
    ·conv=>whnf
     have hR:(outs++(enW c nx (left+1) x.node).map (path ++ ·)).take n=outs:=by
      rw[uL S C hE (left+1) x.node hxn (by simpa using hc),List.map_nil,List.append_nil,jl ho]
     refine⟨J,a,?_,?_⟩
     ·rw[hR];exact ha
     ·rw[hR];exact O
    ·conv=>whnf
     refine CodeM.seq (CodeM.seq (CodeM.reg ?_));refine gH ?_
     refine CodeM.cond ⟨false,by exact rfl,(fun e=>nomatch e),fun _=>CodeM.skip ?_⟩;conv=>whnf
     refine CodeM.seq (CodeM.reg ?_);refine gH ?_
     refine ldO (O.at (.tail _ (.tail _ (.tail _ (.tail _ (.head _)))))) ?_;refine gH ?_
     refine atF (W:=fun _=>True) ⟨row,hrow2,trivial⟩ fun x' hx' _=>?_
     rw[hrow2] at hx';cases hx'
     refine gH ?_
     refine CodeM.block (CodeM.loop (nn:=59) (σ:=Nat×List LnZ×Option Nat) (fun s h=>s.1<=row.length/\(s.2.2=none->lE c nx left row path outs n s.1=[])/\Own vars h0 ([(some gp,.cells (flatC ((path++s.2.1).map au)) false),(s.2.2,.cells (flatC ((lE c nx left row path outs n s.1).map aY)) false),(some go,.cells [aj 1 s.2.2 ((lE c nx left row path outs n s.1).map aY)] false),(some gc,.cells [ah 1 (ah 1 Value.bool) rows] false),(some gn,.cells [ah 1 aY nx] false),(some ge,.cells [ss go gc gn ge n] false)]++Lr) h)
      (fun s=>[(0,.slice (some ⟨gp,0,sp⟩) (p+1) cap),(1,i64 (left+1)),(6,.pointer (some ⟨ge,0,none⟩)),(44,ah 2 au row),(45,i64 row.length),(46,i64 s.1)]) (fun s=>row.length-s.1) rfl
      ⟨(0,J,a),⟨Nat.zero_le _,by rw[sy ho];exact ha,by rw[sy ho];exact O⟩,VLe.refl _ _,VLe.refl _ _,VLe.refl _ _,VLe.refl _ _,VLe.refl _ _,VLe.refl _ _,trivial⟩ ?_)
     clear O ha;rintro⟨j,J,a⟩ base h ⟨hj,ha,O⟩
     dsimp only at hj ha O
     have htk:(path++J).take (p+1)=path:=List.take_left' hp
     conv=>whnf
     refine CodeM.seq (CodeM.reg ?_);refine gH ?_
     by_cases hlt:j<row.length
     ·obtain⟨z,hzj⟩:∃ z,row[j]?=some z:=⟨_,List.getElem?_eq_getElem hlt⟩
      refine CodeM.seq (CodeM.cond ⟨true,congrArg Value.bool (by show ltN j row.length=true;rw[cW];simp;omega),fun _=>CodeM.skip ?_,fun e=>nomatch e⟩);conv=>whnf
      refine CodeM.seq (CodeM.block (CodeM.seq (CodeM.reg ?_)));refine gH ?_
      refine atF (W:=fun _=>True) ⟨z,hzj,trivial⟩ fun x' hx' _=>?_
      rw[hzj] at hx';cases hx'
      refine gH ?_
      (first|refine O.new (ai (l:=[(i64 0),(z64 0)]) rfl rfl rfl) fun g11 h O=>?_|refine O.bF (ai (l:=[(i64 0),(z64 0)]) rfl rfl rfl) fun g11 h O=>?_);refine gH ?_
      refine O.stC 2 (.head _) [(i64 z.node),(z64 z.pin)] fun h O=>?_;refine gH ?_
      refine CodeM.Eb rfl (by kernel_rfl) (by kernel_rfl) ?_;refine gH ?_
      refine⟨_,ae rfl (O.at (.tail _ (.tail _ (.tail _ (.tail _ (.tail _ (.tail _ (.head _)))))))) rfl rfl,?_⟩;refine gH ?_
      refine⟨.inr (.inr (ae rfl (O.at (.tail _ (.tail _ (.tail _ (.tail _ (.tail _ (.tail _ (.head _)))))))) rfl rfl)),?_⟩;refine gH ?_
      refine ldA (l:=[i64 z.node,z64 z.pin]) (O.at (.head _)) ?_;refine gH ?_
      refine⟨.inl (by simp[i64,z64,plain,aA]),?_⟩;refine gH ?_
      refine O.dq (l:=[z]) (enc:=au) (s:=2) (z:=.agg ⟨[i64 0,z64 0]⟩) rfl rfl (by kernel_rfl) (by kernel_rfl) rfl rfl rfl rfl (fun _=>rfl) fun gs h O=>?_;refine gH ?_
      have Ob:=O
      have hpz:(path++[z])[p+1]?=some z:=by rw[<- hp,List.getElem?_concat_length]
      have hzn:z.node<c.nodes.length:=by
       obtain⟨k',j',rfl,ld⟩:=(S.mem _ row hrow2 z).1 (List.mem_of_getElem? hzj)
       obtain⟨y,hy,_⟩:=ld.node C
       exact ak hy
      rcases hsp with⟨rfl,rfl⟩|⟨rfl,rfl⟩
      ·refine O.yo (s:=2) (b:=16) (l:=path++J) (n:=p+1) (new:=[z]) (.tail _ (.tail _ (.head _))) rfl rfl rfl rfl rfl rfl rfl rfl (YOk.own (O.at (.head _)) rfl (fun _=>rfl) rfl) (fun _=>rfl) (fun _=>rfl) (Nat.lt_succ_self 0) (by rw[List.length_append];omega) (by decide) (by rw[List.length_singleton];omega) fun g' h O=>?_
       conv=>whnf
       refine⟨.inr (.inr (zQ (i:=0) (by kernel_rfl) rfl rfl (Ob.at (.tail _ (.tail _ (.tail _ (.tail _ (.tail _ (.tail _ (.tail _ (.head _))))))))) (O.at (.tail _ (.tail _ (.tail _ (.tail _ (.tail _ (.tail _ (.tail _ (.tail _ (.head _)))))))))))),?_⟩;refine gH ?_
       refine ic (k:=left+1) rfl rfl (by omega) ?_;refine gH ?_
       rw[htk] at O
       have O':Own vars h0 ([(some g',.cells (flatC (((path++[z])++[]).map au)) false),(a,.cells (flatC ((lE c nx left row path outs n j).map aY)) false),(some go,.cells [aj 1 a ((lE c nx left row path outs n j).map aY)] false),(some gc,.cells [ah 1 (ah 1 Value.bool) rows] false),(some gn,.cells [ah 1 aY nx] false),(some ge,.cells [ss go gc gn ge n] false)]++((some gp,.cells (flatC ((path++J).map au)) false)::Lr)) h:=by
        rw[List.append_nil]
        exact Own.xg [_,_,_,_,_,_,_,_,_] O [0,4,5,6,7,8,3] (by decide)
       refine⟨_,⟨_⟩,_,iM rfl,(ih (by omega) g' (path++[z]) [] z a _ _ h (p+1) (by rw[List.length_append,hp];rfl) (by omega) hpz hzn (vu j) ha O'),?_⟩
       rintro v h ⟨J',a',ha',O⟩
       rw[ti hzj] at ha' O
       conv=>whnf
       refine CodeM.reg ?_;refine gH ?_
       refine aR (a:=j) (b:=1) (W:=True) ⟨by omega,trivial⟩ fun _=>?_;refine gH ?_
       refine⟨(j+1,J,a'),by show row.length-(j+1)<row.length-j;omega,⟨hlt,ha',?_⟩,VLe.refl _ _,VLe.refl _ _,VLe.refl _ _,VLe.refl _ _,VLe.refl _ _,VLe.refl _ _,trivial⟩
       exact Own.xg [_,_,_,_,_,_,_] O [6,1,2,3,4,5] (by decide)
      ·refine O.xV (s:=2) (b:=16) (l:=path++J) (n:=p+1) (cap:=p+1+1) (new:=[z]) (.tail _ (.tail _ (.head _))) rfl rfl rfl rfl rfl rfl rfl (YOk.own (O.at (.head _)) rfl (fun _=>rfl) rfl) (fun _=>rfl) (fun _=>rfl) (Nat.le_refl _) (by rw[List.length_append];omega) (.inr rfl) fun h O=>?_
       conv=>whnf
       refine⟨.inr (.inr (zQ (i:=0) (by kernel_rfl) rfl rfl (Ob.at (.tail _ (.tail _ (.tail _ (.tail _ (.tail _ (.tail _ (.tail _ (.head _))))))))) (O.at (.tail _ (.tail _ (.tail _ (.tail _ (.tail _ (.tail _ (.tail _ (.head _))))))))))),?_⟩;refine gH ?_
       refine ic (k:=left+1) rfl rfl (by omega) ?_;refine gH ?_
       rw[htk] at O
       have O':Own vars h0 ([(some gp,.cells (flatC (((path++[z])++(path++J).drop (p+1+[z].length)).map au)) false),(a,.cells (flatC ((lE c nx left row path outs n j).map aY)) false),(some go,.cells [aj 1 a ((lE c nx left row path outs n j).map aY)] false),(some gc,.cells [ah 1 (ah 1 Value.bool) rows] false),(some gn,.cells [ah 1 aY nx] false),(some ge,.cells [ss go gc gn ge n] false)]++Lr) h:=by
        have:=Own.xg [_,_,_,_,_,_,_,_] O [2,3,4,5,6,7] (by decide)
        rw[List.append_assoc]
        exact this
       refine⟨_,⟨_⟩,_,iM rfl,(ih (by omega) gp (path++[z]) _ z a _ _ h (p+1) (by rw[List.length_append,hp];rfl) (by omega) hpz hzn (vu j) ha O'),?_⟩
       rintro v h ⟨J',a',ha',O⟩
       rw[ti hzj] at ha' O
       conv=>whnf
       refine CodeM.reg ?_;refine gH ?_
       refine aR (a:=j) (b:=1) (W:=True) ⟨by omega,trivial⟩ fun _=>?_;refine gH ?_
       refine⟨(j+1,[z]++J',a'),by show row.length-(j+1)<row.length-j;omega,⟨hlt,ha',?_⟩,VLe.refl _ _,VLe.refl _ _,VLe.refl _ _,VLe.refl _ _,VLe.refl _ _,VLe.refl _ _,trivial⟩
       dsimp only
       rw[<- List.append_assoc]
       exact O
     ·obtain rfl:j=row.length:=by omega
      rw[Bc hrow2] at ha O
      refine CodeM.seq (CodeM.cond ⟨false,congrArg Value.bool (by show ltN row.length row.length=false;rw[cW];simp),(fun e=>nomatch e),fun _=>CodeM.exit ?_⟩);conv=>whnf
      exact⟨J,a,ha,O⟩
  exact CallM.room (by omega) (body _ _ (.inl ⟨rfl,rfl⟩)) (body _ _ (.inr ⟨rfl,rfl⟩))
set_option maxHeartbeats 8000000
theorem wZ {h:Heap}{x:Node}:∃ v h',CallD Tryz.prog NG 17 ⟨[an x]⟩ h v h'/\∃ _u:Unit,v=.bool (decide (x.kind=0\/x.kind=14))/\h'=h:=by
 refine fg Tryz.func17 ?_;refine gX ?_
 refine fz ?_;refine gX ?_
 refine⟨_,rfl,fun hb=>?_,fun hb=>?_⟩
 ·refine gX ?_
  have he:x.kind=0:=Int.ofNat.inj (of_decide_eq_true hb)
  refine⟨(),?_,rfl⟩
  rw[he];rfl
 ·refine gX ?_
  have hne:x.kind≠0:=fun e=>by rw[e] at hb;simp at hb
  refine⟨(),?_,rfl⟩
  show Value.bool (Int.ofNat x.kind==Int.ofNat 14)=_
  congr 1
  rw[Bool.eq_iff_iff]
  simp[hne]
  omega
theorem zH {h:Heap}{a:Option Nat}{l:List (List LnZ)}:∃ v h',CallD Tryz.prog NG 24 ⟨[aj 1 a (l.map aY)]⟩ h v h'/\∃ _u:Unit,v=iw a (l.map aY)/\h'=h:=by
 refine fg Tryz.func24 ?_;refine gX ?_
 refine lT (s:=1) (enc:=aY) rfl rfl rfl rfl rfl rfl rfl ?_;refine gX ?_
 exact⟨(),rfl,rfl⟩
def pA (c:Circ) (nx:List (List LnZ)) (n k:Nat):List (List LnZ):=(((List.range 256).reverse.take (256-k)).flatMap (enL c nx)).take n
def lD (c:Circ) (nx:List (List LnZ)) (n k j:Nat):List (List LnZ):=(((List.range 256).reverse.take (255-k)).flatMap (enL c nx)++((List.range j).filter (sn c)).flatMap fun s=>(enW c nx k s).map ((⟨s,Int.negSucc 0⟩:LnZ) :: ·)).take n
section
variable {c:Circ} {nx:List (List LnZ)} {n:Nat}
theorem rj:pA c nx n 256=[]:=by
 unfold pA
 rw[Nat.sub_self,List.take_zero,List.flatMap_nil,List.take_nil]
theorem zU:pA c nx n 0=(enA c nx).take n:=by
 unfold pA enA
 have e:(List.range 256).reverse.take (256-0)=(List.range 256).reverse:=List.take_of_length_le (by rw[List.length_reverse,List.length_range];exact Nat.le_refl _)
 rw[e]
theorem sN {k:Nat}:lD c nx n k 0=pA c nx n (k+1):=by
 unfold lD pA
 rw[List.range_zero,List.filter_nil,List.flatMap_nil,List.append_nil]
 have e:255-k=256-(k+1):=by omega
 rw[e]
theorem BA {k:Nat} (hk:k<256):lD c nx n k c.nodes.length=pA c nx n k:=by
 unfold lD pA
 have e1:256-k=(255-k)+1:=by omega
 have e2:((List.range 256).reverse)[255-k]?=some k:=by
  rw[List.getElem?_reverse (by simp;omega),List.length_range]
  rw[List.getElem?_range (by omega)]
  congr 1
  omega
 rw[e1,List.take_add_one,e2,List.flatMap_append]
 simp only[Option.toList_some,List.flatMap_cons,List.flatMap_nil,List.append_nil]
 rfl
theorem Ac {k j:Nat} (h:sn c j=true):(lD c nx n k j++(enW c nx k j).map ([(⟨j,Int.negSucc 0⟩:LnZ)] ++ ·)).take n=lD c nx n k (j+1):=by
 unfold lD
 rw[vk,List.range_succ (n:=j),List.filter_append,List.flatMap_append,List.append_assoc]
 congr 3
 simp[h]
theorem Cr {k j:Nat} (h:sn c j=false):lD c nx n k j=lD c nx n k (j+1):=by
 unfold lD
 rw[List.range_succ (n:=j),List.filter_append,List.flatMap_append]
 simp[h]
theorem Ap (k j:Nat):(lD c nx n k j).length<=n:=by unfold lD;rw[List.length_take];omega
end
theorem ow {c:Circ}{nx:List (List LnZ)}{ends:List Bool}{n:Nat} (C:Cir c) (S:StepsOk c nx) (hE:∀ m,m<c.nodes.length->ends.getD m false=oC c m) (hn:n<=4096) (hlim:∀ (m:Nat) (row:List LnZ),nx[m]?=some row->row.length<2 ^ 62)
  (hlines:bw c (fun r=>r.2=0)) (hsteps:dA c (fun L=>L=nx)) (hord:aO c (fun r=>r.2=0/\LenOk c.nodes.length r.1 ends nx)) (hobs:bm c (fun e=>e=ends)) {h0:Heap} (hB:HasB vars h0) :
  CallD Tryz.prog NG 7 ⟨[ax c,i64 n]⟩ h0 (.tuple ⟨[ah 1 aY ((enA c nx).take n),i64 0]⟩) h0:=by
 rw[<- zU]
 refine fnM hM Tryz.func7 rfl (hP _ _ rfl Tryz.func7) (lbE rfl) hB (PureV.tup (ag.cons (cb (fun _=>ag.cons (cb fun _=>ag.cons (PureV.flat rfl) (ag.cons (PureV.flat rfl) ag.nil)) ag.nil)) (ag.cons (PureV.flat rfl) ag.nil))) fun O=>?_
 conv=>whnf
 refine CodeM.seq (CodeM.reg ?_);refine gH ?_
 refine fz ?_;refine gH ?_
 refine fz ?_;refine gXM ?_
 refine ca (dr hlines O.has) fun r1 hm1=>?_
 obtain⟨r1,e1⟩:=r1
 obtain rfl:e1=0:=hm1
 refine gXM ?_
 refine bf ?_;refine gXM ?_
 refine bf ?_ (congrArg Value.bool (by show ltN 4096 n=false;rw[cW];simp;omega));refine gXM ?_
 refine bf ?_ (congrArg Value.bool (by show ltN n 0=false;rw[cW];simp));refine gXM ?_
 refine ca (nQ hsteps O.has) fun r2 hm2=>?_;replace hm2:=Eq.symm hm2;subst hm2
 refine gXM ?_
 obtain⟨rows,hrows⟩:∃ rows,rows=(List.range c.nodes.length).map (dm ends nx):=⟨_,rfl⟩
 have hlen:=oh hord hobs
 rw[<- hrows] at hlen
 refine O.new (ai (l:=[.slice none 0 0]) rfl rfl rfl) fun gn h O=>?_;refine gXM ?_
 refine O.stC 1 (.head _) [ah 1 aY nx] fun h O=>?_;refine gXM ?_
 refine FnV.go hlen O ?_;refine gXM ?_
 refine O.new (ai (l:=[.slice none 0 0]) rfl rfl rfl) fun gc h O=>?_;refine gXM ?_
 refine O.stC 1 (.head _) [ah 1 (ah 1 Value.bool) rows] fun h O=>?_;refine gXM ?_
 refine O.new (ai (l:=[.slice none 0 0]) rfl rfl rfl) fun go h O=>?_;refine gXM ?_
 refine O.new (ai rfl rfl rfl) fun ge h O=>?_;refine gXM ?_
 refine O.stC 1 (.head _) [ss go gc gn ge n] fun h O=>?_;refine gXM ?_
 have O:=(O.bc (.cells (flatC (([]:List (List LnZ)).map aY)) false)).sel [0,2,3,4,1] (by decide)
 refine CodeM.loop (nn:=58) (σ:=Nat×Option Nat) (fun s h=>s.1<=256/\(s.2=none->pA c nx n s.1=[])/\Own vars h0 [(s.2,.cells (flatC ((pA c nx n s.1).map aY)) false),(some go,.cells [aj 1 s.2 ((pA c nx n s.1).map aY)] false),(some gc,.cells [ah 1 (ah 1 Value.bool) rows] false),(some gn,.cells [ah 1 aY nx] false),(some ge,.cells [ss go gc gn ge n] false)] h)
  (fun s=>[(2,FP (ax c)),(10,.pointer (some ⟨go,0,none⟩)),(11,.pointer (some ⟨ge,0,none⟩)),(12,uQ s.1)]) (fun s=>s.1) rfl ⟨(256,none),⟨Nat.le_refl _,fun _=>rj,by rw[rj];exact O⟩,VLe.refl _ _,VLe.refl _ _,VLe.refl _ _,VLe.refl _ _,trivial⟩ ?_
 clear O;rintro⟨k,a⟩ base h ⟨hk,ha,O⟩
 dsimp only at hk ha O
 cases k with
 |zero =>
  conv=>whnf
  refine CodeM.seq (CodeM.seq (CodeM.reg ?_));refine gH ?_
  refine CodeM.cond ⟨false,by exact rfl,(fun e=>nomatch e),fun _=>CodeM.exit ?_⟩;refine gXM ?_
  obtain⟨_,_,cd,_,rfl,rfl⟩:=zH (h:=h) (a:=a) (l:=pA c nx n 0)
  refine⟨_,_,cd,?_⟩;refine gXM ?_
  exact⟨O.ext,fun h2 F=>VLe.tup (LLe.cons (O.mM F (Nat.le_refl _) (.head _) ha (fun _=>rfl)) (LLe.cons (VLe.refl _ _) (LLe.nil _)))⟩
 |succ k =>
  conv=>whnf
  refine CodeM.seq (CodeM.seq (CodeM.reg ?_));refine gH ?_
  refine CodeM.cond ⟨true,congrArg Value.bool (by show (!ltN k 0)=true;rw[cW];simp),fun _=>CodeM.skip ?_,(fun e=>nomatch e)⟩;conv=>whnf
  refine CodeM.seq (CodeM.block (CodeM.seq (CodeM.reg ?_)));refine gH ?_
  refine CodeM.block (CodeM.loop (nn:=58) (σ:=Nat×Option Nat) (fun s h=>s.1<=c.nodes.length/\(s.2=none->lD c nx n k s.1=[])/\Own vars h0 [(s.2,.cells (flatC ((lD c nx n k s.1).map aY)) false),(some go,.cells [aj 1 s.2 ((lD c nx n k s.1).map aY)] false),(some gc,.cells [ah 1 (ah 1 Value.bool) rows] false),(some gn,.cells [ah 1 aY nx] false),(some ge,.cells [ss go gc gn ge n] false)] h)
   (fun s=>[(2,FP (ax c)),(10,.pointer (some ⟨go,0,none⟩)),(11,.pointer (some ⟨ge,0,none⟩)),(12,uQ (k+1)),(40,ah 4 an c.nodes),(41,i64 c.nodes.length),(42,i64 s.1)]) (fun s=>c.nodes.length-s.1) rfl ⟨(0,a),⟨Nat.zero_le _,by rw[sN];exact ha,by rw[sN];exact O⟩,VLe.refl _ _,VLe.refl _ _,VLe.refl _ _,VLe.refl _ _,VLe.refl _ _,VLe.refl _ _,VLe.refl _ _,trivial⟩ ?_)
  clear O ha;rintro⟨j,a⟩ base h ⟨hj,ha,O⟩
  dsimp only at hj ha O
  have hlen:=C.len
  conv=>whnf
  refine CodeM.seq (CodeM.reg ?_);refine gH ?_
  by_cases hlt:j<c.nodes.length
  ·obtain⟨x,hx⟩:∃ x,c.nodes[j]?=some x:=⟨_,List.getElem?_eq_getElem hlt⟩
   refine CodeM.seq (CodeM.cond ⟨true,congrArg Value.bool (by show ltN j c.nodes.length=true;rw[cW];simp;omega),fun _=>CodeM.skip ?_,(fun e=>nomatch e)⟩);conv=>whnf
   refine CodeM.seq (CodeM.block (CodeM.seq (CodeM.reg ?_)));refine gH ?_
   refine atF (W:=fun _=>True) ⟨x,hx,trivial⟩ fun x' hx' _=>?_
   rw[hx] at hx';cases hx'
   refine gH ?_
   (first|refine O.new (ai (l:=[(n8 0),nS,(i64 0),(i64 0)]) rfl rfl rfl) fun g14 h O=>?_|refine O.bF (ai (l:=[(n8 0),nS,(i64 0),(i64 0)]) rfl rfl rfl) fun g14 h O=>?_);refine gH ?_
   refine O.stC 4 (.head _) [(n8 x.kind),((ah 1 i64) x.ins),(i64 x.mem),(i64 x.bit)] fun h O=>?_;refine gH ?_
   refine CodeM.seq (CodeM.reg ?_);refine gH ?_
   refine ldA (l:=[(n8 x.kind),((ah 1 i64) x.ins),(i64 x.mem),(i64 x.bit)]) (O.at (.head _)) ?_;refine gH ?_
   obtain⟨_,_,cd,_,rfl,rfl⟩:=wZ (h:=h) (x:=x)
   refine⟨_,_,cd,?_⟩;refine gH ?_
   have hsb:sn c j=decide (x.kind=0\/x.kind=14):=by unfold sn;rw[dj hx]
   refine CodeM.cond ⟨_,rfl,fun hs=>?_,fun hs=>CodeM.skip ?_⟩
   ·refine CodeM.Ej rfl rfl ?_;refine gH ?_
    refine ldO (O.at (.tail _ (.tail _ (.tail _ (.tail _ (.tail _ (.head _))))))) ?_;refine gH ?_
    refine O.oj (l:=[⟨j,Int.negSucc 0⟩]) (enc:=au) (s:=2) (z:=.agg ⟨[i64 0,z64 0]⟩) rfl rfl (by kernel_rfl) (by kernel_rfl) rfl rfl rfl rfl (fun _=>rfl) fun gp h O=>?_;refine gH ?_
    have hO:=O.xg [_,_,_,_,_,_,_] [0,2,3,4,5,6,1] (by decide)
    refine⟨_,⟨_⟩,_,iM rfl,CallM.Dk (DB C S hE hrows hn hlim k (by omega) gp [⟨j,Int.negSucc 0⟩] [] ⟨j,Int.negSucc 0⟩ a (lD c nx n k j) _ h 0 rfl (by omega) rfl hlt (Ap k j) ha hO) (LLe.cons (O.Ba (enc:=au) (l:=[⟨j,Int.negSucc 0⟩]) (s:=2) (.head _) (fun _=>rfl) rfl (Nat.lt_succ_self 0)) (LLe.refl _ _)),?_⟩
    rintro v h ⟨J',a',ha',O⟩
    rw[Ac (by rw[hsb];exact hs)] at ha' O
    conv=>whnf
    refine CodeM.reg ?_;refine gH ?_
    refine aR (a:=j) (b:=1) (W:=True) ⟨by omega,trivial⟩ fun _=>?_;refine gH ?_
    exact⟨(j+1,a'),by show c.nodes.length-(j+1)<c.nodes.length-j;omega,⟨hlt,ha',O.sel [1,2,3,4,5] (by decide)⟩,VLe.refl _ _,VLe.refl _ _,VLe.refl _ _,VLe.refl _ _,VLe.refl _ _,VLe.refl _ _,VLe.refl _ _,trivial⟩
   ·rw[Cr (by rw[hsb];exact hs)] at ha O
    conv=>whnf
    refine CodeM.reg ?_;refine gH ?_
    refine aR (a:=j) (b:=1) (W:=True) ⟨by omega,trivial⟩ fun _=>?_;refine gH ?_
    exact⟨(j+1,a),by show c.nodes.length-(j+1)<c.nodes.length-j;omega,⟨hlt,ha,O.tail⟩,VLe.refl _ _,VLe.refl _ _,VLe.refl _ _,VLe.refl _ _,VLe.refl _ _,VLe.refl _ _,VLe.refl _ _,trivial⟩
  ·obtain rfl:j=c.nodes.length:=by omega
   rw[BA (by omega)] at ha O
   refine CodeM.seq (CodeM.cond ⟨false,congrArg Value.bool (by show ltN c.nodes.length c.nodes.length=false;rw[cW];simp),(fun e=>nomatch e),fun _=>CodeM.exit ?_⟩);conv=>whnf
   refine CodeM.reg ?_;refine gH ?_
   refine ic (k:=k) rfl rfl (by omega) ?_;refine gH ?_
   exact⟨(k,a),Nat.lt_succ_self k,⟨by show k<=256;omega,ha,O⟩,VLe.refl _ _,VLe.refl _ _,VLe.refl _ _,VLe.refl _ _,trivial⟩
def iU (c:Circ) (m k j:Nat):List LnZ:=if kd c k=14 then [] else ((List.range j).filter fun p=>decide ((insOf c k)[p]?=some m)).map fun p=>⟨k,Int.ofNat p⟩
def stA (c:Circ) (m i:Nat):List LnZ:=(List.range i).flatMap fun k=>iU c m k (insOf c k).length
def fZ (c:Circ):List (List LnZ):=(List.range c.nodes.length).map fun m=>stA c m c.nodes.length
section
variable {c:Circ}
theorem uI (m i:Nat):stA c m (i+1)=stA c m i++iU c m i (insOf c i).length:=by
 unfold stA
 rw[List.range_succ,List.flatMap_append]
 simp
theorem nK (m k:Nat):iU c m k 0=[]:=by unfold iU;split <;> rfl
theorem xQ {m k j:Nat} (h:kd c k=14):iU c m k j=[]:=by unfold iU;rw[if_pos h]
theorem AU {m k j:Nat} (h:kd c k≠14) (hm:(insOf c k)[j]?=some m):iU c m k (j+1)=iU c m k j++[⟨k,Int.ofNat j⟩]:=by
 unfold iU
 rw[if_neg h,if_neg h,List.range_succ,List.filter_append,List.map_append]
 simp[hm]
theorem CO {m k j:Nat} (hm:(insOf c k)[j]?≠some m):iU c m k (j+1)=iU c m k j:=by
 unfold iU
 rw[List.range_succ,List.filter_append,List.map_append]
 simp[hm]
theorem wE (m k j:Nat):(iU c m k j).length<=j:=by
 unfold iU
 split
 ·exact Nat.zero_le _
 ·rw[List.length_map]
  exact Nat.le_trans (List.length_filter_le _ _) (by rw[List.length_range];exact Nat.le_refl _)
theorem mQ {m k j:Nat}{z:LnZ}:z∈iU c m k j↔kd c k≠14/\∃ p,p<j/\(insOf c k)[p]?=some m/\z=⟨k,Int.ofNat p⟩:=by
 unfold iU
 split
 ·rename_i h;simp[h]
 ·rename_i h
  rw[List.mem_map]
  constructor
  ·rintro⟨p,hp,rfl⟩
   obtain⟨h1,h2⟩:=List.mem_filter.1 hp
   exact⟨h,p,List.mem_range.1 h1,of_decide_eq_true h2,rfl⟩
  ·rintro⟨_,p,h1,h2,rfl⟩
   exact⟨p,List.mem_filter.2 ⟨List.mem_range.2 h1,decide_eq_true h2⟩,rfl⟩
theorem xD (m k j:Nat):(iU c m k j).Nodup:=by
 unfold iU
 split
 ·exact List.nodup_nil
 ·refine gu (fun a b e=>?_) (List.nodup_range.filter _)
  simp only[LnZ.mk.injEq] at e
  exact Int.ofNat.inj e.2
theorem sK (C:Cir c) (k:Nat):(insOf c k).length<=16:=by
 by_cases h:k<c.nodes.length
 ·obtain⟨x,hx⟩:=aw h
  rw[oK hx]
  exact (C.good.node k x hx).few
 ·unfold insOf
  rw[List.getD,List.getElem?_eq_none (by rw[List.length_map];omega)]
  exact Nat.zero_le _
theorem ur (C:Cir c) (m:Nat):∀ i,(stA c m i).length<=16*i
 |0=>Nat.zero_le _
 |i+1=>by
  have h1:=ur C m i
  have h2:=wE (c:=c) m i (insOf c i).length
  have h3:=sK C i
  rw[uI,List.length_append]
  omega
theorem qB (C:Cir c):StepsOk c (fZ c):=by
 have get:∀ (m:Nat) (row:List LnZ),(fZ c)[m]?=some row->row=stA c m c.nodes.length:=by
  intro m row h
  unfold fZ at h
  rw[List.getElem?_map] at h
  by_cases hm:m<c.nodes.length
  ·rw[List.getElem?_range hm] at h
   exact (Option.some.inj h).symm
  ·rw[List.getElem?_eq_none (by rw[List.length_range];omega)] at h
   cases h
 refine⟨by simp[fZ],fun m row h=>?_,fun m row h z=>?_⟩
 ·rw[get m row h]
  refine im List.nodup_range (fun k _=>xD _ _ _) fun a _ b _ hne x hx hx2=>?_
  obtain⟨_,p,_,_,rfl⟩:=mQ.1 hx
  obtain⟨_,p',_,_,e⟩:=mQ.1 hx2
  simp only[LnZ.mk.injEq] at e
  exact hne e.1
 ·rw[get m row h]
  unfold stA
  rw[List.mem_flatMap]
  constructor
  ·rintro⟨k,_,hz⟩
   obtain⟨h1,p,_,h3,rfl⟩:=mQ.1 hz
   exact⟨k,p,rfl,h3,h1⟩
  ·rintro⟨k,j,rfl,ld⟩
   obtain⟨x,hx,_⟩:=ld.node C
   exact⟨k,List.mem_range.2 (ak hx),mQ.2 ⟨ld.kind,j,ak ld.pin,ld.pin,rfl⟩⟩
def stS (c:Circ) (i j:Nat):List (List LnZ):=(List.range c.nodes.length).map fun m=>stA c m i++iU c m i j
theorem pS (i j:Nat):(stS c i j).length=c.nodes.length:=by simp[stS]
theorem nq {i j m:Nat} (hm:m<c.nodes.length):(stS c i j)[m]?=some (stA c m i++iU c m i j):=by
 unfold stS
 rw[List.getElem?_map,List.getElem?_range hm];rfl
theorem yD:(List.replicate c.nodes.length ([]:List LnZ))=stS c 0 0:=by
 apply List.ext_getElem?
 intro m
 by_cases h:m<c.nodes.length
 ·rw[nq h,List.getElem?_replicate,if_pos h,nK];rfl
 ·rw[List.getElem?_eq_none (by simp;omega),List.getElem?_eq_none (by rw[pS];omega)]
theorem BC (i:Nat):stS c i (insOf c i).length=stS c (i+1) 0:=by
 unfold stS
 refine List.map_congr_left fun m _=>?_
 rw[uI,nK,List.append_nil]
theorem CH:stS c c.nodes.length 0=fZ c:=by
 unfold stS fZ
 refine List.map_congr_left fun m _=>?_
 rw[nK,List.append_nil]
theorem Ce {i j m:Nat} (hk:kd c i≠14) (hm:(insOf c i)[j]?=some m) (hml:m<c.nodes.length):(stS c i j).set m (stA c m i++iU c m i j++[⟨i,Int.ofNat j⟩])=stS c i (j+1):=by
 apply List.ext_getElem?
 intro q
 rw[List.getElem?_set,pS]
 by_cases e:m=q
 ·subst e
  rw[if_pos rfl,if_pos hml,nq hml,AU hk hm,List.append_assoc]
 ·rw[if_neg e]
  by_cases h:q<c.nodes.length
  ·rw[nq h,nq h,CO (fun e2=>e (Option.some.inj (hm.symm.trans e2)))]
  ·rw[List.getElem?_eq_none (by rw[pS];omega),List.getElem?_eq_none (by rw[pS];omega)]
theorem AY {i j:Nat} (hk:kd c i=14):stS c i j=stS c i (j+1):=by
 unfold stS
 refine List.map_congr_left fun m _=>?_
 rw[xQ hk,xQ hk]
theorem AO (C:Cir c) {K:List (List LnZ)->Prop} (h:K (fZ c)):dA c K:=by
 have hlen:=C.len
 unfold dA
 refine⟨by omega,by omega,?_⟩
 refine aD (fun s=>s.2<=c.nodes.length/\s.1=stS c s.2 0) (fun s=>c.nodes.length-s.2) (fun r=>r=fZ c) ?_ ⟨Nat.zero_le _,yD⟩ ?_
 ·rintro k ⟨v,i⟩ nx ⟨hi,hv⟩ hnx hk
  dsimp only at hi hv
  subst hv
  refine⟨fun q=>?_,fun q=>?_⟩
  ·have q:i<c.nodes.length:=aQ.1 q
   obtain⟨x,hx⟩:=aw q
   have hins:=oK hx
   have hkd:=dj hx
   have hil:=sK C i
   refine eU (fun r=>r=stS c (i+1) 0) (fun k1 hk1=>⟨x,hx,?_⟩) fun r hr=>⟨by omega,hnx (r,i+1) ⟨q,hr⟩ (by dsimp only;omega)⟩
   refine bl (fun s=>s.2<=x.ins.length/\s.1=stS c i s.2) (fun s=>x.ins.length-s.2) ?_ ⟨Nat.zero_le _,rfl⟩
   rintro⟨v,j⟩ nx2 ⟨hj,hv⟩ hnx2
   dsimp only at hj hv
   subst hv
   refine⟨fun q2=>?_,fun q2=>?_⟩
   ·have q2:j<x.ins.length:=aQ.1 q2
    obtain⟨m,hm⟩:=aw q2
    have hml:=(C.good.node i x hx).ins m (List.mem_of_getElem? hm)
    refine eU (fun r=>r=stS c i (j+1)) (fun k2 hk2=>⟨m,hm,fun q3=>?_,fun q3=>?_⟩) fun r hr=>⟨by rw[hins] at hil;omega,hnx2 (r,j+1) ⟨q2,hr⟩ (by dsimp only;omega)⟩
    ·have q3:x.kind≠14:=dV.1 q3
     refine⟨hml,_,nq hml,?_,hml,?_⟩
     ·have h1:=ur C m i
      have h2:=wE (c:=c) m i j
      rw[List.length_append,List.length_singleton]
      rw[hins] at hil
      omega
     ·refine hk2 _ (Ce (by rw[hkd];exact q3) (by rw[hins];exact hm) hml)
    ·have q3:x.kind=14:=pD.1 q3
     exact hk2 _ (AY (by rw[hkd];exact q3))
   ·have q2:x.ins.length<=j:=bk.1 q2
    obtain rfl:j=x.ins.length:=by omega
    refine hk1 _ ?_
    rw[<- BC,hins]
  ·have q:c.nodes.length<=i:=bk.1 q
   obtain rfl:i=c.nodes.length:=by omega
   exact hk _ CH
 ·rintro r rfl
  exact⟨by simp[fZ],h⟩
theorem qD (C:Cir c) {m:Nat}{row:List LnZ} (hrow:(fZ c)[m]?=some row):row.length<2 ^ 62:=by
 have hlen:=C.len
 have S:=qB C
 have hm:m<c.nodes.length:=by
  have:=(List.getElem?_eq_some_iff.1 hrow).1
  rwa [S.len] at this
 have e:row=stA c m c.nodes.length:=by
  unfold fZ at hrow
  rw[List.getElem?_map,List.getElem?_range hm] at hrow
  exact (Option.some.inj hrow).symm
 have:=ur C m c.nodes.length
 rw[e]
 omega
theorem ze (C:Cir c) {o:List Nat} (ho:OrdOk c o):LenOk c.nodes.length o ((List.range c.nodes.length).map (oC c)) (fZ c):=by
 have hlen:=C.len
 have S:=qB C
 have hnd:o.Nodup:=ho.perm.nodup_iff.2 List.nodup_range
 refine⟨by omega,?_,by simp,S.len,fun m hm=>ho.perm.mem_iff.2 (List.mem_range.2 hm),fun m hm=>List.mem_range.1 (ho.perm.mem_iff.1 hm),hnd,fun i m hm row hrow z hz=>?_,fun m row hrow=>?_⟩
 ·have:=ho.perm.length_eq
  rw[List.length_range] at this
  omega
 ·obtain⟨k,j,rfl,ld⟩:=(S.mem m row hrow z).1 hz
  obtain⟨x,hx,hj,hc⟩:=ld.node C
  have hk:k∈o:=ho.perm.mem_iff.2 (List.mem_range.2 (ak hx))
  obtain⟨a,ha⟩:=List.getElem?_of_mem hk
  obtain⟨b,hb,hbm⟩:=ho.before a k x m ha hx (of_decide_eq_true hc) (List.mem_of_getElem? hj)
  have:i=b:=pU ho hm hbm
  exact⟨a,by omega,ha⟩
 ·exact qD C hrow
theorem mC {p0:Circ}{p1:Nat}{K:(List (List LnZ)×Nat)->Prop} (hm:jt p0 p1 K) {h0:Heap} (hB:HasB vars h0):∃ r,K r/\CallD Tryz.prog NG 7 ⟨[ax p0,i64 p1]⟩ h0 ((fun (r:(List (List LnZ)×Nat))=>Value.tuple ⟨[(ah 1 (ah 2 au)) (r.1),i64 (r.2)]⟩) r) h0:=by
 obtain⟨C,hn,hk⟩:=hm
 have S:=qB C
 refine⟨((enA p0 (fZ p0)).take p1,0),hk _ (CR S C p1),?_⟩
 refine ow (ends:=(List.range p0.nodes.length).map (oC p0)) C S (fun m hm=>?_) hn (fun m row hrow=>?_) (mV C rfl) (AO C rfl) (kc C.good fun o ho=>⟨rfl,ze C ho⟩) (kB C fun es hes hob=>?_) hB
 ·rw[List.getD,List.getElem?_map,List.getElem?_range hm];rfl
 ·exact qD C hrow
 ·apply List.ext_getElem?
  intro m
  by_cases h:m<p0.nodes.length
  ·rw[List.getElem?_map,List.getElem?_range h]
   have h1:=hob m
   rw[List.getD,List.getElem?_eq_getElem (by omega:m<es.length)] at h1
   rw[List.getElem?_eq_getElem (by omega:m<es.length)]
   simp only[Option.getD_some,Option.map_some,Option.some.injEq] at h1 ⊢
   rw[Bool.eq_iff_iff,h1,kz]
  ·rw[List.getElem?_eq_none (by omega),List.getElem?_eq_none (by simp;omega)]
end
set_option maxHeartbeats 8000000
def bg (p0:Circ) (p1:Nat) (K:Pat->Prop):Prop :=
 ar (α:=((List Nat)×Nat)) (fun k13=>aB (S:=((List Nat)×Nat×Nat)) (fun (v15,v16,v17) nx19=>((ltN v17 p0.nodes.length)=true->ar (α:=((List Nat)×Nat)) (fun k24=>∃ x25,p0.nodes[v17]?=some x25/\((eqN x25.kind 0)=true->0<64/\(v16%64)<=63/\(v15.length+([(((p1/2 ^ (v16%64))%2 ^ 1)%256)]:(List Nat)).length)*1<=2 ^ 47/\v16+1<2 ^ 64/\k24 ((v15++([(((p1/2 ^ (v16%64))%2 ^ 1)%256)]:(List Nat))),(v16+1)))/\((eqN x25.kind 0)=false->k24 (v15,v16))) (fun (v21,v22)=>v17+1<2 ^ 63/\nx19 (v21,v22,(v17+1))))/\((ltN v17 p0.nodes.length)=false->k13 (v15,v16))) (([]:List Nat),0,0)) (fun (v10,v11)=>ar (α:=(List Nat)) (fun k32=>aB (S:=((List Nat)×Nat×Nat)) (fun (v34,v35,v36) nx39=>((ltN v36 p0.nodes.length)=true->ar (α:=((List Nat)×Nat)) (fun k45=>∃ x46,p0.nodes[v36]?=some x46/\((eqN x46.kind 14)=true->0<64/\(v35%64)<=63/\(v34.length+([(((p1/2 ^ (v35%64))%2 ^ 1)%256)]:(List Nat)).length)*1<=2 ^ 47/\v35+1<2 ^ 64/\k45 ((v34++([(((p1/2 ^ (v35%64))%2 ^ 1)%256)]:(List Nat))),(v35+1)))/\((eqN x46.kind 14)=false->k45 (v34,v35))) (fun (v41,v42)=>v36+1<2 ^ 63/\nx39 (v41,v42,(v36+1))))/\((ltN v36 p0.nodes.length)=false->k32 v34)) (([]:List Nat),v11,0)) (fun v29=>K (⟨v10,v29⟩:Pat)))
theorem eH {p0:Circ}{p1:Nat}{K:Pat->Prop} (hm:bg p0 p1 K) {h0:Heap} (hB:HasB vars h0):∃ r,K r/\CallD Tryz.prog NG 5 ⟨[ax p0,n64 p1]⟩ h0 (dv r) h0:=by
 unfold bg at hm
 refine fw Tryz.func5 hB (enc:=dv) (fun r=>A5 _) fun O=>?_;conv=>whnf
 refine gX ?_
 refine fz ?_;refine gH ?_
 have O:=O.bc (.cells (flatC ((([]:List Nat)).map n8)) false)
 have O:=O.bc (.cells (flatC ((([]:List Nat)).map n8)) false)
 (first|refine O.new (ai (l:=[nS,nS]) rfl rfl rfl) fun g1 h O=>?_|refine O.bF (ai (l:=[nS,nS]) rfl rfl rfl) fun g1 h O=>?_);refine gH ?_
 refine gX ?_
 have O:=O.bc (.cells (flatC ((([]:List Nat)).map n8)) false)
 have O:=O.bc (.cells (flatC ((([]:List Nat)).map n8)) false)
 (first|refine O.new (ai (l:=[nS,nS]) rfl rfl rfl) fun g5 h O=>?_|refine O.bF (ai (l:=[nS,nS]) rfl rfl rfl) fun g5 h O=>?_);refine gH ?_
 apply Cs;conv=>whnf
 apply Cs;refine gH ?_
 refine jn (σ:=((List Nat)×Nat)×Option Nat) hm 64 [1,2,4,5] (fun s=>s.1) (fun ((v10,v11),a9) h=>(a9=none->v10=[])/\Own vars h0 [(sC g1 [(aj 1 none (([]:List Nat).map n8)),(aj 1 none (([]:List Nat).map n8))]),(none,.cells (flatC (([]:List Nat).map n8)) false),(none,.cells (flatC (([]:List Nat).map n8)) false),(sC g5 [(aj 1 a9 (v10.map n8)),(aj 1 none (([]:List Nat).map n8))]),(a9,.cells (flatC (v10.map n8)) false),(none,.cells (flatC (([]:List Nat).map n8)) false)] h) (fun ((v10,v11),a9)=>[(6,(n64 v11))]) (fun hm=>?_) ?_
 ·refine gX ?_
  refine lw 64 [1,2,4,5] (σ:=((List Nat)×Nat×Nat)×Option Nat) (fun s=>s.1) (fun ((v15,v16,v17),a14) h=>(a14=none->v15=[])/\Own vars h0 [(sC g1 [(aj 1 none (([]:List Nat).map n8)),(aj 1 none (([]:List Nat).map n8))]),(none,.cells (flatC (([]:List Nat).map n8)) false),(none,.cells (flatC (([]:List Nat).map n8)) false),(sC g5 [(aj 1 a14 (v15.map n8)),(aj 1 none (([]:List Nat).map n8))]),(a14,.cells (flatC (v15.map n8)) false),(none,.cells (flatC (([]:List Nat).map n8)) false)] h) (fun ((v15,v16,v17),a14)=>[(6,(n64 v16)),(7,(i64 v17))]) ((([]:List Nat),0,0),none) hm ⟨(fun _=>rfl),(O.sel [3,5,4,0,2,1] (by decide))⟩ ?_
  clear hm;rintro⟨⟨v15,v16,v17⟩,a14⟩ nx19 base h hm ⟨ha18,O⟩
  refine gX ?_
  refine br hm (fun hm=>?_) fun hm=>?_
  ·apply Cs;conv=>whnf
   refine jn (σ:=((List Nat)×Nat)×Option Nat) hm 64 [1,2,4,5,7] (fun s=>s.1) (fun ((v21,v22),a20) h=>(a20=none->v21=[])/\Own vars h0 [(sC g1 [(aj 1 none (([]:List Nat).map n8)),(aj 1 none (([]:List Nat).map n8))]),(none,.cells (flatC (([]:List Nat).map n8)) false),(none,.cells (flatC (([]:List Nat).map n8)) false),(sC g5 [(aj 1 a20 (v21.map n8)),(aj 1 none (([]:List Nat).map n8))]),(a20,.cells (flatC (v21.map n8)) false),(none,.cells (flatC (([]:List Nat).map n8)) false)] h) (fun ((v21,v22),a20)=>[(6,(n64 v22))]) (fun hm=>?_) ?_
   ·refine gX ?_
    refine atF hm fun x25 hx25 hm=>?_;refine gX ?_
    refine br hm (fun hm=>?_) fun hm=>?_
    ·refine gX ?_
     refine ldO (O.at (.tail _ (.tail _ (.tail _ (.head _))))) ?_;refine gH ?_
     refine pE hm fun hm=>?_;refine gH ?_
     refine xw hm fun hm=>?_;refine gH ?_
     refine Bj 1 1 ?_;refine gH ?_
     refine aCw ?_;refine gH ?_
     refine fz ?_;refine gH ?_
     refine O.apL (enc:=n8) (l:=v15) (new:=([(((p1/2 ^ (v16%64))%2 ^ 1)%256)]:(List Nat))) 1 (.tail _ (.tail _ (.tail _ (.tail _ (.head _))))) ha18 hm fun a26 h ha27 O hm=>?_;refine gH ?_
     refine O.stC 1 (.tail _ (.tail _ (.tail _ (.head _)))) [(aj 1 a26 ((v15++([(((p1/2 ^ (v16%64))%2 ^ 1)%256)]:(List Nat))).map n8)),(aj 1 none (([]:List Nat).map n8))] fun h O=>?_;refine gX ?_
     refine⟨_,xF (a:=v16) (b:=1) rfl rfl hm.1,?_⟩;refine gH ?_
     replace hm:=hm.2
     exact jx (((v15++([(((p1/2 ^ (v16%64))%2 ^ 1)%256)]:(List Nat))),(v16+1)),a26) hm ⟨ha27,O⟩
    ·refine gX ?_
     exact jx ((v15,v16),a14) hm ⟨ha18,O⟩
   ·clear hm;rintro⟨⟨v21,v22⟩,a20⟩ base h hm ⟨ha23,O⟩
    refine gX ?_
    refine aR hm fun hm=>?_;refine gH ?_
    exact jx ((v21,v22,(v17+1)),a20) hm ⟨ha23,O⟩
  ·refine gX ?_
   exact jx ((v15,v16),a14) hm ⟨ha18,O⟩
 ·clear hm;rintro⟨⟨v10,v11⟩,a9⟩ base h hm ⟨ha12,O⟩
  conv=>whnf
  refine jn (σ:=(List Nat)×Option Nat) hm 64 [4,5] (fun s=>s.1) (fun (v29,a28) h=>(a9=none->v10=[])/\(a28=none->v29=[])/\Own vars h0 [(sC g1 [(aj 1 none (([]:List Nat).map n8)),(aj 1 none (([]:List Nat).map n8))]),(none,.cells (flatC (([]:List Nat).map n8)) false),(none,.cells (flatC (([]:List Nat).map n8)) false),(sC g5 [(aj 1 a9 (v10.map n8)),(aj 1 a28 (v29.map n8))]),(a9,.cells (flatC (v10.map n8)) false),(a28,.cells (flatC (v29.map n8)) false)] h) (fun (v29,a28)=>[]) (fun hm=>?_) ?_
  ·refine gX ?_
   refine lw 64 [1,2,4,5] (σ:=((List Nat)×Nat×Nat)×Option Nat) (fun s=>s.1) (fun ((v34,v35,v36),a33) h=>(a9=none->v10=[])/\(a33=none->v34=[])/\Own vars h0 [(sC g1 [(aj 1 none (([]:List Nat).map n8)),(aj 1 none (([]:List Nat).map n8))]),(none,.cells (flatC (([]:List Nat).map n8)) false),(none,.cells (flatC (([]:List Nat).map n8)) false),(sC g5 [(aj 1 a9 (v10.map n8)),(aj 1 a33 (v34.map n8))]),(a9,.cells (flatC (v10.map n8)) false),(a33,.cells (flatC (v34.map n8)) false)] h) (fun ((v34,v35,v36),a33)=>[(6,(n64 v35)),(8,(i64 v36))]) ((([]:List Nat),v11,0),none) hm ⟨ha12,(fun _=>rfl),O⟩ ?_
   clear hm;rintro⟨⟨v34,v35,v36⟩,a33⟩ nx39 base h hm ⟨ha37,ha38,O⟩
   refine gX ?_
   refine br hm (fun hm=>?_) fun hm=>?_
   ·apply Cs;conv=>whnf
    refine jn (σ:=((List Nat)×Nat)×Option Nat) hm 64 [1,2,4,5,8] (fun s=>s.1) (fun ((v41,v42),a40) h=>(a9=none->v10=[])/\(a40=none->v41=[])/\Own vars h0 [(sC g1 [(aj 1 none (([]:List Nat).map n8)),(aj 1 none (([]:List Nat).map n8))]),(none,.cells (flatC (([]:List Nat).map n8)) false),(none,.cells (flatC (([]:List Nat).map n8)) false),(sC g5 [(aj 1 a9 (v10.map n8)),(aj 1 a40 (v41.map n8))]),(a9,.cells (flatC (v10.map n8)) false),(a40,.cells (flatC (v41.map n8)) false)] h) (fun ((v41,v42),a40)=>[(6,(n64 v42))]) (fun hm=>?_) ?_
    ·refine gX ?_
     refine atF hm fun x46 hx46 hm=>?_;refine gX ?_
     refine br hm (fun hm=>?_) fun hm=>?_
     ·refine gX ?_
      refine ldO (O.at (.tail _ (.tail _ (.tail _ (.head _))))) ?_;refine gH ?_
      refine pE hm fun hm=>?_;refine gH ?_
      refine xw hm fun hm=>?_;refine gH ?_
      refine Bj 1 1 ?_;refine gH ?_
      refine aCw ?_;refine gH ?_
      refine fz ?_;refine gH ?_
      refine O.apL (enc:=n8) (l:=v34) (new:=([(((p1/2 ^ (v35%64))%2 ^ 1)%256)]:(List Nat))) 1 (.tail _ (.tail _ (.tail _ (.tail _ (.tail _ (.head _)))))) ha38 hm fun a47 h ha48 O hm=>?_;refine gH ?_
      refine O.stC 1 (.tail _ (.tail _ (.tail _ (.head _)))) [(aj 1 a9 (v10.map n8)),(aj 1 a47 ((v34++([(((p1/2 ^ (v35%64))%2 ^ 1)%256)]:(List Nat))).map n8))] fun h O=>?_;refine gX ?_
      refine⟨_,xF (a:=v35) (b:=1) rfl rfl hm.1,?_⟩;refine gH ?_
      replace hm:=hm.2
      exact jx (((v34++([(((p1/2 ^ (v35%64))%2 ^ 1)%256)]:(List Nat))),(v35+1)),a47) hm ⟨ha37,ha48,O⟩
     ·refine gX ?_
      exact jx ((v34,v35),a33) hm ⟨ha37,ha38,O⟩
    ·clear hm;rintro⟨⟨v41,v42⟩,a40⟩ base h hm ⟨ha43,ha44,O⟩
     refine gX ?_
     refine aR hm fun hm=>?_;refine gH ?_
     exact jx ((v41,v42,(v36+1)),a40) hm ⟨ha43,ha44,O⟩
   ·refine gX ?_
    exact jx (v34,a33) hm ⟨ha37,ha38,O⟩
  ·clear hm;rintro⟨v29,a28⟩ base h hm ⟨ha30,ha31,O⟩
   refine gX ?_
   refine ldA (O.at (.tail _ (.tail _ (.tail _ (.head _))))) ?_;refine gH ?_
   refine O.stC 2 (.head _) [(aj 1 a9 (v10.map n8)),(aj 1 a28 (v29.map n8))] fun h O=>?_;refine gX ?_
   refine⟨_,aL rfl rfl (O.at (.head _)) rfl rfl (lbE rfl) rfl,?_⟩;conv=>whnf
   exact⟨(⟨v10,v29⟩:Pat),hm,O.ext,fun h2 F=>VLe.agg (LLe.cons (O.iA F (Nat.le_refl _) (.tail _ (.tail _ (.tail _ (.tail _ (.head _))))) ha30 (fun _=>rfl)) (LLe.cons (O.iA F (Nat.le_refl _) (.tail _ (.tail _ (.tail _ (.tail _ (.tail _ (.head _)))))) ha31 (fun _=>rfl)) (LLe.nil _)))⟩
def bY (p0:CData) (p1:Nat) (K:Bool->Prop):Prop :=
 cf p0 (fun r1=>bg r1 p1 (fun r4=>32<=63/\bg r1 (p1/2 ^ 32) (fun r5=>dN r1 (fun r8=>jt r1 300 (fun r9=>cq r1 r5 (fun r10=>ar (α:=Bool) (fun k14=>((neN r8.2 0)=true->k14 true)/\((neN r8.2 0)=false->((neN r9.2 0)=true->k14 true)/\((neN r9.2 0)=false->((neN r10.2.2 0)=true->k14 true)/\((neN r10.2.2 0)=false->k14 (neN r10.2.1.length r1.nodes.length))))) (fun v13=>(v13=true->K false)/\(v13=false->((ltN 300 r8.1)=true->aX  (fun r15=>K r15))/\((ltN 300 r8.1)=false->ar (α:=(List (Nat×Nat))) (fun k19=>aB (S:=((List (Nat×Nat))×Nat)) (fun (v20,v21) nx22=>((ltN v21 r9.1.length)=true->∃ x23,r9.1[v21]?=some x23/\((eqN x23.length 0)=true->K false)/\((eqN x23.length 0)=false->∃ x24,r9.1[v21]?=some x24/\∃ x25,x24[0]?=some x25/\((gY v20 x25.node).getD 0)+1<2 ^ 63/\v21+1<2 ^ 63/\nx22 ((kM v20 x25.node (((gY v20 x25.node).getD 0)+1)),(v21+1))))/\((ltN v21 r9.1.length)=false->k19 v20)) (([]:List (Nat×Nat)),0)) (fun v18=>ar (α:=Unit) (fun k26=>aB (S:=Nat) (fun v27 nx28=>((ltN v27 r9.1.length)=true->ar (α:=Unit) (fun k29=>∃ x30,r9.1[v27]?=some x30/\∃ x31,x30[0]?=some x31/\∃ x34,r9.1[v27]?=some x34/\dP r1 x34 (⟨r4,r5⟩:PairT) (fun r35=>ar (α:=Bool) (fun k37=>((neN r35.2 0)=true->k37 true)/\((neN r35.2 0)=false->((ltN x31.node 0)=true->k37 true)/\((ltN x31.node 0)=false->k37 (!ltN x31.node r10.2.1.length)))) (fun v36=>(v36=true->K false)/\(v36=false->ar (α:=Bool) (fun k39=>((eqN r35.1 0)=true->k39 true)/\((eqN r35.1 0)=false->k39 (neN ((gY v18 x31.node).getD 0) 1))) (fun v38=>(v38=true->k29 ())/\(v38=false->∃ x40,r10.2.1[x31.node]?=some x40/\bd r1 (⟨1,x31,x40,0⟩:Flt) (⟨r4,r5⟩:PairT) (fun r41=>bz x40 (fun r42=>bd r1 (⟨1,x31,r42,0⟩:Flt) (⟨r4,r5⟩:PairT) (fun r43=>ar (α:=Bool) (fun k45=>((neN r41.2 0)=true->k45 true)/\((neN r41.2 0)=false->((neN r43.2 0)=true->k45 true)/\((neN r43.2 0)=false->((!r41.1)=true->k45 true)/\((!r41.1)=false->k45 r43.1)))) (fun v44=>(v44=true->K false)/\(v44=false->k29 ()))))))))))) (fun _=>v27+1<2 ^ 63/\nx28 (v27+1)))/\((ltN v27 r9.1.length)=false->k26 ())) 0) (fun _=>aX  (fun r46=>K r46))))))))))))
theorem iF {p0:CData}{p1:Nat}{K:Bool->Prop} (hm:bY p0 p1 K) {h0:Heap} (hB:HasB vars h0):∃ r,K r/\CallD Tryz.prog NG 3 ⟨[tM p0,n64 p1]⟩ h0 (Value.bool r) h0:=by
 unfold bY at hm
 refine fw Tryz.func3 hB (enc:=Value.bool) (fun r=>PureV.flat rfl) fun O=>?_;conv=>whnf
 refine gX ?_
 refine fz ?_;refine gX ?_
 refine ca (iD hm O.has) fun r1 hm=>?_;refine gH ?_
 (first|refine O.new (ai (l:=[nS,nS,nS,nS]) rfl rfl rfl) fun g2 h O=>?_|refine O.bF (ai (l:=[nS,nS,nS,nS]) rfl rfl rfl) fun g2 h O=>?_);refine gH ?_
 refine O.stC 4 (.head _) [((ah 4 an) r1.nodes),((ah 1 Value.string) r1.names),((ah 3 ay) r1.mems),((ah 1 i64) r1.outs)] fun h O=>?_;refine gX ?_
 refine ldA (O.at (.head _)) ?_;refine gH ?_
 first|refine⟨.inr (.inr (bj rfl (O.at (.head _)) rfl rfl (lbE rfl) rfl)),?_⟩|refine⟨.inr (.inl (by kernel_rfl)),?_⟩
 refine gX ?_
 refine ca (eH hm O.has) fun r4 hm=>?_;refine gH ?_
 (first|refine⟨.inr (.inr (ae rfl (O.at (.head _)) rfl rfl)),?_⟩|refine⟨.inr (.inr (ae rfl (O.at (.tail _ (.head _))) rfl rfl)),?_⟩|refine⟨.inr (.inr (ae rfl (O.at (.tail _ (.tail _ (.head _)))) rfl rfl)),?_⟩|refine⟨.inr (.inr (ae rfl (O.at (.tail _ (.tail _ (.tail _ (.head _))))) rfl rfl)),?_⟩|refine⟨.inr (.inr (ae rfl (O.at (.tail _ (.tail _ (.tail _ (.tail _ (.head _)))))) rfl rfl)),?_⟩|refine⟨.inr (.inr (ae rfl (O.at (.tail _ (.tail _ (.tail _ (.tail _ (.tail _ (.head _))))))) rfl rfl)),?_⟩|refine⟨.inr (.inr (ae rfl (O.at (.tail _ (.tail _ (.tail _ (.tail _ (.tail _ (.tail _ (.head _)))))))) rfl rfl)),?_⟩|refine⟨.inl (Ext.refl _),?_⟩|refine⟨.inr (.inr rfl),?_⟩|refine⟨.inr (by kernel_rfl),?_⟩|refine⟨.inl (by kernel_rfl),?_⟩|refine id ?_);refine gH ?_
 refine ldA (O.at (.head _)) ?_;refine gH ?_
 first|refine⟨.inr (.inr (bj rfl (O.at (.head _)) rfl rfl (lbE rfl) rfl)),?_⟩|refine⟨.inr (.inl (by kernel_rfl)),?_⟩
 refine gX ?_
 refine xw hm fun hm=>?_;refine gH ?_
 refine ca (eH hm O.has) fun r5 hm=>?_;refine gH ?_
 (first|refine⟨.inr (.inr (ae rfl (O.at (.head _)) rfl rfl)),?_⟩|refine⟨.inr (.inr (ae rfl (O.at (.tail _ (.head _))) rfl rfl)),?_⟩|refine⟨.inr (.inr (ae rfl (O.at (.tail _ (.tail _ (.head _)))) rfl rfl)),?_⟩|refine⟨.inr (.inr (ae rfl (O.at (.tail _ (.tail _ (.tail _ (.head _))))) rfl rfl)),?_⟩|refine⟨.inr (.inr (ae rfl (O.at (.tail _ (.tail _ (.tail _ (.tail _ (.head _)))))) rfl rfl)),?_⟩|refine⟨.inr (.inr (ae rfl (O.at (.tail _ (.tail _ (.tail _ (.tail _ (.tail _ (.head _))))))) rfl rfl)),?_⟩|refine⟨.inr (.inr (ae rfl (O.at (.tail _ (.tail _ (.tail _ (.tail _ (.tail _ (.tail _ (.head _)))))))) rfl rfl)),?_⟩|refine⟨.inl (Ext.refl _),?_⟩|refine⟨.inr (.inr rfl),?_⟩|refine⟨.inr (by kernel_rfl),?_⟩|refine⟨.inl (by kernel_rfl),?_⟩|refine id ?_);refine gH ?_
 (first|refine O.new (ai (l:=[nS,nS,nS,nS]) rfl rfl rfl) fun g6 h O=>?_|refine O.bF (ai (l:=[nS,nS,nS,nS]) rfl rfl rfl) fun g6 h O=>?_);refine gH ?_
 refine O.stC 4 (.head _) [((ah 1 n8) r4.inp),((ah 1 n8) r4.state),((ah 1 n8) r5.inp),((ah 1 n8) r5.state)] fun h O=>?_;refine gH ?_
 (first|refine⟨.inr (.inr (ae rfl (O.at (.head _)) rfl rfl)),?_⟩|refine⟨.inr (.inr (ae rfl (O.at (.tail _ (.head _))) rfl rfl)),?_⟩|refine⟨.inr (.inr (ae rfl (O.at (.tail _ (.tail _ (.head _)))) rfl rfl)),?_⟩|refine⟨.inr (.inr (ae rfl (O.at (.tail _ (.tail _ (.tail _ (.head _))))) rfl rfl)),?_⟩|refine⟨.inr (.inr (ae rfl (O.at (.tail _ (.tail _ (.tail _ (.tail _ (.head _)))))) rfl rfl)),?_⟩|refine⟨.inr (.inr (ae rfl (O.at (.tail _ (.tail _ (.tail _ (.tail _ (.tail _ (.head _))))))) rfl rfl)),?_⟩|refine⟨.inr (.inr (ae rfl (O.at (.tail _ (.tail _ (.tail _ (.tail _ (.tail _ (.tail _ (.head _)))))))) rfl rfl)),?_⟩|refine⟨.inl (Ext.refl _),?_⟩|refine⟨.inr (.inr rfl),?_⟩|refine⟨.inr (by kernel_rfl),?_⟩|refine⟨.inl (by kernel_rfl),?_⟩|refine id ?_);refine gH ?_
 refine gX ?_
 refine ldA (O.at (.tail _ (.head _))) ?_;refine gH ?_
 refine ca (nX hm O.has) fun r8 hm=>?_;refine gX ?_
 refine ldA (O.at (.tail _ (.head _))) ?_;refine gH ?_
 refine ca (mC hm O.has) fun r9 hm=>?_;refine gX ?_
 refine ldA (O.at (.tail _ (.head _))) ?_;refine gH ?_
 refine ldA (O.at (.head _)) ?_;refine gH ?_
 refine ca (eF hm O.has) fun r10 hm=>?_;refine gH ?_
 (first|refine O.new (ai (l:=[nS,nS]) rfl rfl rfl) fun g11 h O=>?_|refine O.bF (ai (l:=[nS,nS]) rfl rfl rfl) fun g11 h O=>?_);refine gH ?_
 refine O.stC 2 (.head _) [((ah 1 n8) r10.1.out),((ah 1 n8) r10.1.next)] fun h O=>?_;refine gH ?_
 apply Cs;conv=>whnf
 refine jn hm 180 [5,6,7,9,12] (fun s=>s) (fun v13 h=>Own vars h0 [(sC g2 [((ah 4 an) r1.nodes),((ah 1 Value.string) r1.names),((ah 3 ay) r1.mems),((ah 1 i64) r1.outs)]),(sC g6 [((ah 1 n8) r4.inp),((ah 1 n8) r4.state),((ah 1 n8) r5.inp),((ah 1 n8) r5.state)])] h) (fun v13=>[(70,(.bool v13))]) (fun hm=>?_) ?_
 ·refine gX ?_
  refine br hm (fun hm=>?_) fun hm=>?_
  ·refine gX ?_
   refine bt ?_;refine gH ?_
   refine bt ?_;refine gH ?_
   exact jx true hm (O.sel [2,1] (by decide))
  ·refine gX ?_
   refine br hm (fun hm=>?_) fun hm=>?_
   ·refine gX ?_
    refine bt ?_;refine gH ?_
    exact jx true hm (O.sel [2,1] (by decide))
   ·refine gX ?_
    refine br hm (fun hm=>?_) fun hm=>?_
    ·refine gX ?_
     exact jx true hm (O.sel [2,1] (by decide))
    ·refine gX ?_
     exact jx (neN r10.2.1.length r1.nodes.length) hm (O.sel [2,1] (by decide))
 ·clear hm;rintro v13 base h hm O
  refine gX ?_
  refine br hm (fun hm=>?_) fun hm=>?_
  ·refine gX ?_
   exact fe hm O
  ·refine gX ?_
   refine br hm (fun hm=>?_) fun hm=>?_
   ·refine gX ?_
    refine ca (eV hm O.has) fun r15 hm=>?_;refine gX ?_
    exact fe hm O
   ·refine gX ?_
    (first|refine O.new ((rfl:anew _ _ _=some (.map (hH i64 i64 ([]:List (Nat×Nat))),fun g=>.map (some g)))) fun g16 h O=>?_|refine O.bF ((rfl:anew _ _ _=some (.map (hH i64 i64 ([]:List (Nat×Nat))),fun g=>.map (some g)))) fun g16 h O=>?_);refine gH ?_
    refine jn hm 180 [5,6,9,12,14] (fun s=>s) (fun v18 h=>Own vars h0 [(sC g2 [((ah 4 an) r1.nodes),((ah 1 Value.string) r1.names),((ah 3 ay) r1.mems),((ah 1 i64) r1.outs)]),(sC g6 [((ah 1 n8) r4.inp),((ah 1 n8) r4.state),((ah 1 n8) r5.inp),((ah 1 n8) r5.state)]),((some g16),.map (hH i64 i64 v18))] h) (fun v18=>[]) (fun hm=>?_) ?_
    ·refine gX ?_
     refine lw 180 [5,6,9,12,14] (σ:=((List (Nat×Nat))×Nat)) (fun s=>s) (fun (v20,v21) h=>Own vars h0 [(sC g2 [((ah 4 an) r1.nodes),((ah 1 Value.string) r1.names),((ah 3 ay) r1.mems),((ah 1 i64) r1.outs)]),(sC g6 [((ah 1 n8) r4.inp),((ah 1 n8) r4.state),((ah 1 n8) r5.inp),((ah 1 n8) r5.state)]),((some g16),.map (hH i64 i64 v20))] h) (fun (v20,v21)=>[(15,(i64 v21))]) (([]:List (Nat×Nat)),0) hm (O.sel [1,2,0] (by decide)) ?_
     clear hm;rintro⟨v20,v21⟩ nx22 base h hm O
     refine gX ?_
     refine br hm (fun hm=>?_) fun hm=>?_
     ·refine gX ?_
      refine atF hm fun x23 hx23 hm=>?_;refine gX ?_
      refine br hm (fun hm=>?_) fun hm=>?_
      ·refine gX ?_
       exact fe hm O
      ·refine gX ?_
       refine atF hm fun x24 hx24 hm=>?_;refine gH ?_
       refine atF hm fun x25 hx25 hm=>?_;refine gH ?_
       refine⟨_,tE (ek:=i64) (ev:=i64) (m:=v20) (k:=x25.node) (z:=0) rfl rfl rfl rfl (by kernel_rfl) uz (O.at (.tail _ (.tail _ (.head _)))) rfl rfl,?_⟩;refine gH ?_
       refine aR hm fun hm=>?_;refine gH ?_
       refine O.AW (ek:=i64) (ev:=i64) (m:=v20) (k:=x25.node) (v:=(((gY v20 x25.node).getD 0)+1)) (.tail _ (.tail _ (.head _))) rfl rfl rfl uz rfl rfl rfl fun h O=>?_;refine gX ?_
       refine aR hm fun hm=>?_;refine gH ?_
       exact jx ((kM v20 x25.node (((gY v20 x25.node).getD 0)+1)),(v21+1)) hm O
     ·refine gX ?_
      exact jx v20 hm O
    ·clear hm;rintro v18 base h hm O
     conv=>whnf
     refine jn hm 180 [] (fun s=>s) (fun _ h=>Own vars h0 [] h) (fun _=>[]) (fun hm=>?_) ?_
     ·refine gX ?_
      refine lw 180 [5,6,9,12,14] (σ:=Nat) (fun s=>s) (fun v27 h=>Own vars h0 [(sC g2 [((ah 4 an) r1.nodes),((ah 1 Value.string) r1.names),((ah 3 ay) r1.mems),((ah 1 i64) r1.outs)]),(sC g6 [((ah 1 n8) r4.inp),((ah 1 n8) r4.state),((ah 1 n8) r5.inp),((ah 1 n8) r5.state)]),((some g16),.map (hH i64 i64 v18))] h) (fun v27=>[(16,(i64 v27))]) 0 hm O ?_
      clear hm;rintro v27 nx28 base h hm O
      refine gX ?_
      refine br hm (fun hm=>?_) fun hm=>?_
      ·apply Cs;conv=>whnf
       refine jn hm 180 [5,6,9,12,14,16] (fun s=>s) (fun _ h=>Own vars h0 [(sC g2 [((ah 4 an) r1.nodes),((ah 1 Value.string) r1.names),((ah 3 ay) r1.mems),((ah 1 i64) r1.outs)]),(sC g6 [((ah 1 n8) r4.inp),((ah 1 n8) r4.state),((ah 1 n8) r5.inp),((ah 1 n8) r5.state)]),((some g16),.map (hH i64 i64 v18))] h) (fun _=>[]) (fun hm=>?_) ?_
       ·refine gX ?_
        refine atF hm fun x30 hx30 hm=>?_;refine gH ?_
        refine atF hm fun x31 hx31 hm=>?_;refine gH ?_
        (first|refine O.new (ai (l:=[(i64 0),(z64 0)]) rfl rfl rfl) fun g32 h O=>?_|refine O.bF (ai (l:=[(i64 0),(z64 0)]) rfl rfl rfl) fun g32 h O=>?_);refine gH ?_
        refine O.stC 2 (.head _) [(i64 x31.node),(z64 x31.pin)] fun h O=>?_;refine gX ?_
        refine ldA (O.at (.tail _ (.head _))) ?_;refine gH ?_
        first|refine⟨.inr (.inr (bj rfl (O.at (.tail _ (.head _))) rfl rfl (lbE rfl) rfl)),?_⟩|refine⟨.inr (.inl (by kernel_rfl)),?_⟩
        refine gX ?_
        refine atF hm fun x34 hx34 hm=>?_;refine gH ?_
        refine dF ?_
        refine gX ?_
        refine ldA (O.at (.tail _ (.tail _ (.head _)))) ?_;refine gH ?_
        first|refine⟨.inr (.inr (bj rfl (O.at (.tail _ (.tail _ (.head _)))) rfl rfl (lbE rfl) rfl)),?_⟩|refine⟨.inr (.inl (by kernel_rfl)),?_⟩
        refine gX ?_
        refine ca (oz hm O.has) fun r35 hm=>?_;refine gH ?_
        (first|refine⟨.inr (.inr (ae rfl (O.at (.head _)) rfl rfl)),?_⟩|refine⟨.inr (.inr (ae rfl (O.at (.tail _ (.head _))) rfl rfl)),?_⟩|refine⟨.inr (.inr (ae rfl (O.at (.tail _ (.tail _ (.head _)))) rfl rfl)),?_⟩|refine⟨.inr (.inr (ae rfl (O.at (.tail _ (.tail _ (.tail _ (.head _))))) rfl rfl)),?_⟩|refine⟨.inr (.inr (ae rfl (O.at (.tail _ (.tail _ (.tail _ (.tail _ (.head _)))))) rfl rfl)),?_⟩|refine⟨.inr (.inr (ae rfl (O.at (.tail _ (.tail _ (.tail _ (.tail _ (.tail _ (.head _))))))) rfl rfl)),?_⟩|refine⟨.inr (.inr (ae rfl (O.at (.tail _ (.tail _ (.tail _ (.tail _ (.tail _ (.tail _ (.head _)))))))) rfl rfl)),?_⟩|refine⟨.inl (Ext.refl _),?_⟩|refine⟨.inr (.inr rfl),?_⟩|refine⟨.inr (by kernel_rfl),?_⟩|refine⟨.inl (by kernel_rfl),?_⟩|refine id ?_);refine gH ?_
        apply Cs;conv=>whnf
        refine jn hm 180 [5,6,9,12,14,16,17,18] (fun s=>s) (fun v36 h=>Own vars h0 [(sC g2 [((ah 4 an) r1.nodes),((ah 1 Value.string) r1.names),((ah 3 ay) r1.mems),((ah 1 i64) r1.outs)]),(sC g6 [((ah 1 n8) r4.inp),((ah 1 n8) r4.state),((ah 1 n8) r5.inp),((ah 1 n8) r5.state)]),((some g16),.map (hH i64 i64 v18)),(sC g32 [(i64 x31.node),(z64 x31.pin)])] h) (fun v36=>[(132,(.bool v36))]) (fun hm=>?_) ?_
        ·refine gX ?_
         refine br hm (fun hm=>?_) fun hm=>?_
         ·refine gX ?_
          refine bt ?_;refine gH ?_
          exact jx true hm (O.sel [1,2,3,0] (by decide))
         ·refine gX ?_
          refine br hm (fun hm=>?_) fun hm=>?_
          ·refine gX ?_
           exact jx true hm (O.sel [1,2,3,0] (by decide))
          ·refine gX ?_
           exact jx (!ltN x31.node r10.2.1.length) hm (O.sel [1,2,3,0] (by decide))
        ·clear hm;rintro v36 base h hm O
         refine gX ?_
         refine br hm (fun hm=>?_) fun hm=>?_
         ·refine gX ?_
          exact fe hm O
         ·apply Cs;conv=>whnf
          apply Cs;conv=>whnf
          refine jn hm 180 [5,6,9,12,14,16,17] (fun s=>s) (fun v38 h=>Own vars h0 [(sC g2 [((ah 4 an) r1.nodes),((ah 1 Value.string) r1.names),((ah 3 ay) r1.mems),((ah 1 i64) r1.outs)]),(sC g6 [((ah 1 n8) r4.inp),((ah 1 n8) r4.state),((ah 1 n8) r5.inp),((ah 1 n8) r5.state)]),((some g16),.map (hH i64 i64 v18)),(sC g32 [(i64 x31.node),(z64 x31.pin)])] h) (fun v38=>[(141,(.bool v38))]) (fun hm=>?_) ?_
          ·refine gX ?_
           refine br hm (fun hm=>?_) fun hm=>?_
           ·refine gX ?_
            exact jx true hm O
           ·refine gX ?_
            refine ldO (O.at (.tail _ (.tail _ (.tail _ (.head _))))) ?_;refine gH ?_
            refine⟨_,tE (ek:=i64) (ev:=i64) (m:=v18) (k:=x31.node) (z:=0) rfl rfl rfl rfl (by kernel_rfl) uz (O.at (.tail _ (.tail _ (.head _)))) rfl rfl,?_⟩;refine gH ?_
            exact jx (neN ((gY v18 x31.node).getD 0) 1) hm O
          ·clear hm;rintro v38 base h hm O
           refine gX ?_
           refine br hm (fun hm=>?_) fun hm=>?_
           ·refine gX ?_
            exact jx () hm (O.sel [0,1,2] (by decide))
           ·refine gX ?_
            refine ldO (O.at (.tail _ (.tail _ (.tail _ (.head _))))) ?_;refine gH ?_
            refine atF hm fun x40 hx40 hm=>?_;refine gX ?_
            refine ldA (O.at (.head _)) ?_;refine gH ?_
            refine ldA (O.at (.tail _ (.tail _ (.tail _ (.head _))))) ?_;refine gH ?_
            refine ldA (O.at (.tail _ (.head _))) ?_;refine gH ?_
            refine ca (ew hm O.has) fun r41 hm=>?_;refine gX ?_
            refine ldA (O.at (.head _)) ?_;refine gH ?_
            first|refine⟨.inr (.inr (bj rfl (O.at (.head _)) rfl rfl (lbE rfl) rfl)),?_⟩|refine⟨.inr (.inl (by kernel_rfl)),?_⟩
            refine gX ?_
            refine ldA (O.at (.tail _ (.tail _ (.tail _ (.head _))))) ?_;refine gH ?_
            first|refine⟨.inr (.inr (bj rfl (O.at (.tail _ (.tail _ (.tail _ (.head _))))) rfl rfl (lbE rfl) rfl)),?_⟩|refine⟨.inr (.inl (by kernel_rfl)),?_⟩
            refine gX ?_
            refine ca (bT hm O.has) fun r42 hm=>?_;refine gH ?_
            (first|refine⟨.inr (.inr (ae rfl (O.at (.head _)) rfl rfl)),?_⟩|refine⟨.inr (.inr (ae rfl (O.at (.tail _ (.head _))) rfl rfl)),?_⟩|refine⟨.inr (.inr (ae rfl (O.at (.tail _ (.tail _ (.head _)))) rfl rfl)),?_⟩|refine⟨.inr (.inr (ae rfl (O.at (.tail _ (.tail _ (.tail _ (.head _))))) rfl rfl)),?_⟩|refine⟨.inr (.inr (ae rfl (O.at (.tail _ (.tail _ (.tail _ (.tail _ (.head _)))))) rfl rfl)),?_⟩|refine⟨.inr (.inr (ae rfl (O.at (.tail _ (.tail _ (.tail _ (.tail _ (.tail _ (.head _))))))) rfl rfl)),?_⟩|refine⟨.inr (.inr (ae rfl (O.at (.tail _ (.tail _ (.tail _ (.tail _ (.tail _ (.tail _ (.head _)))))))) rfl rfl)),?_⟩|refine⟨.inl (Ext.refl _),?_⟩|refine⟨.inr (.inr rfl),?_⟩|refine⟨.inr (by kernel_rfl),?_⟩|refine⟨.inl (by kernel_rfl),?_⟩|refine id ?_);refine gH ?_
            refine ldA (O.at (.tail _ (.head _))) ?_;refine gH ?_
            first|refine⟨.inr (.inr (bj rfl (O.at (.tail _ (.head _))) rfl rfl (lbE rfl) rfl)),?_⟩|refine⟨.inr (.inl (by kernel_rfl)),?_⟩
            refine gX ?_
            refine ca (ew hm O.has) fun r43 hm=>?_;refine gH ?_
            (first|refine⟨.inr (.inr (ae rfl (O.at (.head _)) rfl rfl)),?_⟩|refine⟨.inr (.inr (ae rfl (O.at (.tail _ (.head _))) rfl rfl)),?_⟩|refine⟨.inr (.inr (ae rfl (O.at (.tail _ (.tail _ (.head _)))) rfl rfl)),?_⟩|refine⟨.inr (.inr (ae rfl (O.at (.tail _ (.tail _ (.tail _ (.head _))))) rfl rfl)),?_⟩|refine⟨.inr (.inr (ae rfl (O.at (.tail _ (.tail _ (.tail _ (.tail _ (.head _)))))) rfl rfl)),?_⟩|refine⟨.inr (.inr (ae rfl (O.at (.tail _ (.tail _ (.tail _ (.tail _ (.tail _ (.head _))))))) rfl rfl)),?_⟩|refine⟨.inr (.inr (ae rfl (O.at (.tail _ (.tail _ (.tail _ (.tail _ (.tail _ (.tail _ (.head _)))))))) rfl rfl)),?_⟩|refine⟨.inl (Ext.refl _),?_⟩|refine⟨.inr (.inr rfl),?_⟩|refine⟨.inr (by kernel_rfl),?_⟩|refine⟨.inl (by kernel_rfl),?_⟩|refine id ?_);refine gH ?_
            refine jn hm 180 [5,6,9,12,14,16] (fun s=>s) (fun v44 h=>Own vars h0 [(sC g2 [((ah 4 an) r1.nodes),((ah 1 Value.string) r1.names),((ah 3 ay) r1.mems),((ah 1 i64) r1.outs)]),(sC g6 [((ah 1 n8) r4.inp),((ah 1 n8) r4.state),((ah 1 n8) r5.inp),((ah 1 n8) r5.state)]),((some g16),.map (hH i64 i64 v18))] h) (fun v44=>[(178,(.bool v44))]) (fun hm=>?_) ?_
            ·refine gX ?_
             refine br hm (fun hm=>?_) fun hm=>?_
             ·refine gX ?_
              refine bt ?_;refine gH ?_
              refine bt ?_;refine gH ?_
              exact jx true hm (O.sel [0,1,2] (by decide))
             ·refine gX ?_
              refine br hm (fun hm=>?_) fun hm=>?_
              ·refine gX ?_
               refine bt ?_;refine gH ?_
               exact jx true hm (O.sel [0,1,2] (by decide))
              ·refine gX ?_
               refine br hm (fun hm=>?_) fun hm=>?_
               ·refine gX ?_
                exact jx true hm (O.sel [0,1,2] (by decide))
               ·refine gX ?_
                exact jx r43.1 hm (O.sel [0,1,2] (by decide))
            ·clear hm;rintro v44 base h hm O
             refine gX ?_
             refine br hm (fun hm=>?_) fun hm=>?_
             ·refine gX ?_
              exact fe hm O
             ·refine gX ?_
              exact jx () hm O
       ·clear hm;rintro _ base h hm O
        refine gX ?_
        refine aR hm fun hm=>?_;refine gH ?_
        exact jx (v27+1) hm O
      ·refine gX ?_
       exact jx () hm (O.sel [] (by decide))
     ·clear hm;rintro _ base h hm O
      refine gX ?_
      refine ca (eV hm O.has) fun r46 hm=>?_;refine gX ?_
      exact fe hm O
def qx (x:CData):CData:=⟨x.inp,x.dffs,x.data0,x.data1,x.bus,false,x.port0,x.port1,x.port2,x.port3,x.gates,x.outs⟩
def xH (x:CData):CData:=⟨x.inp,x.dffs,x.data0,x.data1,false,x.mem,x.port0,x.port1,x.port2,x.port3,x.gates,x.outs⟩
theorem Bk {x:CData} (h:CB x):CB (qx x):=⟨h.inp,h.dffs,h.data0,h.data1,h.port0,h.port1,h.port2,h.port3,h.gates,h.outs⟩
theorem zM {x:CData} (h:CB x):CB (xH x):=⟨h.inp,h.dffs,h.data0,h.data1,h.port0,h.port1,h.port2,h.port3,h.gates,h.outs⟩
theorem yS {x:CData} (hx:CB x) {K:Circ->Prop} (h:K (eB (qx x))):bJ x K:=xE (Bk hx) h
theorem A4 {x:CData} (hm:x.mem=false):Cir (eB x):=by
 refine⟨zv hm,by rw[lj,hm];rfl,fun i y h=>?_⟩
 rcases sx hm h with⟨_,rfl⟩|⟨_,_,d,_,rfl⟩|⟨h1,_,g,hg⟩
 ·show (0:Nat)<=14;decide
 ·show (14:Nat)<=14;decide
 ·have hi:=ak h
  have hn:(eB x).nodes.length=(cj x).length:=gF _
  have q:=qA x.bus g (ks:=((cj x).take i).map Node.kind) (by rw[List.length_map,List.length_take];omega)
  rw[<- hg] at q
  have:=q.kind
  omega
theorem xX (c:Circ) (k:Nat):ofN c [k]=(List.range c.nodes.length).filter fun i=>decide (kd c i=k):=by
 unfold ofN kd
 congr 1
 funext i
 rw[Bool.eq_iff_iff]
 simp
theorem xf {x:CData} (hx:CB x) {K:Circ->Prop} (h:K (eB (qx (xH x)))):cf x K:=yS (zM hx) h
theorem Bi {x:CData} (hm:x.mem=false) (hb:x.bus=false):Plz (eB x):=⟨A4 hm,fun i y h=>⟨(qa hm hb i y h).1,(qa hm hb i y h).2.1⟩⟩
theorem BG (n k:Nat):n/2 ^ k%2 ^ 1%256<=1:=by
 have:n/2 ^ k%2 ^ 1<2:=Nat.mod_lt _ (by decide)
 omega
theorem tc {c:Circ} (C:Cir c) {n:Nat}{K:Pat->Prop} (h:∀ p,Full c p->K p):bg c n K:=by
 have hlen:=C.len
 unfold bg
 have pl:∀ (k i:Nat),((List.range i).filter fun i=>decide (kd c i=k)).length<=i:=fun k i=>ub
 have step:∀ (k i:Nat) (l:List Nat) (v:Nat),l.length=((List.range i).filter fun i=>decide (kd c i=k)).length->(kd c i=k->(l++[v]).length=((List.range (i+1)).filter fun i=>decide (kd c i=k)).length)/\(¬ kd c i=k->l.length=((List.range (i+1)).filter fun i=>decide (kd c i=k)).length):=by
  intro k i l v e
  rw[C5]
  refine⟨fun q=>?_,fun q=>?_⟩
  ·rw[if_pos (decide_eq_true q)];simp[e]
  ·rw[if_neg (by simpa using q),List.append_nil];exact e
 refine aD (fun s=>s.2.2<=c.nodes.length/\s.1.length=((List.range s.2.2).filter fun i=>decide (kd c i=0)).length/\(∀ v∈s.1,v<=1)/\s.2.1<=s.2.2) (fun s=>c.nodes.length-s.2.2) (fun s=>s.1.length=(ofN c [0]).length/\(∀ v∈s.1,v<=1)/\s.2<=16) ?_ ⟨Nat.zero_le _,rfl,(fun v m=>by cases m),Nat.le_refl _⟩ ?_
 ·rintro k ⟨l,b,i⟩ nx ⟨hi,hl,hv,hb⟩ hnx hk
  dsimp only at hi hl hv hb
  refine⟨fun q=>?_,fun q=>hk _ ?_⟩
  ·have q:i<c.nodes.length:=aQ.1 q
   obtain⟨x,hx⟩:=aw q
   have e:=dj hx
   have:=pl 0 i
   refine eU (fun s=>s.1.length=((List.range (i+1)).filter fun i=>decide (kd c i=0)).length/\(∀ v∈s.1,v<=1)/\s.2<=i+1) (fun k2 hk2=>⟨x,hx,fun q2=>⟨by decide,by omega,?_,by omega,hk2 _ ⟨?_,?_,by dsimp only;omega⟩⟩,fun q2=>hk2 _ ⟨?_,hv,by dsimp only;omega⟩⟩) ?_
   ·simp only[List.length_singleton];omega
   ·exact (step 0 i l _ hl).1 (by rw[e];exact bD.1 q2)
   ·intro v m
    rcases gJ.1 m with m|rfl
    ·exact hv v m
    ·exact BG _ _
   ·exact (step 0 i l 0 hl).2 (by rw[e];exact bW.1 q2)
   ·rintro⟨l2,b2⟩ ⟨h1,h2,h3⟩
    exact⟨by omega,hnx _ ⟨q,h1,h2,h3⟩ (by dsimp only;omega)⟩
  ·have q:c.nodes.length<=i:=bk.1 q
   have e:i=c.nodes.length:=by omega
   subst e
   exact⟨by rw[xX];exact hl,hv,by dsimp only;omega⟩
 rintro⟨pi,b0⟩ ⟨p1,p2,p3⟩
 dsimp only at p1 p2 p3
 refine aD (fun s=>s.2.2<=c.nodes.length/\s.1.length=((List.range s.2.2).filter fun i=>decide (kd c i=14)).length/\(∀ v∈s.1,v<=1)/\s.2.1<=16+s.2.2) (fun s=>c.nodes.length-s.2.2) (fun s=>s.length=(ofN c [14]).length/\∀ v∈s,v<=1) ?_ ⟨Nat.zero_le _,rfl,(fun v m=>by cases m),p3⟩ ?_
 ·rintro k ⟨l,b,i⟩ nx ⟨hi,hl,hv,hb⟩ hnx hk
  dsimp only at hi hl hv hb
  refine⟨fun q=>?_,fun q=>hk _ ?_⟩
  ·have q:i<c.nodes.length:=aQ.1 q
   obtain⟨x,hx⟩:=aw q
   have e:=dj hx
   have:=pl 14 i
   refine eU (fun s=>s.1.length=((List.range (i+1)).filter fun i=>decide (kd c i=14)).length/\(∀ v∈s.1,v<=1)/\s.2<=16+(i+1)) (fun k2 hk2=>⟨x,hx,fun q2=>⟨by decide,by omega,?_,by omega,hk2 _ ⟨?_,?_,by dsimp only;omega⟩⟩,fun q2=>hk2 _ ⟨?_,hv,by dsimp only;omega⟩⟩) ?_
   ·simp only[List.length_singleton];omega
   ·exact (step 14 i l _ hl).1 (by rw[e];exact bD.1 q2)
   ·intro v m
    rcases gJ.1 m with m|rfl
    ·exact hv v m
    ·exact BG _ _
   ·exact (step 14 i l 0 hl).2 (by rw[e];exact bW.1 q2)
   ·rintro⟨l2,b2⟩ ⟨h1,h2,h3⟩
    exact⟨by omega,hnx _ ⟨q,h1,h2,h3⟩ (by dsimp only;omega)⟩
  ·have q:c.nodes.length<=i:=bk.1 q
   have e:i=c.nodes.length:=by omega
   subst e
   exact⟨by rw[xX];exact hl,hv⟩
 ·rintro ps ⟨q1,q2⟩
  exact h ⟨pi,ps⟩ ⟨⟨p1,q1,fun v m=>Nat.le_trans (p2 v m) (by decide),fun v m=>Nat.le_trans (q2 v m) (by decide)⟩,p2,q2⟩
def stN (z:List LnZ):Nat:=match z with
 |[]=>0
 |a::_=>a.node
theorem Cm {α:Type}{l:List α} (h:l.length=1) {a b:α} (ha:a∈l) (hb:b∈l):a=b:=by
 obtain⟨x,rfl⟩:=List.length_eq_one_iff.1 h
 rw[List.mem_singleton.1 ha,List.mem_singleton.1 hb]
theorem wF {x:CData} (hx:CB x) {n:Nat} (hkn:∀ K:Bool->Prop,K true->aX K) {K:Bool->Prop} (h:K true):bY x n K:=by
 unfold bY
 refine xf hx ?_
 have P:=Bi (x:=qx (xH x)) rfl rfl
 generalize eB (qx (xH x))=c at P ⊢
 have C:=P.cir
 refine tc C fun p1 F1=>⟨by decide,tc C fun p2 F2=>BN C ⟨C,by decide,fun r R=>nE C F2.pat ?_⟩⟩
 dsimp only
 have hbl:=(nc C F2.pat).len
 have hlen:=C.len
 refine cg (a:=false) (fun G=>⟨fun q=>absurd rfl (dV.1 q),fun _=>⟨fun q=>absurd rfl (dV.1 q),fun _=>⟨fun q=>absurd rfl (dV.1 q),fun _=>?_⟩⟩⟩) ⟨(fun q=>by cases q),fun _=>⟨fun _=>hkn _ h,fun q=>?_⟩⟩
 ·rw[pD.2 hbl];exact G
 have hall:=R.all (bk.1 q)
 have hrl:=R.len
 refine aD (fun s=>s.2<=r.length/\∀ v,(gY s.1 v).getD 0=((r.take s.2).filter fun z=>stN z==v).length) (fun s=>r.length-s.2) (fun m=>∀ v,(gY m v).getD 0=(r.filter fun z=>stN z==v).length) ?_ ⟨Nat.zero_le _,fun v=>rfl⟩ ?_
 ·rintro k ⟨m,i⟩ nx ⟨hi,hm⟩ hnx hk
  dsimp only at hi hm
  refine⟨fun q=>?_,fun q=>hk _ fun v=>?_⟩
  ·have q:i<r.length:=aQ.1 q
   obtain⟨z,hz⟩:=aw q
   obtain⟨s,w,hs,W,rfl⟩:=R.path z (List.mem_of_getElem? hz)
   have hle:(gY m s).getD 0<=i:=by
    rw[hm]
    exact Nat.le_trans (List.length_filter_le _ _) (by rw[List.length_take];omega)
   refine⟨_,hz,fun q2=>?_,fun _=>⟨_,hz,⟨s,Int.negSucc 0⟩,rfl,by dsimp only;omega,by dsimp only;omega,hnx _ ⟨q,fun v=>?_⟩ (by dsimp only;omega)⟩⟩
   ·have:=bD.1 q2
    rw[jm] at this
    omega
   ·dsimp only
    rw[Bm,na hz,List.filter_append,List.length_append,<- hm v]
    by_cases e:v=s
    ·subst e
     rw[if_pos rfl]
     have:(stN (pthZ v w)==v)=true:=by show (v==v)=true;simp
     rw[List.filter_cons,if_pos this];rfl
    ·rw[if_neg e]
     have:¬ (stN (pthZ s w)==v)=true:=by
      show ¬ (s==v)=true
      simp only[beq_iff_eq]
      exact fun e2=>e e2.symm
     rw[List.filter_cons,if_neg this];rfl
  ·have q:r.length<=i:=bk.1 q
   rw[hm,List.take_of_length_le q]
 ·intro m hm
  refine dQ (l:=r) ?_ ?_ (hkn _ h)
  ·intro k i nx z hz hi hn
   have hzm:=List.mem_of_getElem? hz
   obtain⟨s,w,hs,W,rfl⟩:=R.path z hzm
   have hsn:s<c.nodes.length:=by have:=W.len C;omega
   refine⟨fun _=>?_,fun q=>by have:=bk.1 q;omega⟩
   refine cg (a:=()) (fun G=>⟨_,hz,⟨s,Int.negSucc 0⟩,rfl,_,hz,Bt C (p:=⟨p1,p2⟩) F1.pat F2.pat W hs fun how hh=>?_⟩) ⟨by omega,hn⟩
   refine cg (a:=false) (fun G2=>⟨fun q=>absurd rfl (dV.1 q),fun _=>⟨fun q=>absurd (aQ.1 q) (Nat.not_lt_zero _),fun _=>?_⟩⟩) ⟨(fun q=>by cases q),fun _=>?_⟩
   ·have:(!ltN s (bP c p2).length)=false:=by rw[Bool.not_eq_false'];exact aQ.2 (by omega)
    dsimp only
    rw[this];exact G2
   refine eU (fun b=>b=false->how≠0/\(gY m s).getD 0=1) (fun k2 hk2=>⟨fun q=>hk2 _ fun e=>(by cases e),fun q=>hk2 _ fun e=>⟨bW.1 q,pD.1 e⟩⟩) fun b hb=>⟨fun _=>G,fun e=>⟨(bP c p2).getD s 0,jf hbl hsn,?_⟩⟩
   obtain⟨hne,hone⟩:=hb e
   obtain⟨ha,hbn,ho⟩:=hh hne
   rw[hm] at hone
   have one:∀ w',Way c s w'->w'=w:=by
    intro w' W'
    have f:∀ {v:List Ln},pthZ s v∈r->pthZ s v∈r.filter fun z=>stN z==s:=fun m=>List.mem_filter.2 ⟨m,by show (s==s)=true;simp⟩
    exact (AA (Cm hone (f (hall s w' hs W')) (f hzm))).2
   have hbin:=Bu P F2 s
   have hnb:eY ((bP c p2).getD s 0)<=1:=by rw[sZ hbin];omega
   have D:=xm P F2 hsn W one fun k j hm=>by
    obtain⟨i2,hi2⟩:=List.mem_iff_getElem?.1 hm
    obtain⟨z,_,ld⟩:=xe W i2 k j hi2
    obtain⟨y,hy,hj,hc⟩:=ld.node C
    exact vv P F2 hy hc hj (ho k j y hm hy)
   have SD:=fun v=>Ai P F2 (v:=v) hs ha hbn
   refine oY C (p:=⟨p1,p2⟩) F1.pat F2.pat hsn hbin ((SD _).1 rfl) (mE (oY C (p:=⟨p1,p2⟩) F1.pat F2.pat hsn hnb ((SD _).2 rfl) ?_))
   dsimp only
   rw[D,zp C F2.pat]
   exact cg (a:=false) (fun G2=>⟨fun q=>absurd rfl (dV.1 q),fun _=>⟨fun q=>absurd rfl (dV.1 q),fun _=>⟨(fun q=>by cases q),fun _=>G2⟩⟩⟩) ⟨(fun q=>by cases q),fun _=>G⟩
  ·intro k i nx hi hk
   refine⟨fun q=>?_,fun _=>hk⟩
   have:=aQ.1 q;omega
theorem Cj:(DU mf).length=10:=by decide +kernel
theorem yu {K:Bool->Prop} (h:K true):aX K:=by
 unfold aX
 refine Ch (c:=mf) Ca ⟨rfl,rfl,rfl,rfl,rfl,?_⟩
 have e0:eqN 0 0=true:=bD.2 rfl
 refine⟨fun _=>⟨fun _=>⟨fun _=>⟨fun _=>⟨fun _=>⟨fun _=>⟨_,rfl,h⟩,fun q=>absurd rfl (bW.1 q)⟩,fun q=>absurd rfl (bW.1 q)⟩,fun q=>absurd Cj (bW.1 q)⟩,fun q=>absurd rfl (bW.1 q)⟩,fun q=>absurd rfl (bW.1 q)⟩,fun q=>absurd rfl (bW.1 q)⟩
def ig:List (Sh×Bool):=[(shC,true),(BE,false)]
theorem uw (x:yw ig) (w:wfL ig x):FnV Tryz.prog NG vars 3 ⟨BJ ig x⟩ (.bool true):=by
 obtain⟨c,n,u⟩:=x
 obtain⟨wc,wn,_⟩:=w
 obtain⟨y,hy,e1⟩:=EC wc
 obtain⟨n,hn,rfl⟩:=D1 wn
 have e:BJ ig (c,Int.ofNat n,u)=[tM y,n64 n]:=by
  show [elV (!true) (shC.aZ c),elV (!false) (BE.aZ (Int.ofNat n))]=_
  rw[e1];rfl
 rw[e]
 exact FnV.pT (enc:=Value.bool) (r:=true) (PureV.flat rfl) fun h hB=>iF (K:=fun r=>r=true) (wF hy (fun K h=>yu h) rfl) hB
end Go.Proofs.YtlbeebglhebpjaaGreatDoor
