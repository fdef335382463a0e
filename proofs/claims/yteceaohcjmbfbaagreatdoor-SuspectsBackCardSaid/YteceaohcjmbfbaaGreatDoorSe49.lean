/-
  SoS, N2, Orz, Sub, SrtS, X1, X2, Y1, Y2, Y3: parts of the proof.
-/
import Derived.Test.YteceaohcjmbfbaaGreatDoorSe48
namespace Go.Proofs.YteceaohcjmbfbaaGreatDoor
open Go.Abs
set_option maxRecDepth 100000
def A3:Go.Shelf.Ren where
 f n:=match n with
  |6=>23
  |14=>46
  |15=>47
  |20=>81
  |21=>82
  |22=>83
  |23=>84
  |24=>85
  |25=>86
  |26=>87
  |27=>88
  |28=>89
  |29=>90
  |46=>119
  |47=>120
  |48=>121
  |49=>122
  |50=>123
  |57=>137
  |n=>n
 t n:=match n with
  |0=>0
  |3=>3
  |4=>4
  |5=>5
  |22=>26
  |24=>31
  |25=>90
  |39=>125
  |45=>160
  |46=>161
  |50=>165
  |53=>168
  |55=>170
  |66=>197
  |70=>201
  |76=>211
  |77=>137
  |n=>n
 g n:=n
theorem B9:Go.Proofs.SlLaysF0.n6 Tryz.prog A3 where
 mixed:=by kernel_rfl
 f6:=⟨Tryz.f23.name,by kernel_rfl,by kernel_rfl⟩
 f14:=⟨Tryz.f46.name,by kernel_rfl,by kernel_rfl⟩
 f15:=by kernel_rfl
 f20:=⟨Tryz.f81.name,by kernel_rfl,by kernel_rfl⟩
 f21:=⟨Tryz.f82.name,by kernel_rfl,by kernel_rfl⟩
 f22:=⟨Tryz.f83.name,by kernel_rfl,by kernel_rfl⟩
 f23:=⟨Tryz.f84.name,by kernel_rfl,by kernel_rfl⟩
 f24:=⟨Tryz.f85.name,by kernel_rfl,by kernel_rfl⟩
 f25:=⟨Tryz.f86.name,by kernel_rfl,by kernel_rfl⟩
 f26:=⟨Tryz.f87.name,by kernel_rfl,by kernel_rfl⟩
 f27:=⟨Tryz.f88.name,by kernel_rfl,by kernel_rfl⟩
 f28:=by kernel_rfl
 f29:=by kernel_rfl
 f46:=⟨Tryz.f119.name,by kernel_rfl,by kernel_rfl⟩
 f47:=by kernel_rfl
 f48:=by kernel_rfl
 f49:=⟨Tryz.f122.name,by kernel_rfl,by kernel_rfl⟩
 f50:=⟨Tryz.f123.name,by kernel_rfl,by kernel_rfl⟩
 f57:=⟨Tryz.f137.name,by kernel_rfl,by kernel_rfl⟩
 t0:=by kernel_rfl
 a0:=fun w=>by kernel_rfl
 z0:=fun w=>by kernel_rfl
 v0:=fun w=>by kernel_rfl
 t3:=by kernel_rfl
 a3:=fun w=>by kernel_rfl
 z3:=fun w=>by kernel_rfl
 v3:=fun w=>by kernel_rfl
 t4:=by kernel_rfl
 a4:=fun w=>by kernel_rfl
 z4:=fun w=>by kernel_rfl
 v4:=fun w=>by kernel_rfl
 t5:=by kernel_rfl
 a5:=fun w=>by kernel_rfl
 z5:=fun w=>by kernel_rfl
 v5:=fun w=>by kernel_rfl
 t9:=by kernel_rfl
 a9:=fun w=>by kernel_rfl
 z9:=fun w=>by kernel_rfl
 v9:=fun w=>by kernel_rfl
 t22:=by kernel_rfl
 a22:=fun w=>by kernel_rfl
 z22:=fun w=>by kernel_rfl
 v22:=fun w=>by kernel_rfl
 t25:=by kernel_rfl
 a25:=fun w=>by kernel_rfl
 z25:=fun w=>by kernel_rfl
 v25:=fun w=>by kernel_rfl
 t39:=by kernel_rfl
 a39:=fun w=>by kernel_rfl
 z39:=fun w=>by kernel_rfl
 v39:=fun w=>by kernel_rfl
 t45:=by kernel_rfl
 a45:=fun w=>by kernel_rfl
 z45:=fun w=>by kernel_rfl
 v45:=fun w=>by kernel_rfl
 t46:=by kernel_rfl
 a46:=fun w=>by kernel_rfl
 z46:=fun w=>by kernel_rfl
 v46:=fun w=>by kernel_rfl
 t50:=by kernel_rfl
 a50:=fun w=>by kernel_rfl
 z50:=fun w=>by kernel_rfl
 v50:=fun w=>by kernel_rfl
 t53:=by kernel_rfl
 a53:=fun w=>by kernel_rfl
 z53:=fun w=>by kernel_rfl
 v53:=fun w=>by kernel_rfl
 t55:=by kernel_rfl
 a55:=fun w=>by kernel_rfl
 z55:=fun w=>by kernel_rfl
 v55:=fun w=>by kernel_rfl
 t66:=by kernel_rfl
 a66:=fun w=>by kernel_rfl
 z66:=fun w=>by kernel_rfl
 v66:=fun w=>by kernel_rfl
 t70:=by kernel_rfl
 a70:=fun w=>by kernel_rfl
 z70:=fun w=>by kernel_rfl
 v70:=fun w=>by kernel_rfl
 t76:=by kernel_rfl
 a76:=fun w=>by kernel_rfl
 z76:=fun w=>by kernel_rfl
 v76:=fun w=>by kernel_rfl
 t77:=by kernel_rfl
 a77:=fun w=>by kernel_rfl
 z77:=fun w=>by kernel_rfl
 v77:=fun w=>by kernel_rfl
theorem A6:∀ w,(isAgg (A3.t 24)).run Tryz.prog w=.ok true w:=fun w=>by kernel_rfl
theorem AV:∀ w,(Go.sizeOf (A3.t 24)).run Tryz.prog w=.ok 4 w:=fun w=>by kernel_rfl
set_option maxHeartbeats 8000000
def dL (p0:(List Int)) (K:Int->Prop):Prop :=
 an (α:=Unit) (fun k1=>av (S:=Nat) (fun v2 nx3=>((ltN v2 p0.length)=true->∃ x4,p0[v2]?=some x4/\((neZ x4 (Int.ofNat 0))=true->K x4)/\((neZ x4 (Int.ofNat 0))=false->v2+1<2 ^ 63/\nx3 (v2+1)))/\((ltN v2 p0.length)=false->k1 ())) 0) (fun _=>K (Int.ofNat 0))
theorem oD {p0:(List Int)}{K:Int->Prop} (hm:dL p0 K) {h0:Heap} (hB:HasB vars h0):∃ r,K r/\CallD Tryz.prog NG 25 ⟨[(ag 1 z64) p0]⟩ h0 (z64 r) h0:=by
 unfold dL at hm
 refine fw Tryz.func25 hB (enc:=z64) (fun r=>PureV.flat rfl) fun O=>?_;conv=>whnf
 apply Cs;conv=>whnf
 apply Cs;refine gH ?_
 apply Cs;conv=>whnf
 apply Cs;refine gH ?_
 refine jn hm 18 [3] (fun s=>s) (fun _ h=>Own vars h0 [] h) (fun _=>[]) (fun hm=>?_) ?_
 ·refine gX ?_
  refine lw 18 [3,6,7] (σ:=Nat) (fun s=>s) (fun v2 h=>Own vars h0 [] h) (fun v2=>[(8,(i64 v2))]) 0 hm O ?_
  clear hm;rintro v2 nx3 base h hm O
  refine gX ?_
  refine br hm (fun hm=>?_) fun hm=>?_
  ·refine gX ?_
   refine atF hm fun x4 hx4 hm=>?_;refine gX ?_
   refine br hm (fun hm=>?_) fun hm=>?_
   ·refine gX ?_
    exact fe hm O
   ·refine gX ?_
    refine aF hm fun hm=>?_;refine gH ?_
    exact jx (v2+1) hm O
  ·refine gX ?_
   exact jx () hm O
 ·clear hm;rintro _ base h hm O
  refine gX ?_
  exact fe hm O
def fL (p0:Sus) (p1:Sus) (K:Int->Prop):Prop :=
 -(2 ^ 63)<=((Int.ofNat p0.missed)-(Int.ofNat p1.missed))/\((Int.ofNat p0.missed)-(Int.ofNat p1.missed))<2 ^ 63 /\ -(2 ^ 63)<=((Int.ofNat p0.extra)-(Int.ofNat p1.extra))/\((Int.ofNat p0.extra)-(Int.ofNat p1.extra))<2 ^ 63 /\ -(2 ^ 63)<=((Int.ofNat p0.fault)-(Int.ofNat p1.fault))/\((Int.ofNat p0.fault)-(Int.ofNat p1.fault))<2 ^ 63/\dL ([((Int.ofNat p0.missed)-(Int.ofNat p1.missed)),((Int.ofNat p0.extra)-(Int.ofNat p1.extra)),((Int.ofNat p0.fault)-(Int.ofNat p1.fault))]:(List Int)) (fun r1=>K r1)
theorem lG {p0:Sus}{p1:Sus}{K:Int->Prop} (hm:fL p0 p1 K) {h0:Heap} (hB:HasB vars h0):∃ r,K r/\CallD Tryz.prog NG 24 ⟨[dO p0,dO p1]⟩ h0 (z64 r) h0:=by
 unfold fL at hm
 refine fw Tryz.func24 hB (enc:=z64) (fun r=>PureV.flat rfl) fun O=>?_;conv=>whnf
 refine gX ?_
 refine fz ?_;refine gH ?_
 refine fz ?_;refine gX ?_
 refine⟨_,uC (a:=(Int.ofNat p0.missed)) (b:=(Int.ofNat p1.missed)) rfl rfl hm.1 hm.2.1,?_⟩;refine gH ?_
 replace hm:=hm.2.2
 refine⟨_,uC (a:=(Int.ofNat p0.extra)) (b:=(Int.ofNat p1.extra)) rfl rfl hm.1 hm.2.1,?_⟩;refine gH ?_
 replace hm:=hm.2.2
 refine⟨_,uC (a:=(Int.ofNat p0.fault)) (b:=(Int.ofNat p1.fault)) rfl rfl hm.1 hm.2.1,?_⟩;refine gH ?_
 replace hm:=hm.2.2
 refine fz ?_;refine gH ?_
 refine ca (oD hm O.has) fun r1 hm=>?_;refine gX ?_
 exact fe hm O
def orZ (a b:Int):Int:=if a≠0 then a else b
theorem Bf {a b:Int}:neZ a b=true↔a≠b:=by rw[vM];simp
theorem zO {a b:Int}:neZ a b=false↔a=b:=by rw[vM];simp
theorem wR {a b:Int}:orZ a b<0↔a<0\/a=0/\b<0:=by
 unfold orZ
 split <;> omega
theorem wT {α:Type}{p:α->Prop}{β:Type} (f:α->β):∀ (l:List α) (h:∀ x∈l,p x),l.map f=(l.attachWith p h).map fun x=>f x.1
 |[],_=>rfl
 |a::l,h=>by
  show f a::l.map f=_::_
  rw[wT f l fun x m=>h x (List.mem_cons_of_mem _ m)]
  simp[List.attachWith]
def pk (x:Sus):Prop:=x.fault<2 ^ 62/\x.missed<2 ^ 62/\x.extra<2 ^ 62
def qW (x y:Sus):Int:=orZ (Int.ofNat x.missed-Int.ofNat y.missed) (orZ (Int.ofNat x.extra-Int.ofNat y.extra) (Int.ofNat x.fault-Int.ofNat y.fault))
def gS (x y:Sus):Prop:=¬ qW y x<0
theorem BO {a b c:Int}{K:Int->Prop} (h:K (orZ a (orZ b c))):dL [a,b,c] K:=by
 unfold dL
 refine (show av _ _ from⟨4,?_⟩)
 unfold orZ at h
 refine⟨fun _=>⟨a,rfl,fun q=>?_,fun q=>⟨by decide,?_⟩⟩,fun q=>absurd (aU.1 q) (by simp)⟩
 ·rw[if_pos (show a≠0 from Bf.1 q)] at h;exact h
 rw[if_neg (fun e:a≠0=>e (zO.1 q))] at h
 refine⟨fun _=>⟨b,rfl,fun q=>?_,fun q=>⟨by decide,?_⟩⟩,fun q=>absurd (aU.1 q) (by simp)⟩
 ·rw[if_pos (show b≠0 from Bf.1 q)] at h;exact h
 rw[if_neg (fun e:b≠0=>e (zO.1 q))] at h
 refine⟨fun _=>⟨c,rfl,fun _=>h,fun q=>⟨by decide,?_⟩⟩,fun q=>absurd (aU.1 q) (by simp)⟩
 have e:c=0:=zO.1 q
 subst e
 exact⟨fun q=>absurd (aJ.1 q) (by simp),fun _=>h⟩
theorem yc {a b:Sus} (ha:pk a) (hb:pk b) {K:Int->Prop} (h:K (qW a b)):fL a b K:=by
 obtain⟨a1,a2,a3⟩:=ha
 obtain⟨b1,b2,b3⟩:=hb
 exact⟨by simp only[Int.ofNat_eq_natCast];omega,by simp only[Int.ofNat_eq_natCast];omega,by simp only[Int.ofNat_eq_natCast];omega,by simp only[Int.ofNat_eq_natCast];omega,by simp only[Int.ofNat_eq_natCast];omega,by simp only[Int.ofNat_eq_natCast];omega,BO h⟩
theorem lx {x y:Sus}:qW x y<0↔x.missed<y.missed\/x.missed=y.missed/\(x.extra<y.extra\/x.extra=y.extra/\x.fault<y.fault):=by
 unfold qW;rw[wR,wR];simp only[Int.ofNat_eq_natCast];omega
theorem lk {x y:Sus}:gS x y↔x.missed<y.missed\/x.missed=y.missed/\(x.extra<y.extra\/x.extra=y.extra/\x.fault<=y.fault):=by
 unfold gS;rw[lx];omega
theorem Bt:Go.Sort.SWO (Go.Proofs.ltOf fun x y:{x:Sus // pk x}=>qW x.1 y.1) where
 irrefl x:=by unfold Go.Proofs.ltOf;rw[decide_eq_false_iff_not,lx];omega
 trans x y z:=by unfold Go.Proofs.ltOf;simp only[decide_eq_true_eq,lx];omega
 ntrans x y z:=by unfold Go.Proofs.ltOf;simp only[decide_eq_false_iff_not,lx];omega
theorem AS {h0 h:Heap}{L:List Slot}{la:List Sus}{f:Slot->List Slot}{g n:Nat} (O:Own vars h0 L h) (A:At (some g,.cells (flatC (la.map dO)) false) L f) (hn:n=la.length) (hsz:la.length<4611686018427387904) (hb:∀ x∈la,pk x) :
  ∃ (l':List Sus) (h':Heap),l'.Perm la/\l'.Pairwise gS/\CallD Tryz.prog NG 23 ⟨[.slice (some ⟨g,0,none⟩) n n,.func (.func 24) #[] #[]]⟩ h (.tuple #[]) h'/\Own vars h0 (f (some g,.cells (flatC (l'.map dO)) false)) h':=by
 subst hn
 have inh:Inhabited {x:Sus // pk x}:=⟨⟨⟨0,0,0,0⟩,by unfold pk;decide⟩⟩
 have e:=wT dO la hb
 have e1:(la.attachWith pk hb).map Subtype.val=la:=by simp
 rw[e] at A
 obtain⟨l',h',p1,p2,p3,p4⟩:=O.Cu (ρ:=A3) (k:=4) (bD:=fun x:{x:Sus // pk x}=>[i64 x.1.fault,i64 x.1.both,i64 x.1.missed,i64 x.1.extra]) (enc:=fun x:{x:Sus // pk x}=>dO x.1) (cf:=fun x y=>qW x.1 y.1) B9 A6 AV (fun _=>rfl) (fun _=>rfl)
  (fun x v m=>by simp only[List.mem_cons,List.not_mem_nil,or_false] at m;rcases m with rfl|rfl|rfl|rfl <;> rfl) (fun x v m=>by simp only[List.mem_cons,List.not_mem_nil,or_false] at m;rcases m with rfl|rfl|rfl|rfl <;> rfl)
  Bt (by kernel_rfl) (Go.Proofs.enters_of Tryz.func24 (by kernel_rfl) rfl) oy
  (fun x y h2 hb=>by obtain⟨r,rfl,c⟩:=lG (p0:=x.1) (p1:=y.1) (K:=fun r=>r=qW x.1 y.1) (yc x.2 y.2 rfl) hb;exact c) (n:=la.length) A (by rw[List.length_attachWith]) (by rw[List.length_attachWith];exact hsz)
 refine⟨l'.map Subtype.val,h',?_,?_,p3,?_⟩
 ·have:=p1.map Subtype.val
  rw[e1] at this
  exact this
 ·exact List.pairwise_map.2 p2
 ·rw[List.map_map]
  exact p4
set_option maxHeartbeats 8000000
def jw (p0:(List (FailZ×Bool))) (p1:(List (FailZ×Bool))) (K:Bool->Prop):Prop :=
 ((neN p0.length p1.length)=true->K false)/\((neN p0.length p1.length)=false->an (α:=Unit) (fun k1=>yN (α:=(FailZ×Bool)) (S:=Unit) p0 (fun y5 _ nx4=>an (α:=Bool) (fun k10=>((!((jo p1 y5.1).isSome))=true->k10 true)/\((!((jo p1 y5.1).isSome))=false->k10 (y5.2 != ((jo p1 y5.1).getD false)))) (fun v9=>(v9=true->K false)/\(v9=false->nx4 ()))) () (fun _=>k1 ())) (fun _=>K true))
theorem vi {p0:(List (FailZ×Bool))}{p1:(List (FailZ×Bool))}{r:Bool} (hm:jw p0 p1 (fun x=>x=r)) {h0:Heap} (hB:HasB vars h0) {gm0:Nat} (hgm0:h0.get gm0=some (.map (bO ar Value.bool p0))) {gm1:Nat} (hgm1:h0.get gm1=some (.map (bO ar Value.bool p1))):CallD Tryz.prog NG 27 ⟨[.map (some gm0),.map (some gm1)]⟩ h0 (Value.bool r) h0:=by
 unfold jw at hm
 refine fwM Tryz.func27 hB (enc:=Value.bool) (fun r=>PureV.flat rfl) fun O=>?_;conv=>whnf
 refine gXM ?_
 refine vI (ek:=ar) (ev:=Value.bool) (m:=p0) (O.ext.get hgm0) ?_;refine gH ?_
 refine vI (ek:=ar) (ev:=Value.bool) (m:=p1) (O.ext.get hgm1) ?_;refine gXM ?_
 refine br hm (fun hm=>?_) fun hm=>?_
 ·refine gXM ?_
  exact fe hm O
 ·refine Ms rfl ?_;conv=>whnf
  refine jnM hm 34 [] (fun s=>s) (fun _ h=>Own vars h0 [] h) (fun _=>[]) (fun hm=>?_) ?_
  ·refine gXM ?_
   refine O.Cy (ek:=ar) (ev:=Value.bool) (m:=p0) (O.ext.get hgm0) fun g2 h O=>?_;refine gXM ?_
   refine mpM 34 [1,15] (σ:=Unit) (fun s=>s) (es:=p0) (ent:=fun p=>(ar p.1,Value.bool p.2)) (fun _ seen h=>Own vars h0 [((some g2),.rng gm0 seen p0.length)] h) (fun _=>[]) () hm O (by rintro _ seen h q;have O:=q;exact O.at (.head _)) (by rintro _ seen h q;have O:=q;exact (O.ext.get hgm0)) (by rintro _ seen i h q;have O:=q;exact O.upd (.head _) (Upd.upd _ (Heap.ak (O.at (.head _))))) ?_ ?_
   ·clear hm;rintro _ seen base h hm O
    refine gXM ?_
    refine bf ?_;refine gXM ?_
    exact jx () hm (O.sel [] (by decide))
   ·clear hm;rintro _ seen i y5 nx4 base h hy6 hm O
    refine gXM ?_
    refine bt ?_;refine gXM ?_
    refine Bj (ek:=ar) (ev:=Value.bool) (m:=p0) O (.head _) (O.ext.get hgm0) rfl hy6 ?_;refine gH ?_
    (first|refine O.new (ai (l:=[(i64 0),(.bool false),(i64 0)]) rfl rfl rfl) fun g7 h O=>?_|refine O.bB (ai (l:=[(i64 0),(.bool false),(i64 0)]) rfl rfl rfl) fun g7 h O=>?_);refine gH ?_
    refine O.stC 3 (.head _) [(z64 y5.1.test),(.bool y5.1.next),(z64 y5.1.index)] fun h O=>?_;refine gXM ?_
    refine ldA (O.at (.head _)) ?_;refine gH ?_
    refine⟨_,yb (ek:=ar) (ev:=Value.bool) (m:=p1) (k:=y5.1) (z:=false) rfl rfl rfl (by kernel_rfl) (by kernel_rfl) (jH rfl) (O.ext.get hgm1) rfl rfl,?_⟩;refine gH ?_
    refine jnM hm 34 [1,15] (fun s=>s) (fun v9 h=>Own vars h0 [((some g2),.rng gm0 (seen++[i]) p0.length)] h) (fun v9=>[(33,(.bool v9))]) (fun hm=>?_) ?_
    ·refine gXM ?_
     refine br hm (fun hm=>?_) fun hm=>?_
     ·refine gXM ?_
      exact jx true hm (O.sel [1] (by decide))
     ·refine gXM ?_
      exact jx (y5.2 != ((jo p1 y5.1).getD false)) hm (O.sel [1] (by decide))
    ·clear hm;rintro v9 base h hm O
     refine gXM ?_
     refine br hm (fun hm=>?_) fun hm=>?_
     ·refine gXM ?_
      exact fe hm O
     ·refine gXM ?_
      exact jx () hm O
  ·clear hm;rintro _ base h hm O
   refine gXM ?_
   exact fe hm O
def mF (p0:(List (FailZ×Bool))) (p1:(List (FailZ×Bool))) (K:Bool->Prop):Prop:=∃ r,jw p0 p1 (fun x=>x=r)/\K r
theorem tI {p0:(List (FailZ×Bool))}{p1:(List (FailZ×Bool))}{K:Bool->Prop} (hm:mF p0 p1 K) {h0:Heap} (hB:HasB vars h0) {gm0:Nat} (hgm0:h0.get gm0=some (.map (bO ar Value.bool p0))) {gm1:Nat} (hgm1:h0.get gm1=some (.map (bO ar Value.bool p1))):∃ r,K r/\CallD Tryz.prog NG 27 ⟨[.map (some gm0),.map (some gm1)]⟩ h0 (Value.bool r) h0:=by
 obtain⟨r,h1,h2⟩:=hm
 exact⟨r,h2,vi h1 hB hgm0 hgm1⟩
def df (p0:(List (List FailZ))) (p1:(List FailZ)) (K:(List Sus)->Prop):Prop :=
 an (α:=(List (FailZ×Bool))) (fun k4=>av (S:=((List (FailZ×Bool))×Nat)) (fun (v5,v6) nx7=>((ltN v6 p1.length)=true->∃ x8,p1[v6]?=some x8/\v6+1<2 ^ 63/\nx7 ((iA v5 x8 true),(v6+1)))/\((ltN v6 p1.length)=false->k4 v5)) (([]:List (FailZ×Bool)),0)) (fun v3=>32*p0.length<=2 ^ 48/\p0.length<2 ^ 63/\an (α:=(List Sus)) (fun k14=>av (S:=((List Sus)×Nat)) (fun (v15,v16) nx17=>((ltN v16 p0.length)=true->∃ x18,p0[v16]?=some x18/\an (α:=(Nat×Nat×Nat)) (fun k24=>an (α:=(List (FailZ×Bool))) (fun k28=>av (S:=((List (FailZ×Bool))×Nat)) (fun (v29,v30) nx31=>((ltN v30 x18.length)=true->∃ x32,x18[v30]?=some x32/\v30+1<2 ^ 63/\nx31 ((iA v29 x32 true),(v30+1)))/\((ltN v30 x18.length)=false->k28 v29)) (([]:List (FailZ×Bool)),0)) (fun v27=>yN (α:=(FailZ×Bool)) (S:=(Nat×Nat×Nat)) v27 (fun y41 (v37,v38,v39) nx40=>(((jo v3 y41.1).getD false)=true->v37+1<2 ^ 63/\1<=v38/\v38<2 ^ 63/\nx40 ((v37+1),(v38-1),v39))/\(((jo v3 y41.1).getD false)=false->v39+1<2 ^ 63/\nx40 (v37,v38,(v39+1)))) (0,v3.length,0) (fun (v37,v38,v39)=>k24 (v37,v38,v39)))) (fun (v21,v22,v23)=>v16<p0.length/\∃ x45,v15[v16]?=some x45/\v16+1<2 ^ 63/\nx17 ((v15.set v16 (⟨v16,v21,v22,v23⟩:Sus)),(v16+1))))/\((ltN v16 p0.length)=false->k14 v15)) ((List.replicate p0.length ((⟨0,0,0,0⟩:Sus):Sus)),0)) (fun v13=>p0.length=v13.length/\v13.length<4611686018427387904/\(∀ x∈v13,pk x)/\∀ x46:List Sus,x46.Perm v13->x46.Pairwise gS->p0.length=x46.length/\K x46))
theorem mi {p0:(List (List FailZ))}{p1:(List FailZ)}{r:(List Sus)} (hm:df p0 p1 (fun x=>x=r)) {h0:Heap} (hB:HasB vars h0):CallD Tryz.prog NG 10 ⟨[(ag 1 (ag 3 ar)) p0,(ag 3 ar) p1]⟩ h0 ((oz 4 dO) r) h0:=by
 unfold df at hm
 refine fwM Tryz.func10 hB (enc:=(oz 4 dO)) (fun r=>vU (fun _=>xV _)) fun O=>?_;conv=>whnf
 refine gXM ?_
 refine fg Tryz.func22 ?_;refine gXM ?_
 (first|refine O.new ((rfl:anew _ _ _=some (.map (bO ar Value.bool ([]:List (FailZ×Bool))),fun g=>.map (some g)))) fun g1 h O=>?_|refine O.bB ((rfl:anew _ _ _=some (.map (bO ar Value.bool ([]:List (FailZ×Bool))),fun g=>.map (some g)))) fun g1 h O=>?_);refine gH ?_
 refine jn hm 19 [3] (fun s=>s) (fun v3 h=>Own vars h0 [((some g1),.map (bO ar Value.bool v3))] h) (fun v3=>[]) (fun hm=>?_) ?_
 ·refine gXM ?_
  refine lw 19 [3,9,10] (σ:=((List (FailZ×Bool))×Nat)) (fun s=>s) (fun (v5,v6) h=>Own vars h0 [((some g1),.map (bO ar Value.bool v5))] h) (fun (v5,v6)=>[(11,(i64 v6))]) (([]:List (FailZ×Bool)),0) hm O ?_
  clear hm;rintro⟨v5,v6⟩ nx7 base h hm O
  refine gXM ?_
  refine br hm (fun hm=>?_) fun hm=>?_
  ·refine gXM ?_
   refine atF hm fun x8 hx8 hm=>?_;refine gH ?_
   (first|refine O.new (ai (l:=[(i64 0),(.bool false),(i64 0)]) rfl rfl rfl) fun g9 h O=>?_|refine O.bB (ai (l:=[(i64 0),(.bool false),(i64 0)]) rfl rfl rfl) fun g9 h O=>?_);refine gH ?_
   refine O.stC 3 (.head _) [(z64 x8.test),(.bool x8.next),(z64 x8.index)] fun h O=>?_;refine gXM ?_
   refine ldA (O.at (.head _)) ?_;refine gH ?_
   refine O.qk (ek:=ar) (ev:=Value.bool) (m:=v5) (k:=x8) (v:=true) (.tail _ (.head _)) rfl rfl (by kernel_rfl) (jH rfl) rfl rfl rfl fun h O=>?_;refine gXM ?_
   refine aF hm fun hm=>?_;refine gH ?_
   exact jx ((iA v5 x8 true),(v6+1)) hm (O.sel [1] (by decide))
  ·refine gXM ?_
   exact jx v5 hm O
 ·clear hm;rintro v3 base h hm O
  refine gXM ?_
  refine O.mkL (enc:=dO) 32 4 (⟨0,0,0,0⟩:Sus) hm fun g11 h O hm=>?_;refine gH ?_
  refine jnM hm 57 [6] (fun s=>s) (fun v13 h=>Own vars h0 [(sC g11 (flatC (v13.map dO)))] h) (fun v13=>[]) (fun hm=>?_) ?_
  ·refine gXM ?_
   refine lwM 57 [5,6,16,17] (σ:=((List Sus)×Nat)) (fun s=>s) (fun (v15,v16) h=>Own vars h0 [((some g1),.map (bO ar Value.bool v3)),(sC g11 (flatC (v15.map dO)))] h) (fun (v15,v16)=>[(18,(i64 v16))]) ((List.replicate p0.length ((⟨0,0,0,0⟩:Sus):Sus)),0) hm (O.sel [1,0] (by decide)) ?_
   clear hm;rintro⟨v15,v16⟩ nx17 base h hm O
   refine gXM ?_
   refine br hm (fun hm=>?_) fun hm=>?_
   ·refine gXM ?_
    refine atF hm fun x18 hx18 hm=>?_;refine gXM ?_
    refine vI (ek:=ar) (ev:=Value.bool) (m:=v3) (O.at (.head _)) ?_;refine gH ?_
    (first|refine O.new (ai (l:=[(i64 0),(i64 0),(i64 0),(i64 0)]) rfl rfl rfl) fun g19 h O=>?_|refine O.bB (ai (l:=[(i64 0),(i64 0),(i64 0),(i64 0)]) rfl rfl rfl) fun g19 h O=>?_);refine gH ?_
    refine O.stC 4 (.head _) [(i64 v16),(i64 0),(i64 v3.length),(i64 0)] fun h O=>?_;refine gH ?_
    refine jnM hm 57 [5,6,7,9,16,17,18] (fun s=>s) (fun (v21,v22,v23) h=>Own vars h0 [((some g1),.map (bO ar Value.bool v3)),(sC g11 (flatC (v15.map dO))),(sC g19 [(i64 v16),(i64 v21),(i64 v22),(i64 v23)])] h) (fun (v21,v22,v23)=>[]) (fun hm=>?_) ?_
    ·refine gXM ?_
     refine fg Tryz.func22 ?_;refine gXM ?_
     (first|refine O.new ((rfl:anew _ _ _=some (.map (bO ar Value.bool ([]:List (FailZ×Bool))),fun g=>.map (some g)))) fun g25 h O=>?_|refine O.bB ((rfl:anew _ _ _=some (.map (bO ar Value.bool ([]:List (FailZ×Bool))),fun g=>.map (some g)))) fun g25 h O=>?_);refine gH ?_
     refine jn hm 19 [3] (fun s=>s) (fun v27 h=>Own vars h0 [((some g25),.map (bO ar Value.bool v27)),((some g1),.map (bO ar Value.bool v3)),(sC g11 (flatC (v15.map dO))),(sC g19 [(i64 v16),(i64 0),(i64 v3.length),(i64 0)])] h) (fun v27=>[]) (fun hm=>?_) ?_
     ·refine gXM ?_
      refine lw 19 [3,9,10] (σ:=((List (FailZ×Bool))×Nat)) (fun s=>s) (fun (v29,v30) h=>Own vars h0 [((some g25),.map (bO ar Value.bool v29)),((some g1),.map (bO ar Value.bool v3)),(sC g11 (flatC (v15.map dO))),(sC g19 [(i64 v16),(i64 0),(i64 v3.length),(i64 0)])] h) (fun (v29,v30)=>[(11,(i64 v30))]) (([]:List (FailZ×Bool)),0) hm (O.sel [0,2,3,1] (by decide)) ?_
      clear hm;rintro⟨v29,v30⟩ nx31 base h hm O
      refine gXM ?_
      refine br hm (fun hm=>?_) fun hm=>?_
      ·refine gXM ?_
       refine atF hm fun x32 hx32 hm=>?_;refine gH ?_
       (first|refine O.new (ai (l:=[(i64 0),(.bool false),(i64 0)]) rfl rfl rfl) fun g33 h O=>?_|refine O.bB (ai (l:=[(i64 0),(.bool false),(i64 0)]) rfl rfl rfl) fun g33 h O=>?_);refine gH ?_
       refine O.stC 3 (.head _) [(z64 x32.test),(.bool x32.next),(z64 x32.index)] fun h O=>?_;refine gXM ?_
       refine ldA (O.at (.head _)) ?_;refine gH ?_
       refine O.qk (ek:=ar) (ev:=Value.bool) (m:=v29) (k:=x32) (v:=true) (.tail _ (.head _)) rfl rfl (by kernel_rfl) (jH rfl) rfl rfl rfl fun h O=>?_;refine gXM ?_
       refine aF hm fun hm=>?_;refine gH ?_
       exact jx ((iA v29 x32 true),(v30+1)) hm (O.sel [1,2,3,4] (by decide))
      ·refine gXM ?_
       exact jx v29 hm O
     ·clear hm;rintro v27 base h hm O
      refine gXM ?_
      refine O.Cy (ek:=ar) (ev:=Value.bool) (m:=v27) (O.at (.head _)) fun g35 h O=>?_;refine gXM ?_
      refine mpM 57 [5,6,7,9,16,17,18,29] (σ:=(Nat×Nat×Nat)) (fun s=>s) (es:=v27) (ent:=fun p=>(ar p.1,Value.bool p.2)) (fun (v37,v38,v39) seen h=>Own vars h0 [((some g1),.map (bO ar Value.bool v3)),(sC g11 (flatC (v15.map dO))),(sC g19 [(i64 v16),(i64 v37),(i64 v38),(i64 v39)]),((some g35),.rng g25 seen v27.length),((some g25),.map (bO ar Value.bool v27))] h) (fun (v37,v38,v39)=>[]) (0,v3.length,0) hm (O.sel [2,3,4,0,1] (by decide)) (by rintro⟨v37,v38,v39⟩ seen h q;have O:=q;exact O.at (.tail _ (.tail _ (.tail _ (.head _))))) (by rintro⟨v37,v38,v39⟩ seen h q;have O:=q;exact (O.at (.tail _ (.tail _ (.tail _ (.tail _ (.head _))))))) (by rintro⟨v37,v38,v39⟩ seen i h q;have O:=q;exact O.upd (.tail _ (.tail _ (.tail _ (.head _)))) (Upd.upd _ (Heap.ak (O.at (.tail _ (.tail _ (.tail _ (.head _)))))))) ?_ ?_
      ·clear hm;rintro⟨v37,v38,v39⟩ seen base h hm O
       refine gXM ?_
       refine bf ?_;refine gXM ?_
       exact jx (v37,v38,v39) hm (O.sel [0,1,2] (by decide))
      ·clear hm;rintro⟨v37,v38,v39⟩ seen i y41 nx40 base h hy42 hm O
       refine gXM ?_
       refine bt ?_;refine gXM ?_
       refine Bj (ek:=ar) (ev:=Value.bool) (m:=v27) O (.tail _ (.tail _ (.tail _ (.head _)))) (O.at (.tail _ (.tail _ (.tail _ (.tail _ (.head _)))))) rfl hy42 ?_;refine gH ?_
       (first|refine O.new (ai (l:=[(i64 0),(.bool false),(i64 0)]) rfl rfl rfl) fun g43 h O=>?_|refine O.bB (ai (l:=[(i64 0),(.bool false),(i64 0)]) rfl rfl rfl) fun g43 h O=>?_);refine gH ?_
       refine O.stC 3 (.head _) [(z64 y41.1.test),(.bool y41.1.next),(z64 y41.1.index)] fun h O=>?_;refine gXM ?_
       refine ldA (O.at (.head _)) ?_;refine gH ?_
       refine⟨_,xt (ek:=ar) (ev:=Value.bool) (m:=v3) (k:=y41.1) (z:=false) rfl rfl rfl (by kernel_rfl) (by kernel_rfl) (jH rfl) (O.at (.tail _ (.head _))) rfl rfl,?_⟩;refine gXM ?_
       refine br hm (fun hm=>?_) fun hm=>?_
       ·refine gXM ?_
        refine ldO (O.at (.tail _ (.tail _ (.tail _ (.head _))))) ?_;refine gH ?_
        refine aF hm fun hm=>?_;refine gH ?_
        refine O.stC 1 (.tail _ (.tail _ (.tail _ (.head _)))) [(i64 v16),(i64 (v37+1)),(i64 v38),(i64 v39)] fun h O=>?_;refine gXM ?_
        refine ldO (O.at (.tail _ (.tail _ (.tail _ (.head _))))) ?_;refine gH ?_
        refine rR hm fun hm=>?_;refine gH ?_
        refine O.stC 1 (.tail _ (.tail _ (.tail _ (.head _)))) [(i64 v16),(i64 (v37+1)),(i64 (v38-1)),(i64 v39)] fun h O=>?_;refine gH ?_
        exact jx ((v37+1),(v38-1),v39) hm (O.sel [1,2,3,4,5] (by decide))
       ·refine gXM ?_
        refine ldO (O.at (.tail _ (.tail _ (.tail _ (.head _))))) ?_;refine gH ?_
        refine aF hm fun hm=>?_;refine gH ?_
        refine O.stC 1 (.tail _ (.tail _ (.tail _ (.head _)))) [(i64 v16),(i64 v37),(i64 v38),(i64 (v39+1))] fun h O=>?_;refine gH ?_
        exact jx (v37,v38,(v39+1)) hm (O.sel [1,2,3,4,5] (by decide))
    ·clear hm;rintro⟨v21,v22,v23⟩ base h hm O
     refine gXM ?_
     refine ldA (O.at (.tail _ (.tail _ (.head _)))) ?_;refine gH ?_
     refine ix 4 hm fun x45 hx45 hm=>?_;refine gH ?_
     refine O.stE 4 (.tail _ (.head _)) hx45 (⟨v16,v21,v22,v23⟩:Sus) fun h O=>?_;refine gXM ?_
     refine aF hm fun hm=>?_;refine gH ?_
     exact jx ((v15.set v16 (⟨v16,v21,v22,v23⟩:Sus)),(v16+1)) hm (O.sel [0,1] (by decide))
   ·refine gXM ?_
    exact jx v15 hm (O.sel [1] (by decide))
  ·clear hm;rintro v13 base h hm O
   refine gXM ?_
   obtain⟨x46,h,hp47,hs48,hcall,O⟩:=AS O (.head _) hm.1 hm.2.1 hm.2.2.1
   refine⟨_,_,hcall,?_⟩;refine gXM ?_
   replace hm:=hm.2.2.2 x46 hp47 hs48
   obtain⟨hn50,hm⟩:=hm
   exact⟨x46,hm,O.ext,fun h2 F=>VLe.toC (O.fY F (Nat.le_refl _) (.head _) (fun _=>rfl) hn50) (hn50.trans (List.length_map ..).symm)⟩
def fA (p0:(List (List FailZ))) (p1:(List FailZ)) (K:(List Sus)->Prop):Prop:=∃ r,df p0 p1 (fun x=>x=r)/\K r
theorem lC {p0:(List (List FailZ))}{p1:(List FailZ)}{K:(List Sus)->Prop} (hm:fA p0 p1 K) {h0:Heap} (hB:HasB vars h0):∃ r,K r/\CallD Tryz.prog NG 10 ⟨[(ag 1 (ag 3 ar)) p0,(ag 3 ar) p1]⟩ h0 ((oz 4 dO) r) h0:=by
 obtain⟨r,h1,h2⟩:=hm
 exact⟨r,h2,mi h1 hB⟩
set_option maxHeartbeats 8000000
def cL:Nat->Circ->Nat->List Bool->Nat->((List Bool)->Prop)->Prop
 |0,_,_,_,_,_=>False
 |fu+1,c,net,ds,nd,K=>net<nd/\∃ x1,ds[net]?=some x1/\(x1=true->K ds)/\(x1=false->net<nd/\∃ x2,ds[net]?=some x2/\∃ x3,c.nodes[net]?=some x3/\av (S:=((List Bool)×Nat)) (fun (v4,v5) nx6=>((ltN v5 x3.ins.length)=true->an (α:=(List Bool)) (fun k8=>∃ x9,x3.ins[v5]?=some x9/\∃ x10,c.nodes[net]?=some x10/\((neN x10.kind 14)=true->cL fu c x9 v4 nd (fun x11=>k8 x11))/\((neN x10.kind 14)=false->k8 v4)) (fun v7=>v5+1<2 ^ 63/\nx6 (v7,(v5+1))))/\((ltN v5 x3.ins.length)=false->K v4)) ((ds.set net true),0))
def ec (c:Circ) (net:Nat) (ds:List Bool) (nd:Nat) (K:(List Bool)->Prop):Prop:=∃ n,cL n c net ds nd K
theorem lA:∀ (n:Nat) {c:Circ}{net:Nat}{ds:List Bool}{nd:Nat}{gd:Nat}{L:List Slot}{K:(List Bool)->Prop} (_:cL n c net ds nd K) {h0 h:Heap}  (_:Own vars h0 (((some gd),.cells (flatC (ds.map Value.bool)) false)::L) h),∃ v h',CallD Tryz.prog NG 79 ⟨[(aA c),(i64 net),(.slice (some ⟨gd,0,none⟩) nd nd)]⟩ h v h'/\∃ (w0:(List Bool)),K w0/\v=.tuple ⟨[]⟩/\Own vars h0 (((some gd),.cells (flatC (w0.map Value.bool)) false)::L) h'/\True:=by
 intro n
 induction n with
 | zero=>intro c net ds nd gd L K hm;exact False.elim hm
 | succ fu ih =>
  intro c net ds nd gd L K hm h0 h O
  unfold cL at hm
  refine fg Tryz.func79 (Q:=fun v h'=>∃ (w0:(List Bool)),K w0/\v=.tuple ⟨[]⟩/\Own vars h0 (((some gd),.cells (flatC (w0.map Value.bool)) false)::L) h'/\True) ?_;conv=>whnf
  refine gX ?_
  refine fz ?_;refine gX ?_
  refine ix 1 hm fun x1 hx1 hm=>?_;refine gH ?_
  refine ldE (s:=1) (i:=0) (O.at (.head _)) hx1 ?_;refine gX ?_
  refine br hm (fun hm=>?_) fun hm=>?_
  ·refine gX ?_
   exact⟨ds,hm,rfl,O,trivial⟩
  ·refine gX ?_
   refine ix 1 hm fun x2 hx2 hm=>?_;refine gH ?_
   refine O.stE 1 (.head _) hx2 true fun h O=>?_;refine gX ?_
   refine atF hm fun x3 hx3 hm=>?_;refine gX ?_
   refine lw 38 [1,2,3,20,21] (σ:=((List Bool)×Nat)) (fun s=>s) (fun (v4,v5) h=>Own vars h0 (((some gd),.cells (flatC (v4.map Value.bool)) false)::L) h) (fun (v4,v5)=>[(22,(i64 v5))]) ((ds.set net true),0) hm O ?_
   clear hm;rintro⟨v4,v5⟩ nx6 base h hm O
   refine gX ?_
   refine br hm (fun hm=>?_) fun hm=>?_
   ·apply Cs;conv=>whnf
    refine jn hm 38 [1,2,3,20,21,22] (fun s=>s) (fun v7 h=>Own vars h0 (((some gd),.cells (flatC (v7.map Value.bool)) false)::L) h) (fun v7=>[]) (fun hm=>?_) ?_
    ·refine gX ?_
     refine atF hm fun x9 hx9 hm=>?_;refine gX ?_
     refine atF hm fun x10 hx10 hm=>?_;refine gX ?_
     refine br hm (fun hm=>?_) fun hm=>?_
     ·refine gX ?_
      obtain⟨_,h,hcall,x11,hm,rfl,O,_⟩:=ih hm  O
      refine⟨_,_,hcall,?_⟩;refine gH ?_
      exact jx x11 hm O
     ·refine gX ?_
      exact jx v4 hm O
    ·clear hm;rintro v7 base h hm O
     refine gX ?_
     refine aF hm fun hm=>?_;refine gH ?_
     exact jx (v7,(v5+1)) hm O
   ·refine gX ?_
    exact⟨v4,hm,rfl,O,trivial⟩
theorem il {c:Circ}{net:Nat}{ds:List Bool}{nd:Nat}{gd:Nat}{L:List Slot}{K:(List Bool)->Prop} (hm:ec c net ds nd K) {h0 h:Heap}  (O:Own vars h0 (((some gd),.cells (flatC (ds.map Value.bool)) false)::L) h):∃ v h',CallD Tryz.prog NG 79 ⟨[(aA c),(i64 net),(.slice (some ⟨gd,0,none⟩) nd nd)]⟩ h v h'/\∃ (w0:(List Bool)),K w0/\v=.tuple ⟨[]⟩/\Own vars h0 (((some gd),.cells (flatC (w0.map Value.bool)) false)::L) h'/\True:=by
 obtain⟨n,hm⟩:=hm
 exact lA n hm O
def eQ (p0:(List Bool)) (p1:Nat) (K:(List Bool)->Prop):Prop :=
 an (α:=Unit) (fun k1=>((ltN p1 0)=true->False)/\((ltN p1 0)=false->k1 ())) (fun _=>p0.length<2 ^ 63/\p1<2 ^ 63/\oR p0.length p1 (fun r2=>an (α:=Unit) (fun k3=>an (α:=Bool) (fun k5=>((ltN 0 r2.1)=true->k5 true)/\((ltN 0 r2.1)=false->k5 (ltN 9223372036854775807 r2.2))) (fun v4=>(v4=true->False)/\(v4=false->k3 ()))) (fun _=>r2.2<2 ^ 63/\1*r2.2<=2 ^ 48/\r2.2<2 ^ 63/\0+r2.2<=(List.replicate r2.2 (false:Bool)).length/\an (α:=(List Bool)) (fun k9=>av (S:=((List Bool)×Nat)) (fun (v10,v11) nx12=>((ltN v11 r2.2)=true->v11<=r2.2/\v11<=r2.2/\v11+(r2.2-v11)<=v10.length/\v11<=v10.length/\v11+(min (r2.2-v11) (v10.take v11).length)<2 ^ 63/\nx12 ((kf v10 v11 (r2.2-v11) (v10.take v11)),(v11+(min (r2.2-v11) (v10.take v11).length))))/\((ltN v11 r2.2)=false->k9 v10)) ((kf (List.replicate r2.2 (false:Bool)) 0 r2.2 p0),(min r2.2 p0.length))) (fun v8=>r2.2=v8.length/\K v8))))
theorem oE {p0:(List Bool)}{p1:Nat}{K:(List Bool)->Prop} (hm:eQ p0 p1 K) {h0:Heap} (hB:HasB vars h0):∃ v h',CallD Tryz.prog NG 43 ⟨[(ag 1 Value.bool) p0,i64 p1]⟩ h0 v h'/\wz vars h0 K (fun (r:(List Bool)) a=>bN a (r.map Value.bool)) (fun (r:(List Bool))=>r) Value.bool false v h':=by
 unfold eQ at hm
 refine fg Tryz.func43 (Q:=wz vars h0 K (fun (r:(List Bool)) a=>bN a (r.map Value.bool)) (fun (r:(List Bool))=>r) Value.bool false) ?_;have O:=Own.start hB;conv=>whnf
 apply Cs;conv=>whnf
 apply Cs;refine gH ?_
 refine jn hm 48 [0,1] (fun s=>s) (fun _ h=>Own vars h0 [] h) (fun _=>[]) (fun hm=>?_) ?_
 ·refine gX ?_
  refine br hm (fun hm=>?_) fun hm=>?_
  ·refine gX ?_
   exact False.elim hm
  ·refine gX ?_
   exact jx () hm O
 ·clear hm;rintro _ base h hm O
  refine gX ?_
  refine aCv hm Cq fun hm=>?_;refine gH ?_
  refine aCv hm Cq fun hm=>?_;refine gH ?_
  refine ca (rV hm O.has) fun r2 hm=>?_;refine gH ?_
  refine jn hm 48 [0,6] (fun s=>s) (fun _ h=>Own vars h0 [] h) (fun _=>[]) (fun hm=>?_) ?_
  ·refine jn hm 48 [0,6] (fun s=>s) (fun v4 h=>Own vars h0 [] h) (fun v4=>[(26,(.bool v4))]) (fun hm=>?_) ?_
   ·refine gX ?_
    refine br hm (fun hm=>?_) fun hm=>?_
    ·refine gX ?_
     exact jx true hm O
    ·refine gX ?_
     exact jx (ltN 9223372036854775807 r2.2) hm O
   ·clear hm;rintro v4 base h hm O
    refine gX ?_
    refine br hm (fun hm=>?_) fun hm=>?_
    ·refine gX ?_
     exact False.elim hm
    ·refine gX ?_
     exact jx () hm O
  ·clear hm;rintro _ base h hm O
   refine gX ?_
   refine aCv hm wX fun hm=>?_;refine gH ?_
   refine O.mkL (enc:=Value.bool) 1 1 false hm fun g6 h O hm=>?_;refine gX ?_
   refine O.Bc (enc:=Value.bool) (l:=(List.replicate r2.2 (false:Bool))) (src:=p0) (s:=1) (o:=0) (.head _) rfl rfl (by decide) rfl (SrcOk.fl rfl) (fun _=>rfl) (by decide) (fun _=>rfl) hm.1 fun h O=>?_;refine gH ?_
   replace hm:=hm.2
   refine jn hm 48 [7] (fun s=>s) (fun v8 h=>Own vars h0 [(sC g6 (flatC (v8.map Value.bool)))] h) (fun v8=>[]) (fun hm=>?_) ?_
   ·refine gX ?_
    refine lw 48 [7] (σ:=((List Bool)×Nat)) (fun s=>s) (fun (v10,v11) h=>Own vars h0 [(sC g6 (flatC (v10.map Value.bool)))] h) (fun (v10,v11)=>[(8,(i64 v11))]) ((kf (List.replicate r2.2 (false:Bool)) 0 r2.2 p0),(min r2.2 p0.length)) hm O ?_
    clear hm;rintro⟨v10,v11⟩ nx12 base h hm O
    refine gX ?_
    refine br hm (fun hm=>?_) fun hm=>?_
    ·refine gX ?_
     refine AE (s:=1) (m:=v11) rfl rfl rfl rfl hm.1 ?_;refine gH ?_
     replace hm:=hm.2
     refine Bi (s:=1) (m:=v11) rfl rfl rfl rfl hm.1 ?_;refine gH ?_
     replace hm:=hm.2
     refine O.Bc (enc:=Value.bool) (l:=v10) (src:=(v10.take v11)) (s:=1) (o:=v11) (.head _) rfl rfl rfl rfl (SrcOk.CM (O.at (.head _)) rfl (fun _=>rfl) hm.2.1) (fun _=>rfl) (by decide) (fun _=>rfl) hm.1 fun h O=>?_;refine gH ?_
     (first|refine⟨.inr (.inr (ae rfl (O.at (.head _)) rfl rfl)),?_⟩|refine⟨.inr (.inr (ae rfl (O.at (.tail _ (.head _))) rfl rfl)),?_⟩|refine⟨.inr (.inr (ae rfl (O.at (.tail _ (.tail _ (.head _)))) rfl rfl)),?_⟩|refine⟨.inr (.inr (ae rfl (O.at (.tail _ (.tail _ (.tail _ (.head _))))) rfl rfl)),?_⟩|refine⟨.inr (.inr (ae rfl (O.at (.tail _ (.tail _ (.tail _ (.tail _ (.head _)))))) rfl rfl)),?_⟩|refine⟨.inr (.inr (ae rfl (O.at (.tail _ (.tail _ (.tail _ (.tail _ (.tail _ (.head _))))))) rfl rfl)),?_⟩|refine⟨.inr (.inr (ae rfl (O.at (.tail _ (.tail _ (.tail _ (.tail _ (.tail _ (.tail _ (.head _)))))))) rfl rfl)),?_⟩|refine⟨.inl (Ext.refl _),?_⟩|refine⟨.inr (.inr rfl),?_⟩|refine⟨.inr (by kernel_rfl),?_⟩|refine⟨.inl (by kernel_rfl),?_⟩|refine id ?_);refine gH ?_
     replace hm:=hm.2.2
     refine aF hm fun hm=>?_;refine gH ?_
     exact jx ((kf v10 v11 (r2.2-v11) (v10.take v11)),(v11+(min (r2.2-v11) (v10.take v11).length))) hm O
    ·refine gX ?_
     exact jx v10 hm O
   ·clear hm;rintro v8 base h hm O
    refine gX ?_
    obtain⟨hn13,hm⟩:=hm
    exact⟨v8,some g6,hm,VLe.of_eq (Ce (l:=v8) (enc:=Value.bool) (g:=g6) hn13),(fun e=>nomatch e),(fun e=>nomatch e),O.sel [0] (by decide)⟩
def ct (p0:Circ) (K:Nat->Prop):Prop :=
 an (α:=Nat) (fun k2=>av (S:=(Nat×Nat)) (fun (v3,v4) nx5=>((ltN v4 p0.nodes.length)=true->an (α:=Nat) (fun k7=>∃ x8,p0.nodes[v4]?=some x8/\((eqN x8.kind 14)=true->v3+1<2 ^ 63/\k7 (v3+1))/\((eqN x8.kind 14)=false->k7 v3)) (fun v6=>v4+1<2 ^ 63/\nx5 (v6,(v4+1))))/\((ltN v4 p0.nodes.length)=false->k2 v3)) (p0.outs.length,0)) (fun v1=>K v1)
theorem kB {p0:Circ}{K:Nat->Prop} (hm:ct p0 K) {h0:Heap} (hB:HasB vars h0):∃ r,K r/\CallD Tryz.prog NG 52 ⟨[aA p0]⟩ h0 (i64 r) h0:=by
 unfold ct at hm
 refine fw Tryz.func52 hB (enc:=i64) (fun r=>PureV.flat rfl) fun O=>?_;conv=>whnf
 refine gX ?_
 refine fz ?_;refine gH ?_
 apply Cs;conv=>whnf
 apply Cs;refine gH ?_
 refine jn hm 23 [] (fun s=>s) (fun v1 h=>Own vars h0 [] h) (fun v1=>[(3,(i64 v1))]) (fun hm=>?_) ?_
 ·refine gX ?_
  refine lw 23 [10,11] (σ:=(Nat×Nat)) (fun s=>s) (fun (v3,v4) h=>Own vars h0 [] h) (fun (v3,v4)=>[(3,(i64 v3)),(12,(i64 v4))]) (p0.outs.length,0) hm O ?_
  clear hm;rintro⟨v3,v4⟩ nx5 base h hm O
  refine gX ?_
  refine br hm (fun hm=>?_) fun hm=>?_
  ·apply Cs;conv=>whnf
   refine jn hm 23 [10,11,12] (fun s=>s) (fun v6 h=>Own vars h0 [] h) (fun v6=>[(3,(i64 v6))]) (fun hm=>?_) ?_
   ·refine gX ?_
    refine atF hm fun x8 hx8 hm=>?_;refine gH ?_
    (first|refine O.new (ai (l:=[(n8 0),nS,(i64 0),(i64 0)]) rfl rfl rfl) fun g9 h O=>?_|refine O.bB (ai (l:=[(n8 0),nS,(i64 0),(i64 0)]) rfl rfl rfl) fun g9 h O=>?_);refine gH ?_
    refine O.stC 4 (.head _) [(n8 x8.kind),((ag 1 i64) x8.ins),(i64 x8.mem),(i64 x8.bit)] fun h O=>?_;refine gX ?_
    refine br hm (fun hm=>?_) fun hm=>?_
    ·refine gX ?_
     refine aF hm fun hm=>?_;refine gH ?_
     exact jx (v3+1) hm (O.sel [] (by decide))
    ·refine gX ?_
     exact jx v3 hm (O.sel [] (by decide))
   ·clear hm;rintro v6 base h hm O
    refine gX ?_
    refine aF hm fun hm=>?_;refine gH ?_
    exact jx (v6,(v4+1)) hm O
  ·refine gX ?_
   exact jx v3 hm O
 ·clear hm;rintro v1 base h hm O
  refine gX ?_
  exact fe hm O
def cN (p0:Circ) (p1:(List Flt)) (p2:(List Pat)) (K:Nat->Prop):Prop :=
 an (α:=Bool) (fun k2=>((ltN 65536 p1.length)=true->k2 true)/\((ltN 65536 p1.length)=false->((ltN 4096 p2.length)=true->k2 true)/\((ltN 4096 p2.length)=false->p1.length*p2.length<2 ^ 63/\ct p0 (fun r3=>(p1.length*p2.length)*r3<2 ^ 63/\k2 (ltN 1048576 ((p1.length*p2.length)*r3)))))) (fun v1=>(v1=true->K 3)/\(v1=false->cJ p0 (fun r4=>((neN r4.2 0)=true->K r4.2)/\((neN r4.2 0)=false->an (α:=Unit) (fun k5=>av (S:=Nat) (fun v6 nx7=>((ltN v6 p1.length)=true->∃ x8,p1[v6]?=some x8/\faults_Check_wp p0 x8 (fun r11=>((neN r11 0)=true->K r11)/\((neN r11 0)=false->((eqN x8.model 1)=true->K 7)/\((eqN x8.model 1)=false->v6+1<2 ^ 63/\nx7 (v6+1)))))/\((ltN v6 p1.length)=false->k5 ())) 0) (fun _=>an (α:=Unit) (fun k12=>av (S:=Nat) (fun v13 nx14=>((ltN v13 p2.length)=true->∃ x15,p2[v13]?=some x15/\eP p0 x15 (fun r18=>((neN r18 0)=true->K r18)/\((neN r18 0)=false->v13+1<2 ^ 63/\nx14 (v13+1))))/\((ltN v13 p2.length)=false->k12 ())) 0) (fun _=>K 0))))))
theorem lI {p0:Circ}{p1:(List Flt)}{p2:(List Pat)}{K:Nat->Prop} (hm:cN p0 p1 p2 K) {h0:Heap} (hB:HasB vars h0):∃ r,K r/\CallD Tryz.prog NG 32 ⟨[aA p0,(ag 5 aC) p1,(ag 2 bZ) p2]⟩ h0 (i64 r) h0:=by
 unfold cN at hm
 refine fw Tryz.func32 hB (enc:=i64) (fun r=>PureV.flat rfl) fun O=>?_;conv=>whnf
 refine gX ?_
 refine fz ?_;refine gH ?_
 apply Cs;conv=>whnf
 refine jn hm 71 [1,2,3] (fun s=>s) (fun v1 h=>Own vars h0 [] h) (fun v1=>[(33,(.bool v1))]) (fun hm=>?_) ?_
 ·refine gX ?_
  refine br hm (fun hm=>?_) fun hm=>?_
  ·refine gX ?_
   refine bt ?_;refine gH ?_
   exact jx true hm O
  ·refine gX ?_
   refine br hm (fun hm=>?_) fun hm=>?_
   ·refine gX ?_
    exact jx true hm O
   ·refine gX ?_
    refine AT hm fun hm=>?_;refine gH ?_
    refine ca (kB hm O.has) fun r3 hm=>?_;refine gH ?_
    refine AT hm fun hm=>?_;refine gH ?_
    exact jx (ltN 1048576 ((p1.length*p2.length)*r3)) hm O
 ·clear hm;rintro v1 base h hm O
  refine gX ?_
  refine br hm (fun hm=>?_) fun hm=>?_
  ·refine gX ?_
   exact fe hm O
  ·refine gX ?_
   refine ca (iO hm O.has) fun r4 hm=>?_;refine gX ?_
   refine br hm (fun hm=>?_) fun hm=>?_
   ·refine gX ?_
    exact fe hm O
   ·apply Cs;conv=>whnf
    refine jn hm 71 [2,3] (fun s=>s) (fun _ h=>Own vars h0 [] h) (fun _=>[]) (fun hm=>?_) ?_
    ·refine gX ?_
     refine lw 71 [2,3,42,43] (σ:=Nat) (fun s=>s) (fun v6 h=>Own vars h0 [] h) (fun v6=>[(44,(i64 v6))]) 0 hm O ?_
     clear hm;rintro v6 nx7 base h hm O
     refine gX ?_
     refine br hm (fun hm=>?_) fun hm=>?_
     ·refine gX ?_
      refine atF hm fun x8 hx8 hm=>?_;refine gH ?_
      (first|refine O.new (ai (l:=[(n8 0),(i64 0),(i64 0),(n8 0),(i64 0)]) rfl rfl rfl) fun g9 h O=>?_|refine O.bB (ai (l:=[(n8 0),(i64 0),(i64 0),(n8 0),(i64 0)]) rfl rfl rfl) fun g9 h O=>?_);refine gH ?_
      refine O.stC 5 (.head _) [(n8 x8.model),(i64 x8.line.node),(z64 x8.line.pin),(n8 x8.value),(i64 x8.other)] fun h O=>?_;refine gX ?_
      refine ldA (O.at (.head _)) ?_;refine gH ?_
      refine ca (iX hm O.has) fun r11 hm=>?_;refine gX ?_
      refine br hm (fun hm=>?_) fun hm=>?_
      ·refine gX ?_
       exact fe hm O
      ·refine gX ?_
       refine br hm (fun hm=>?_) fun hm=>?_
       ·refine gX ?_
        exact fe hm O
       ·refine gX ?_
        refine aF hm fun hm=>?_;refine gH ?_
        exact jx (v6+1) hm (O.sel [] (by decide))
     ·refine gX ?_
      exact jx () hm O
    ·clear hm;rintro _ base h hm O
     conv=>whnf
     refine jn hm 71 [] (fun s=>s) (fun _ h=>Own vars h0 [] h) (fun _=>[]) (fun hm=>?_) ?_
     ·refine gX ?_
      refine lw 71 [3,58,59] (σ:=Nat) (fun s=>s) (fun v13 h=>Own vars h0 [] h) (fun v13=>[(60,(i64 v13))]) 0 hm O ?_
      clear hm;rintro v13 nx14 base h hm O
      refine gX ?_
      refine br hm (fun hm=>?_) fun hm=>?_
      ·refine gX ?_
       refine atF hm fun x15 hx15 hm=>?_;refine gH ?_
       (first|refine O.new (ai (l:=[nS,nS]) rfl rfl rfl) fun g16 h O=>?_|refine O.bB (ai (l:=[nS,nS]) rfl rfl rfl) fun g16 h O=>?_);refine gH ?_
       refine O.stC 2 (.head _) [((ag 1 n8) x15.inp),((ag 1 n8) x15.state)] fun h O=>?_;refine gX ?_
       refine ldA (O.at (.head _)) ?_;refine gH ?_
       refine ca (pB hm O.has) fun r18 hm=>?_;refine gX ?_
       refine br hm (fun hm=>?_) fun hm=>?_
       ·refine gX ?_
        exact fe hm O
       ·refine gX ?_
        refine aF hm fun hm=>?_;refine gH ?_
        exact jx (v13+1) hm (O.sel [] (by decide))
      ·refine gX ?_
       exact jx () hm O
     ·clear hm;rintro _ base h hm O
      refine gX ?_
      exact fe hm O
def dw (p0:Circ) (p1:Flt) (p2:(List Pat)) (p3:(List Rsp)) (K:(List FailZ)->Prop):Prop :=
 an (α:=(List FailZ)) (fun k5=>av (S:=((List FailZ)×Nat)) (fun (v7,v8) nx10=>((ltN v8 p2.length)=true->an (α:=(List FailZ)) (fun k14=>∃ x15,p2[v8]?=some x15/\inject_Run_wp p0 p1 x15 (fun r18=>∃ x21,p3[v8]?=some x21/\cZ x21 r18.1 (fun r22=>an (α:=(List FailZ)) (fun k26=>av (S:=((List FailZ)×Nat)) (fun (v28,v29) nx31=>((ltN v29 r22.1.length)=true->∃ x32,r22.1[v29]?=some x32/\(v28.length+([(⟨(Int.ofNat v8),false,(Int.ofNat x32)⟩:FailZ)]:(List FailZ)).length)*24<=2 ^ 47/\v29+1<2 ^ 63/\nx31 ((v28++([(⟨(Int.ofNat v8),false,(Int.ofNat x32)⟩:FailZ)]:(List FailZ))),(v29+1)))/\((ltN v29 r22.1.length)=false->k26 v28)) (v7,0)) (fun v24=>av (S:=((List FailZ)×Nat)) (fun (v36,v37) nx39=>((ltN v37 r22.2.length)=true->∃ x40,r22.2[v37]?=some x40/\(v36.length+([(⟨(Int.ofNat v8),true,(Int.ofNat x40)⟩:FailZ)]:(List FailZ)).length)*24<=2 ^ 47/\v37+1<2 ^ 63/\nx39 ((v36++([(⟨(Int.ofNat v8),true,(Int.ofNat x40)⟩:FailZ)]:(List FailZ))),(v37+1)))/\((ltN v37 r22.2.length)=false->k14 v36)) (v24,0))))) (fun v12=>v8+1<2 ^ 63/\nx10 (v12,(v8+1))))/\((ltN v8 p2.length)=false->k5 v7)) (([]:List FailZ),0)) (fun v3=>K v3)
theorem nM {p0:Circ}{p1:Flt}{p2:(List Pat)}{p3:(List Rsp)}{K:(List FailZ)->Prop} (hm:dw p0 p1 p2 p3 K) {h0:Heap} (hB:HasB vars h0):∃ r,K r/\CallD Tryz.prog NG 33 ⟨[aA p0,aC p1,(ag 2 bZ) p2,(ag 2 cT) p3]⟩ h0 ((ag 3 ar) r) h0:=by
 unfold dw at hm
 refine fw Tryz.func33 hB (enc:=(ag 3 ar)) (fun r=>dg (fun _=>mO _)) fun O=>?_;conv=>whnf
 refine gX ?_
 refine fz ?_;refine gH ?_
 refine fz ?_;refine gH ?_
 apply Cs;conv=>whnf
 apply Cs;refine gH ?_
 have O:=O.aG (.cells (flatC ((([]:List FailZ)).map ar)) false)
 refine jn (σ:=(List FailZ)×Option Nat) hm 74 [] (fun s=>s.1) (fun (v3,a2) h=>(a2=none->v3=[])/\Own vars h0 [(a2,.cells (flatC (v3.map ar)) false)] h) (fun (v3,a2)=>[(9,(ah 3 a2 (v3.map ar)))]) (fun hm=>?_) ?_
 ·refine gX ?_
  refine lw 74 [3,4,5,21,22] (σ:=((List FailZ)×Nat)×Option Nat) (fun s=>s.1) (fun ((v7,v8),a6) h=>(a6=none->v7=[])/\Own vars h0 [(a6,.cells (flatC (v7.map ar)) false)] h) (fun ((v7,v8),a6)=>[(9,(ah 3 a6 (v7.map ar))),(23,(i64 v8))]) ((([]:List FailZ),0),none) hm ⟨(fun _=>rfl),O⟩ ?_
  clear hm;rintro⟨⟨v7,v8⟩,a6⟩ nx10 base h hm ⟨ha9,O⟩
  refine gX ?_
  refine br hm (fun hm=>?_) fun hm=>?_
  ·apply Cs;conv=>whnf
   refine jn (σ:=(List FailZ)×Option Nat) hm 74 [3,4,5,21,22,23] (fun s=>s.1) (fun (v12,a11) h=>(a11=none->v12=[])/\Own vars h0 [(a11,.cells (flatC (v12.map ar)) false)] h) (fun (v12,a11)=>[(9,(ah 3 a11 (v12.map ar)))]) (fun hm=>?_) ?_
   ·refine gX ?_
    refine atF hm fun x15 hx15 hm=>?_;refine gH ?_
    (first|refine O.new (ai (l:=[nS,nS]) rfl rfl rfl) fun g16 h O=>?_|refine O.bB (ai (l:=[nS,nS]) rfl rfl rfl) fun g16 h O=>?_);refine gH ?_
    refine O.stC 2 (.head _) [((ag 1 n8) x15.inp),((ag 1 n8) x15.state)] fun h O=>?_;refine gX ?_
    refine ldA (O.at (.head _)) ?_;refine gH ?_
    refine ca (pC hm O.has) fun r18 hm=>?_;refine gH ?_
    (first|refine O.new (ai (l:=[nS,nS]) rfl rfl rfl) fun g19 h O=>?_|refine O.bB (ai (l:=[nS,nS]) rfl rfl rfl) fun g19 h O=>?_);refine gH ?_
    refine O.stC 2 (.head _) [((ag 1 n8) r18.1.out),((ag 1 n8) r18.1.next)] fun h O=>?_;refine gX ?_
    refine atF hm fun x21 hx21 hm=>?_;refine gH ?_
    refine dF ?_
    refine gX ?_
    refine ldA (O.at (.head _)) ?_;refine gH ?_
    first|refine⟨.inr (.inr (bg rfl (O.at (.head _)) rfl rfl (lbE rfl) rfl)),?_⟩|refine⟨.inr (.inl (by kernel_rfl)),?_⟩
    refine gX ?_
    refine ca (mg hm O.has) fun r22 hm=>?_;refine gH ?_
    (first|refine⟨.inr (.inr (ae rfl (O.at (.head _)) rfl rfl)),?_⟩|refine⟨.inr (.inr (ae rfl (O.at (.tail _ (.head _))) rfl rfl)),?_⟩|refine⟨.inr (.inr (ae rfl (O.at (.tail _ (.tail _ (.head _)))) rfl rfl)),?_⟩|refine⟨.inr (.inr (ae rfl (O.at (.tail _ (.tail _ (.tail _ (.head _))))) rfl rfl)),?_⟩|refine⟨.inr (.inr (ae rfl (O.at (.tail _ (.tail _ (.tail _ (.tail _ (.head _)))))) rfl rfl)),?_⟩|refine⟨.inr (.inr (ae rfl (O.at (.tail _ (.tail _ (.tail _ (.tail _ (.tail _ (.head _))))))) rfl rfl)),?_⟩|refine⟨.inr (.inr (ae rfl (O.at (.tail _ (.tail _ (.tail _ (.tail _ (.tail _ (.tail _ (.head _)))))))) rfl rfl)),?_⟩|refine⟨.inl (Ext.refl _),?_⟩|refine⟨.inr (.inr rfl),?_⟩|refine⟨.inr (by kernel_rfl),?_⟩|refine⟨.inl (by kernel_rfl),?_⟩|refine id ?_);refine gH ?_
    refine jn (σ:=(List FailZ)×Option Nat) hm 74 [3,4,5,10,16,21,22,23] (fun s=>s.1) (fun (v24,a23) h=>(a23=none->v24=[])/\Own vars h0 [(a23,.cells (flatC (v24.map ar)) false)] h) (fun (v24,a23)=>[(9,(ah 3 a23 (v24.map ar)))]) (fun hm=>?_) ?_
    ·refine gX ?_
     refine lw 74 [3,4,5,10,16,21,22,23,45,46] (σ:=((List FailZ)×Nat)×Option Nat) (fun s=>s.1) (fun ((v28,v29),a27) h=>(a27=none->v28=[])/\Own vars h0 [(a27,.cells (flatC (v28.map ar)) false)] h) (fun ((v28,v29),a27)=>[(9,(ah 3 a27 (v28.map ar))),(47,(i64 v29))]) ((v7,0),a6) hm ⟨ha9,(O.sel [2] (by decide))⟩ ?_
     clear hm;rintro⟨⟨v28,v29⟩,a27⟩ nx31 base h hm ⟨ha30,O⟩
     refine gX ?_
     refine br hm (fun hm=>?_) fun hm=>?_
     ·refine gX ?_
      refine atF hm fun x32 hx32 hm=>?_;refine gX ?_
      refine fz ?_;refine gH ?_
      refine O.apL (enc:=ar) (l:=v28) (new:=([(⟨(Int.ofNat v8),false,(Int.ofNat x32)⟩:FailZ)]:(List FailZ))) 3 (.head _) ha30 hm fun a33 h ha34 O hm=>?_;refine gX ?_
      refine aF hm fun hm=>?_;refine gH ?_
      exact jx (((v28++([(⟨(Int.ofNat v8),false,(Int.ofNat x32)⟩:FailZ)]:(List FailZ))),(v29+1)),a33) hm ⟨ha34,O⟩
     ·refine gX ?_
      exact jx (v28,a27) hm ⟨ha30,O⟩
    ·clear hm;rintro⟨v24,a23⟩ base h hm ⟨ha25,O⟩
     refine gX ?_
     refine lw 74 [3,4,5,10,21,22,23,58,59] (σ:=((List FailZ)×Nat)×Option Nat) (fun s=>s.1) (fun ((v36,v37),a35) h=>(a35=none->v36=[])/\Own vars h0 [(a35,.cells (flatC (v36.map ar)) false)] h) (fun ((v36,v37),a35)=>[(9,(ah 3 a35 (v36.map ar))),(60,(i64 v37))]) ((v24,0),a23) hm ⟨ha25,O⟩ ?_
     clear hm;rintro⟨⟨v36,v37⟩,a35⟩ nx39 base h hm ⟨ha38,O⟩
     refine gX ?_
     refine br hm (fun hm=>?_) fun hm=>?_
     ·refine gX ?_
      refine atF hm fun x40 hx40 hm=>?_;refine gX ?_
      refine fz ?_;refine gH ?_
      refine O.apL (enc:=ar) (l:=v36) (new:=([(⟨(Int.ofNat v8),true,(Int.ofNat x40)⟩:FailZ)]:(List FailZ))) 3 (.head _) ha38 hm fun a41 h ha42 O hm=>?_;refine gX ?_
      refine aF hm fun hm=>?_;refine gH ?_
      exact jx (((v36++([(⟨(Int.ofNat v8),true,(Int.ofNat x40)⟩:FailZ)]:(List FailZ))),(v37+1)),a41) hm ⟨ha42,O⟩
     ·refine gX ?_
      exact jx (v36,a35) hm ⟨ha38,O⟩
   ·clear hm;rintro⟨v12,a11⟩ base h hm ⟨ha13,O⟩
    refine gX ?_
    refine aF hm fun hm=>?_;refine gH ?_
    exact jx ((v12,(v8+1)),a11) hm ⟨ha13,O⟩
  ·refine gX ?_
   exact jx (v7,a6) hm ⟨ha9,O⟩
 ·clear hm;rintro⟨v3,a2⟩ base h hm ⟨ha4,O⟩
  refine gX ?_
  refine fg Tryz.func55 ?_;refine gX ?_
  refine gK (s:=3) (enc:=ar) (l:=v3) (n:=v3.length) (m:=v3.length) rfl rfl rfl rfl rfl rfl rfl ?_;refine gX ?_
  exact⟨v3,hm,O.ext,fun h2 F=>O.iH F (Nat.le_refl _) (.head _) ha4 (fun _=>rfl)⟩
def bq (p0:Circ) (p1:(List Flt)) (p2:(List Pat)) (K:((List (List FailZ))×Nat)->Prop):Prop :=
 cN p0 p1 p2 (fun r1=>((neN r1 0)=true->K ([],r1))/\((neN r1 0)=false->an (α:=(List Rsp)) (fun k6=>av (S:=((List Rsp)×Nat)) (fun (v8,v9) nx11=>((ltN v9 p2.length)=true->∃ x12,p2[v9]?=some x12/\dK p0 x12 (fun r15=>(v8.length+([r15.1]:(List Rsp)).length)*48<=2 ^ 47/\v9+1<2 ^ 63/\nx11 ((v8++([r15.1]:(List Rsp))),(v9+1))))/\((ltN v9 p2.length)=false->k6 v8)) (([]:List Rsp),0)) (fun v4=>24*p1.length<=2 ^ 48/\p1.length<2 ^ 63/\an (α:=(List (List FailZ))) (fun k23=>av (S:=((List (List FailZ))×Nat)) (fun (v24,v25) nx26=>((ltN v25 p1.length)=true->∃ x27,p1[v25]?=some x27/\dw p0 x27 p2 v4 (fun r30=>v25<p1.length/\∃ x31,v24[v25]?=some x31/\v25+1<2 ^ 63/\nx26 ((v24.set v25 r30),(v25+1))))/\((ltN v25 p1.length)=false->k23 v24)) ((List.replicate p1.length ([]:(List FailZ))),0)) (fun v22=>p1.length=v22.length/\K (v22,0)))))
theorem eN {p0:Circ}{p1:(List Flt)}{p2:(List Pat)}{K:((List (List FailZ))×Nat)->Prop} (hm:bq p0 p1 p2 K) {h0:Heap} (hB:HasB vars h0):∃ r,K r/\CallD Tryz.prog NG 14 ⟨[aA p0,(ag 5 aC) p1,(ag 2 bZ) p2]⟩ h0 ((fun (r:((List (List FailZ))×Nat))=>Value.tuple ⟨[(ag 1 (ag 3 ar)) (r.1),i64 (r.2)]⟩) r) h0:=by
 unfold bq at hm
 refine fw Tryz.func14 hB (enc:=(fun (r:((List (List FailZ))×Nat))=>Value.tuple ⟨[(ag 1 (ag 3 ar)) (r.1),i64 (r.2)]⟩)) (fun r=>PureV.tup (aj.cons (dg (fun _=>aj.cons (dg (fun _=>mO _)) aj.nil)) (aj.cons (PureV.flat rfl) (aj.nil)))) fun O=>?_;conv=>whnf
 refine gX ?_
 refine fz ?_;refine gX ?_
 refine ca (lI hm O.has) fun r1 hm=>?_;refine gX ?_
 refine br hm (fun hm=>?_) fun hm=>?_
 ·refine gX ?_
  exact⟨([],r1),hm,O.ext,fun h2 F=>VLe.tup (LLe.cons (VLe.nil _ _) (LLe.cons (VLe.refl _ _) (LLe.nil _)))⟩
 ·apply Cs;conv=>whnf
  apply Cs;conv=>whnf
  apply Cs;refine gH ?_
  have O:=O.aG (.cells (flatC ((([]:List Rsp)).map cT)) false)
  refine jn (σ:=(List Rsp)×Option Nat) hm 63 [1,2,3] (fun s=>s.1) (fun (v4,a3) h=>(a3=none->v4=[])/\Own vars h0 [(a3,.cells (flatC (v4.map cT)) false)] h) (fun (v4,a3)=>[(9,(ah 2 a3 (v4.map cT)))]) (fun hm=>?_) ?_
  ·refine gX ?_
   refine lw 63 [1,2,3,25,26] (σ:=((List Rsp)×Nat)×Option Nat) (fun s=>s.1) (fun ((v8,v9),a7) h=>(a7=none->v8=[])/\Own vars h0 [(a7,.cells (flatC (v8.map cT)) false)] h) (fun ((v8,v9),a7)=>[(9,(ah 2 a7 (v8.map cT))),(27,(i64 v9))]) ((([]:List Rsp),0),none) hm ⟨(fun _=>rfl),O⟩ ?_
   clear hm;rintro⟨⟨v8,v9⟩,a7⟩ nx11 base h hm ⟨ha10,O⟩
   refine gX ?_
   refine br hm (fun hm=>?_) fun hm=>?_
   ·refine gX ?_
    refine atF hm fun x12 hx12 hm=>?_;refine gH ?_
    (first|refine O.new (ai (l:=[nS,nS]) rfl rfl rfl) fun g13 h O=>?_|refine O.bB (ai (l:=[nS,nS]) rfl rfl rfl) fun g13 h O=>?_);refine gH ?_
    refine O.stC 2 (.head _) [((ag 1 n8) x12.inp),((ag 1 n8) x12.state)] fun h O=>?_;refine gX ?_
    refine ldA (O.at (.head _)) ?_;refine gH ?_
    refine ca (lT hm O.has) fun r15 hm=>?_;refine gH ?_
    (first|refine O.new (ai (l:=[nS,nS]) rfl rfl rfl) fun g16 h O=>?_|refine O.bB (ai (l:=[nS,nS]) rfl rfl rfl) fun g16 h O=>?_);refine gH ?_
    refine O.stC 2 (.head _) [((ag 1 n8) r15.1.out),((ag 1 n8) r15.1.next)] fun h O=>?_;refine gX ?_
    refine ldA (O.at (.head _)) ?_;refine gH ?_
    refine fz ?_;refine gH ?_
    refine O.apL (enc:=cT) (l:=v8) (new:=([r15.1]:(List Rsp))) 2 (.tail _ (.tail _ (.head _))) ha10 hm fun a18 h ha19 O hm=>?_;refine gX ?_
    refine aF hm fun hm=>?_;refine gH ?_
    exact jx (((v8++([r15.1]:(List Rsp))),(v9+1)),a18) hm ⟨ha19,(O.sel [2] (by decide))⟩
   ·refine gX ?_
    exact jx (v8,a7) hm ⟨ha10,O⟩
  ·clear hm;rintro⟨v4,a3⟩ base h hm ⟨ha5,O⟩
   conv=>whnf
   apply Cs;conv=>whnf
   refine CodeS.AH O (.head _) ha5 (fun _=>rfl) (t:=9) rfl rfl fun h O=>?_;refine gX ?_
   refine O.mkL (enc:=fun _:Unit=>Value.slice none 0 0) 24 1 () hm fun g20 h O hm=>?_;refine gH ?_
   refine CodeS.xa (cs':=flatC ((List.replicate p1.length ([]:(List FailZ))).map (ag 3 ar))) O (.head _) (t2:=15) rfl rfl (CC ..) fun h O=>?_
   refine jn hm 63 [15] (fun s=>s) (fun v22 h=>Own vars h0 [(sC g20 (flatC (v22.map (ag 3 ar))))] h) (fun v22=>[]) (fun hm=>?_) ?_
   ·refine gX ?_
    refine lw 63 [2,3,9,15,46,47] (σ:=((List (List FailZ))×Nat)) (fun s=>s) (fun (v24,v25) h=>Own vars h0 [(sC g20 (flatC (v24.map (ag 3 ar))))] h) (fun (v24,v25)=>[(48,(i64 v25))]) ((List.replicate p1.length ([]:(List FailZ))),0) hm (O.sel [0] (by decide)) ?_
    clear hm;rintro⟨v24,v25⟩ nx26 base h hm O
    refine gX ?_
    refine br hm (fun hm=>?_) fun hm=>?_
    ·refine gX ?_
     refine atF hm fun x27 hx27 hm=>?_;refine gH ?_
     (first|refine O.new (ai (l:=[(n8 0),(i64 0),(i64 0),(n8 0),(i64 0)]) rfl rfl rfl) fun g28 h O=>?_|refine O.bB (ai (l:=[(n8 0),(i64 0),(i64 0),(n8 0),(i64 0)]) rfl rfl rfl) fun g28 h O=>?_);refine gH ?_
     refine O.stC 5 (.head _) [(n8 x27.model),(i64 x27.line.node),(z64 x27.line.pin),(n8 x27.value),(i64 x27.other)] fun h O=>?_;refine gX ?_
     refine ldA (O.at (.head _)) ?_;refine gH ?_
     refine ca (nM hm O.has) fun r30 hm=>?_;refine gH ?_
     refine ix 1 hm fun x31 hx31 hm=>?_;refine gH ?_
     refine O.stE 1 (.tail _ (.head _)) hx31 r30 fun h O=>?_;refine gX ?_
     refine aF hm fun hm=>?_;refine gH ?_
     exact jx ((v24.set v25 r30),(v25+1)) hm (O.sel [1] (by decide))
    ·refine gX ?_
     exact jx v24 hm O
   ·clear hm;rintro v22 base h hm O
    refine gX ?_
    obtain⟨hn32,hm⟩:=hm
    exact⟨(v22,0),hm,O.ext,fun h2 F=>VLe.tup (LLe.cons (O.fY F (Nat.le_refl _) (.head _) (fun _=>rfl) hn32) (LLe.cons (VLe.refl _ _) (LLe.nil _)))⟩
def dv (p0:Circ) (p1:Flt) (p2:(List Pat)) (K:((List FailZ)×Nat)->Prop):Prop :=
 bq p0 ([p1]:(List Flt)) p2 (fun r1=>((neN r1.2 0)=true->K ([],r1.2))/\((neN r1.2 0)=false->∃ x2,r1.1[0]?=some x2/\K (x2,0)))
theorem na {p0:Circ}{p1:Flt}{p2:(List Pat)}{K:((List FailZ)×Nat)->Prop} (hm:dv p0 p1 p2 K) {h0:Heap} (hB:HasB vars h0):∃ r,K r/\CallD Tryz.prog NG 15 ⟨[aA p0,aC p1,(ag 2 bZ) p2]⟩ h0 ((fun (r:((List FailZ)×Nat))=>Value.tuple ⟨[(ag 3 ar) (r.1),i64 (r.2)]⟩) r) h0:=by
 unfold dv at hm
 refine fw Tryz.func15 hB (enc:=(fun (r:((List FailZ)×Nat))=>Value.tuple ⟨[(ag 3 ar) (r.1),i64 (r.2)]⟩)) (fun r=>PureV.tup (aj.cons (dg (fun _=>mO _)) (aj.cons (PureV.flat rfl) (aj.nil)))) fun O=>?_;conv=>whnf
 refine gX ?_
 refine fz ?_;refine gH ?_
 refine fz ?_;refine gX ?_
 refine fz ?_;refine gH ?_
 refine ca (eN hm O.has) fun r1 hm=>?_;refine gX ?_
 refine br hm (fun hm=>?_) fun hm=>?_
 ·refine gX ?_
  exact⟨([],r1.2),hm,O.ext,fun h2 F=>VLe.tup (LLe.cons (VLe.nil _ _) (LLe.cons (VLe.refl _ _) (LLe.nil _)))⟩
 ·refine gX ?_
  refine atF hm fun x2 hx2 hm=>?_;refine gX ?_
  exact⟨(x2,0),hm,O.ext,fun h2 F=>VLe.tup (LLe.cons (VLe.refl _ _) (LLe.cons (VLe.refl _ _) (LLe.nil _)))⟩
def cO (p0:(List (List FailZ))) (p1:(List FailZ)) (K:(List Nat)->Prop):Prop :=
 an (α:=(List (FailZ×Bool))) (fun k4=>av (S:=((List (FailZ×Bool))×Nat)) (fun (v5,v6) nx7=>((ltN v6 p1.length)=true->∃ x8,p1[v6]?=some x8/\v6+1<2 ^ 63/\nx7 ((iA v5 x8 true),(v6+1)))/\((ltN v6 p1.length)=false->k4 v5)) (([]:List (FailZ×Bool)),0)) (fun v3=>an (α:=(List Nat)) (fun k15=>av (S:=((List Nat)×Nat)) (fun (v17,v18) nx20=>((ltN v18 p0.length)=true->an (α:=(List Nat)) (fun k24=>∃ x25,p0[v18]?=some x25/\an (α:=(List (FailZ×Bool))) (fun k30=>av (S:=((List (FailZ×Bool))×Nat)) (fun (v31,v32) nx34=>((ltN v32 x25.length)=true->∃ x35,x25[v32]?=some x35/\v32+1<2 ^ 63/\nx34 ((iA v31 x35 true),(v32+1)))/\((ltN v32 x25.length)=false->k30 v31)) (([]:List (FailZ×Bool)),0)) (fun v28=>mF v28 v3 (fun r38=>(r38=true->(v17.length+([v18]:(List Nat)).length)*8<=2 ^ 47/\k24 (v17++([v18]:(List Nat))))/\(r38=false->k24 v17)))) (fun v22=>v18+1<2 ^ 63/\nx20 (v22,(v18+1))))/\((ltN v18 p0.length)=false->k15 v17)) (([]:List Nat),0)) (fun v13=>K v13))
theorem lB {p0:(List (List FailZ))}{p1:(List FailZ)}{K:(List Nat)->Prop} (hm:cO p0 p1 K) {h0:Heap} (hB:HasB vars h0):∃ r,K r/\CallD Tryz.prog NG 12 ⟨[(ag 1 (ag 3 ar)) p0,(ag 3 ar) p1]⟩ h0 ((oz 1 i64) r) h0:=by
 unfold cO at hm
 refine fw Tryz.func12 hB (enc:=(oz 1 i64)) (fun r=>vU (fun _=>aj.cons (PureV.flat rfl) aj.nil)) fun O=>?_;conv=>whnf
 refine gX ?_
 refine fg Tryz.func22 ?_;refine gX ?_
 (first|refine O.new ((rfl:anew _ _ _=some (.map (bO ar Value.bool ([]:List (FailZ×Bool))),fun g=>.map (some g)))) fun g1 h O=>?_|refine O.bB ((rfl:anew _ _ _=some (.map (bO ar Value.bool ([]:List (FailZ×Bool))),fun g=>.map (some g)))) fun g1 h O=>?_);refine gH ?_
 refine jn hm 19 [3] (fun s=>s) (fun v3 h=>Own vars h0 [((some g1),.map (bO ar Value.bool v3))] h) (fun v3=>[]) (fun hm=>?_) ?_
 ·refine gX ?_
  refine lw 19 [3,9,10] (σ:=((List (FailZ×Bool))×Nat)) (fun s=>s) (fun (v5,v6) h=>Own vars h0 [((some g1),.map (bO ar Value.bool v5))] h) (fun (v5,v6)=>[(11,(i64 v6))]) (([]:List (FailZ×Bool)),0) hm O ?_
  clear hm;rintro⟨v5,v6⟩ nx7 base h hm O
  refine gX ?_
  refine br hm (fun hm=>?_) fun hm=>?_
  ·refine gX ?_
   refine atF hm fun x8 hx8 hm=>?_;refine gH ?_
   (first|refine O.new (ai (l:=[(i64 0),(.bool false),(i64 0)]) rfl rfl rfl) fun g9 h O=>?_|refine O.bB (ai (l:=[(i64 0),(.bool false),(i64 0)]) rfl rfl rfl) fun g9 h O=>?_);refine gH ?_
   refine O.stC 3 (.head _) [(z64 x8.test),(.bool x8.next),(z64 x8.index)] fun h O=>?_;refine gX ?_
   refine ldA (O.at (.head _)) ?_;refine gH ?_
   refine O.qk (ek:=ar) (ev:=Value.bool) (m:=v5) (k:=x8) (v:=true) (.tail _ (.head _)) rfl rfl (by kernel_rfl) (jH rfl) rfl rfl rfl fun h O=>?_;refine gX ?_
   refine aF hm fun hm=>?_;refine gH ?_
   exact jx ((iA v5 x8 true),(v6+1)) hm (O.sel [1] (by decide))
  ·refine gX ?_
   exact jx v5 hm O
 ·clear hm;rintro v3 base h hm O
  conv=>whnf
  apply Cs;conv=>whnf
  apply Cs;refine gH ?_
  apply Cs;conv=>whnf
  refine gH ?_
  apply Cs;conv=>whnf
  apply Cs;refine gH ?_
  have O:=O.aG (.cells (flatC ((([]:List Nat)).map i64)) false)
  refine jn (σ:=(List Nat)×Option Nat) hm 29 [] (fun s=>s.1) (fun (v13,a12) h=>(a12=none->v13=[])/\Own vars h0 [(a12,.cells (flatC (v13.map i64)) false)] h) (fun (v13,a12)=>[(6,(ah 1 a12 (v13.map i64)))]) (fun hm=>?_) ?_
  ·refine gX ?_
   refine lw 29 [5,11,12] (σ:=((List Nat)×Nat)×Option Nat) (fun s=>s.1) (fun ((v17,v18),a16) h=>(a16=none->v17=[])/\Own vars h0 [((some g1),.map (bO ar Value.bool v3)),(a16,.cells (flatC (v17.map i64)) false)] h) (fun ((v17,v18),a16)=>[(6,(ah 1 a16 (v17.map i64))),(13,(i64 v18))]) ((([]:List Nat),0),none) hm ⟨(fun _=>rfl),(O.sel [1,0] (by decide))⟩ ?_
   clear hm;rintro⟨⟨v17,v18⟩,a16⟩ nx20 base h hm ⟨ha19,O⟩
   refine gX ?_
   refine br hm (fun hm=>?_) fun hm=>?_
   ·apply Cs;conv=>whnf
    refine jn (σ:=(List Nat)×Option Nat) hm 29 [5,11,12,13] (fun s=>s.1) (fun (v22,a21) h=>(a21=none->v22=[])/\Own vars h0 [((some g1),.map (bO ar Value.bool v3)),(a21,.cells (flatC (v22.map i64)) false)] h) (fun (v22,a21)=>[(6,(ah 1 a21 (v22.map i64)))]) (fun hm=>?_) ?_
    ·refine gX ?_
     refine atF hm fun x25 hx25 hm=>?_;refine gX ?_
     refine fg Tryz.func22 ?_;refine gX ?_
     (first|refine O.new ((rfl:anew _ _ _=some (.map (bO ar Value.bool ([]:List (FailZ×Bool))),fun g=>.map (some g)))) fun g26 h O=>?_|refine O.bB ((rfl:anew _ _ _=some (.map (bO ar Value.bool ([]:List (FailZ×Bool))),fun g=>.map (some g)))) fun g26 h O=>?_);refine gH ?_
     refine jn hm 19 [3] (fun s=>s) (fun v28 h=>(a16=none->v17=[])/\Own vars h0 [((some g26),.map (bO ar Value.bool v28)),((some g1),.map (bO ar Value.bool v3)),(a16,.cells (flatC (v17.map i64)) false)] h) (fun v28=>[]) (fun hm=>?_) ?_
     ·refine gX ?_
      refine lw 19 [3,9,10] (σ:=((List (FailZ×Bool))×Nat)) (fun s=>s) (fun (v31,v32) h=>(a16=none->v17=[])/\Own vars h0 [((some g26),.map (bO ar Value.bool v31)),((some g1),.map (bO ar Value.bool v3)),(a16,.cells (flatC (v17.map i64)) false)] h) (fun (v31,v32)=>[(11,(i64 v32))]) (([]:List (FailZ×Bool)),0) hm ⟨ha19,O⟩ ?_
      clear hm;rintro⟨v31,v32⟩ nx34 base h hm ⟨ha33,O⟩
      refine gX ?_
      refine br hm (fun hm=>?_) fun hm=>?_
      ·refine gX ?_
       refine atF hm fun x35 hx35 hm=>?_;refine gH ?_
       (first|refine O.new (ai (l:=[(i64 0),(.bool false),(i64 0)]) rfl rfl rfl) fun g36 h O=>?_|refine O.bB (ai (l:=[(i64 0),(.bool false),(i64 0)]) rfl rfl rfl) fun g36 h O=>?_);refine gH ?_
       refine O.stC 3 (.head _) [(z64 x35.test),(.bool x35.next),(z64 x35.index)] fun h O=>?_;refine gX ?_
       refine ldA (O.at (.head _)) ?_;refine gH ?_
       refine O.qk (ek:=ar) (ev:=Value.bool) (m:=v31) (k:=x35) (v:=true) (.tail _ (.head _)) rfl rfl (by kernel_rfl) (jH rfl) rfl rfl rfl fun h O=>?_;refine gX ?_
       refine aF hm fun hm=>?_;refine gH ?_
       exact jx ((iA v31 x35 true),(v32+1)) hm ⟨ha33,(O.sel [1,2,3] (by decide))⟩
      ·refine gX ?_
       exact jx v31 hm ⟨ha33,O⟩
     ·clear hm;rintro v28 base h hm ⟨ha29,O⟩
      refine gX ?_
      obtain⟨r38,hm,hcall⟩:=tI hm O.has (O.at (.head _)) (O.at (.tail _ (.head _)))
      refine⟨_,_,hcall,?_⟩;refine gX ?_
      refine br hm (fun hm=>?_) fun hm=>?_
      ·refine gX ?_
       refine fz ?_;refine gH ?_
       refine O.apL (enc:=i64) (l:=v17) (new:=([v18]:(List Nat))) 1 (.tail _ (.tail _ (.head _))) ha29 hm fun a39 h ha40 O hm=>?_;refine gH ?_
       exact jx ((v17++([v18]:(List Nat))),a39) hm ⟨ha40,(O.sel [1,2] (by decide))⟩
      ·refine gX ?_
       exact jx (v17,a16) hm ⟨ha29,(O.sel [1,2] (by decide))⟩
    ·clear hm;rintro⟨v22,a21⟩ base h hm ⟨ha23,O⟩
     refine gX ?_
     refine aF hm fun hm=>?_;refine gH ?_
     exact jx ((v22,(v18+1)),a21) hm ⟨ha23,O⟩
   ·refine gX ?_
    exact jx (v17,a16) hm ⟨ha19,(O.sel [1] (by decide))⟩
  ·clear hm;rintro⟨v13,a12⟩ base h hm ⟨ha14,O⟩
   refine gX ?_
   refine fg Tryz.func28 ?_;refine gX ?_
   refine gK (s:=1) (enc:=i64) (l:=v13) (n:=v13.length) (m:=v13.length) rfl rfl rfl rfl rfl rfl rfl ?_;refine gX ?_
   exact⟨v13,hm,O.ext,fun h2 F=>O.Bb F (Nat.le_refl _) (.head _) ha14 (fun _=>rfl)⟩
def cz (p0:Circ) (p1:(List Nat)) (p2:FailZ) (K:((List Bool)×Bool)->Prop):Prop :=
 1*p0.nodes.length<=2 ^ 48/\p0.nodes.length<2 ^ 63/\an (α:=(List Bool)) (fun k4=>an (α:=Bool) (fun k6=>((ltI p2.test (Int.ofNat 0))=true->k6 true)/\((ltI p2.test (Int.ofNat 0))=false->((ltI p2.index (Int.ofNat 0))=true->k6 true)/\((ltI p2.index (Int.ofNat 0))=false->((!p2.next)=true->((!ltI p2.index (Int.ofNat p0.outs.length))=true->k6 true)/\((!ltI p2.index (Int.ofNat p0.outs.length))=false->(p2.next=true->k6 (!ltI p2.index (Int.ofNat p1.length)))/\(p2.next=false->k6 false)))/\((!p2.next)=false->(p2.next=true->k6 (!ltI p2.index (Int.ofNat p1.length)))/\(p2.next=false->k6 false))))) (fun v5=>(v5=true->K ([],false))/\(v5=false->(p2.next=true->∃ j8:Nat,p2.index=Int.ofNat j8/\∃ x7,p1[j8]?=some x7/\∃ x9,p0.nodes[x7]?=some x9/\∃ x10,x9.ins[0]?=some x10/\ec p0 x10 (List.replicate p0.nodes.length (false:Bool)) p0.nodes.length (fun x11=>x7<p0.nodes.length/\∃ x12,x11[x7]?=some x12/\k4 (x11.set x7 true)))/\(p2.next=false->∃ j14:Nat,p2.index=Int.ofNat j14/\∃ x13,p0.outs[j14]?=some x13/\ec p0 x13 (List.replicate p0.nodes.length (false:Bool)) p0.nodes.length (fun x15=>k4 x15))))) (fun v3=>p0.nodes.length=v3.length/\K (v3,true))
theorem kR {p0:Circ}{p1:(List Nat)}{p2:FailZ}{K:((List Bool)×Bool)->Prop} (hm:cz p0 p1 p2 K) {h0:Heap} (hB:HasB vars h0):∃ r,K r/\CallD Tryz.prog NG 44 ⟨[aA p0,(ag 1 i64) p1,ar p2]⟩ h0 ((fun (r:((List Bool)×Bool))=>Value.tuple ⟨[(ag 1 Value.bool) (r.1),Value.bool (r.2)]⟩) r) h0:=by
 unfold cz at hm
 refine fw Tryz.func44 hB (enc:=(fun (r:((List Bool)×Bool))=>Value.tuple ⟨[(ag 1 Value.bool) (r.1),Value.bool (r.2)]⟩)) (fun r=>PureV.tup (aj.cons (dg (fun _=>aj.cons (PureV.flat rfl) aj.nil)) (aj.cons (PureV.flat rfl) (aj.nil)))) fun O=>?_;conv=>whnf
 refine gX ?_
 refine fz ?_;refine gH ?_
 refine fz ?_;refine gX ?_
 refine O.mkL (enc:=Value.bool) 1 1 false hm fun g1 h O hm=>?_;refine gH ?_
 refine jn hm 79 [8] (fun s=>s) (fun v3 h=>Own vars h0 [(sC g1 (flatC (v3.map Value.bool)))] h) (fun v3=>[]) (fun hm=>?_) ?_
 ·apply Cs;conv=>whnf
  refine jn hm 79 [1,3,5,8] (fun s=>s) (fun v5 h=>Own vars h0 [(sC g1 (flatC ((List.replicate p0.nodes.length (false:Bool)).map Value.bool)))] h) (fun v5=>[(23,(.bool v5))]) (fun hm=>?_) ?_
  ·refine gX ?_
   refine br hm (fun hm=>?_) fun hm=>?_
   ·refine gX ?_
    refine bt ?_;refine gH ?_
    refine bt ?_;refine gH ?_
    exact jx true hm O
   ·refine gX ?_
    refine br hm (fun hm=>?_) fun hm=>?_
    ·refine gX ?_
     refine bt ?_;refine gH ?_
     exact jx true hm O
    ·refine gX ?_
     refine br hm (fun hm=>?_) fun hm=>?_
     ·refine gX ?_
      refine br hm (fun hm=>?_) fun hm=>?_
      ·refine gX ?_
       exact jx true hm O
      ·refine gX ?_
       refine br hm (fun hm=>?_) fun hm=>?_
       ·refine gX ?_
        exact jx (!ltI p2.index (Int.ofNat p1.length)) hm O
       ·refine gX ?_
        exact jx false hm O
     ·refine gX ?_
      refine bf ?_;refine gH ?_
      refine br hm (fun hm=>?_) fun hm=>?_
      ·refine gX ?_
       exact jx (!ltI p2.index (Int.ofNat p1.length)) hm O
      ·refine gX ?_
       exact jx false hm O
  ·clear hm;rintro v5 base h hm O
   refine gX ?_
   refine br hm (fun hm=>?_) fun hm=>?_
   ·refine gX ?_
    exact⟨([],false),hm,O.ext,fun h2 F=>VLe.tup (LLe.cons (VLe.nil _ _) (LLe.cons (VLe.refl _ _) (LLe.nil _)))⟩
   ·refine gX ?_
    refine br hm (fun hm=>?_) fun hm=>?_
    ·refine gX ?_
     obtain⟨j8,hz,x7,hx7,hm⟩:=hm
     refine sj (s:=1) (enc:=i64) (j:=j8) rfl rfl rfl (congrArg (Value.int .i64) hz) hx7 ?_;refine gX ?_
     refine dF ?_
     refine gX ?_
     refine dF ?_
     refine gX ?_
     refine atF hm fun x9 hx9 hm=>?_;refine gH ?_
     refine dF ?_
     refine gX ?_
     refine atF hm fun x10 hx10 hm=>?_;refine gH ?_
     obtain⟨_,h,hcall,x11,hm,rfl,O,_⟩:=il hm  O
     refine⟨_,_,hcall,?_⟩;refine gH ?_
     (first|refine⟨.inr (.inr (ae rfl (O.at (.head _)) rfl rfl)),?_⟩|refine⟨.inr (.inr (ae rfl (O.at (.tail _ (.head _))) rfl rfl)),?_⟩|refine⟨.inr (.inr (ae rfl (O.at (.tail _ (.tail _ (.head _)))) rfl rfl)),?_⟩|refine⟨.inr (.inr (ae rfl (O.at (.tail _ (.tail _ (.tail _ (.head _))))) rfl rfl)),?_⟩|refine⟨.inr (.inr (ae rfl (O.at (.tail _ (.tail _ (.tail _ (.tail _ (.head _)))))) rfl rfl)),?_⟩|refine⟨.inr (.inr (ae rfl (O.at (.tail _ (.tail _ (.tail _ (.tail _ (.tail _ (.head _))))))) rfl rfl)),?_⟩|refine⟨.inr (.inr (ae rfl (O.at (.tail _ (.tail _ (.tail _ (.tail _ (.tail _ (.tail _ (.head _)))))))) rfl rfl)),?_⟩|refine⟨.inl (Ext.refl _),?_⟩|refine⟨.inr (.inr rfl),?_⟩|refine⟨.inr (by kernel_rfl),?_⟩|refine⟨.inl (by kernel_rfl),?_⟩|refine id ?_);refine gH ?_
     refine gX ?_
     refine ix 1 hm fun x12 hx12 hm=>?_;refine gH ?_
     refine O.stE 1 (.head _) hx12 true fun h O=>?_;refine gH ?_
     exact jx (x11.set x7 true) hm O
    ·refine gX ?_
     refine dF ?_
     refine gX ?_
     refine dF ?_
     refine gX ?_
     obtain⟨j14,hz,x13,hx13,hm⟩:=hm
     refine sj (s:=1) (enc:=i64) (j:=j14) rfl rfl rfl (congrArg (Value.int .i64) hz) hx13 ?_;refine gH ?_
     obtain⟨_,h,hcall,x15,hm,rfl,O,_⟩:=il hm  O
     refine⟨_,_,hcall,?_⟩;refine gH ?_
     (first|refine⟨.inr (.inr (ae rfl (O.at (.head _)) rfl rfl)),?_⟩|refine⟨.inr (.inr (ae rfl (O.at (.tail _ (.head _))) rfl rfl)),?_⟩|refine⟨.inr (.inr (ae rfl (O.at (.tail _ (.tail _ (.head _)))) rfl rfl)),?_⟩|refine⟨.inr (.inr (ae rfl (O.at (.tail _ (.tail _ (.tail _ (.head _))))) rfl rfl)),?_⟩|refine⟨.inr (.inr (ae rfl (O.at (.tail _ (.tail _ (.tail _ (.tail _ (.head _)))))) rfl rfl)),?_⟩|refine⟨.inr (.inr (ae rfl (O.at (.tail _ (.tail _ (.tail _ (.tail _ (.tail _ (.head _))))))) rfl rfl)),?_⟩|refine⟨.inr (.inr (ae rfl (O.at (.tail _ (.tail _ (.tail _ (.tail _ (.tail _ (.tail _ (.head _)))))))) rfl rfl)),?_⟩|refine⟨.inl (Ext.refl _),?_⟩|refine⟨.inr (.inr rfl),?_⟩|refine⟨.inr (by kernel_rfl),?_⟩|refine⟨.inl (by kernel_rfl),?_⟩|refine id ?_);refine gH ?_
     exact jx x15 hm O
 ·clear hm;rintro v3 base h hm O
  refine gX ?_
  obtain⟨hn16,hm⟩:=hm
  exact⟨(v3,true),hm,O.ext,fun h2 F=>VLe.tup (LLe.cons (O.fY F (Nat.le_refl _) (.head _) (fun _=>rfl) hn16) (LLe.cons (VLe.refl _ _) (LLe.nil _)))⟩
def ck (p0:Circ) (p1:(List FailZ)) (K:((List Nat)×Nat)->Prop):Prop :=
 cJ p0 (fun r1=>((neN r1.2 0)=true->K ([],r1.2))/\((neN r1.2 0)=false->eQ ([true]:(List Bool)) p0.nodes.length (fun r2=>aH p0 (fun r7=>an (α:=(List Bool)) (fun k11=>av (S:=((List Bool)×Nat)) (fun (v13,v14) nx16=>((ltN v14 p1.length)=true->an (α:=(List Bool)) (fun k20=>∃ x21,p1[v14]?=some x21/\cz p0 r7 x21 (fun r24=>((!r24.2)=true->K ([],1))/\((!r24.2)=false->av (S:=((List Bool)×Nat)) (fun (v26,v27) nx29=>((ltN v27 v13.length)=true->an (α:=(List Bool)) (fun k33=>∃ x34,v26[v27]?=some x34/\(x34=true->∃ x36,r24.1[v27]?=some x36/\∃ x37,v26[v27]?=some x37/\k33 (v26.set v27 x36))/\(x34=false->∃ x38,v26[v27]?=some x38/\k33 (v26.set v27 false))) (fun v31=>v27+1<2 ^ 63/\nx29 (v31,(v27+1))))/\((ltN v27 v13.length)=false->k20 v26)) (v13,0)))) (fun v18=>v14+1<2 ^ 63/\nx16 (v18,(v14+1))))/\((ltN v14 p1.length)=false->k11 v13)) (r2,0)) (fun v9=>an (α:=(List Nat)) (fun k43=>av (S:=((List Nat)×Nat)) (fun (v45,v47) nx50=>((ltN v47 v9.length)=true->an (α:=(List Nat)) (fun k56=>∃ x57,v9[v47]?=some x57/\(x57=true->(v45.length+([v47]:(List Nat)).length)*8<=2 ^ 47/\k56 (v45++([v47]:(List Nat))))/\(x57=false->k56 v45)) (fun v52=>v47+1<2 ^ 63/\nx50 (v52,(v47+1))))/\((ltN v47 v9.length)=false->k43 v45)) (([]:List Nat),0)) (fun v41=>K (v41,0)))))))
theorem iw {p0:Circ}{p1:(List FailZ)}{K:((List Nat)×Nat)->Prop} (hm:ck p0 p1 K) {h0:Heap} (hB:HasB vars h0):∃ r,K r/\CallD Tryz.prog NG 19 ⟨[aA p0,(ag 3 ar) p1]⟩ h0 ((fun (r:((List Nat)×Nat))=>Value.tuple ⟨[(oz 1 i64) (r.1),i64 (r.2)]⟩) r) h0:=by
 unfold ck at hm
 refine fw Tryz.func19 hB (enc:=(fun (r:((List Nat)×Nat))=>Value.tuple ⟨[(oz 1 i64) (r.1),i64 (r.2)]⟩)) (fun r=>PureV.tup (aj.cons (vU (fun _=>aj.cons (PureV.flat rfl) aj.nil)) (aj.cons (PureV.flat rfl) (aj.nil)))) fun O=>?_;conv=>whnf
 refine gX ?_
 refine fz ?_;refine gX ?_
 refine ca (iO hm O.has) fun r1 hm=>?_;refine gX ?_
 refine br hm (fun hm=>?_) fun hm=>?_
 ·refine gX ?_
  exact⟨([],r1.2),hm,O.ext,fun h2 F=>VLe.tup (LLe.cons (VLe.BY _ _ _) (LLe.cons (VLe.refl _ _) (LLe.nil _)))⟩
 ·refine gX ?_
  refine fz ?_;refine gH ?_
  refine caO (oE hm O.has) O fun r2 a3 h hx ha5 hn6 O hm=>?_;refine gX ?_
  refine ca (aR hm O.has) fun r7 hm=>?_;refine gH ?_
  refine jn (σ:=(List Bool)×Option Nat) hm 83 [] (fun s=>s.1) (fun (v9,a8) h=>(a8=none->v9=[])/\Own vars h0 [(a8,.cells (flatC (v9.map Value.bool)) false)] h) (fun (v9,a8)=>[(8,(bN a8 (v9.map Value.bool)))]) (fun hm=>?_) ?_
  ·refine gX ?_
   refine lw 83 [2,9,33,34] (σ:=((List Bool)×Nat)×Option Nat) (fun s=>s.1) (fun ((v13,v14),a12) h=>(a12=none->v13=[])/\Own vars h0 [(a12,.cells (flatC (v13.map Value.bool)) false)] h) (fun ((v13,v14),a12)=>[(8,(bN a12 (v13.map Value.bool))),(35,(i64 v14))]) ((r2,0),a3) hm ⟨ha5,O⟩ ?_
   clear hm;rintro⟨⟨v13,v14⟩,a12⟩ nx16 base h hm ⟨ha15,O⟩
   refine gX ?_
   refine br hm (fun hm=>?_) fun hm=>?_
   ·apply Cs;conv=>whnf
    refine jn (σ:=(List Bool)×Option Nat) hm 83 [2,9,33,34,35] (fun s=>s.1) (fun (v18,a17) h=>(a17=none->v18=[])/\Own vars h0 [(a17,.cells (flatC (v18.map Value.bool)) false)] h) (fun (v18,a17)=>[(8,(bN a17 (v18.map Value.bool)))]) (fun hm=>?_) ?_
    ·refine gX ?_
     refine atF hm fun x21 hx21 hm=>?_;refine gH ?_
     (first|refine O.new (ai (l:=[(i64 0),(.bool false),(i64 0)]) rfl rfl rfl) fun g22 h O=>?_|refine O.bB (ai (l:=[(i64 0),(.bool false),(i64 0)]) rfl rfl rfl) fun g22 h O=>?_);refine gH ?_
     refine O.stC 3 (.head _) [(z64 x21.test),(.bool x21.next),(z64 x21.index)] fun h O=>?_;refine gX ?_
     refine ldA (O.at (.head _)) ?_;refine gH ?_
     refine ca (kR hm O.has) fun r24 hm=>?_;refine gX ?_
     refine br hm (fun hm=>?_) fun hm=>?_
     ·refine gX ?_
      exact⟨([],1),hm,O.ext,fun h2 F=>VLe.tup (LLe.cons (VLe.BY _ _ _) (LLe.cons (VLe.refl _ _) (LLe.nil _)))⟩
     ·refine gX ?_
      refine lw 83 [2,9,12,33,34,35,49] (σ:=((List Bool)×Nat)×Option Nat) (fun s=>s.1) (fun ((v26,v27),a25) h=>(a25=none->v26=[])/\Own vars h0 [(a25,.cells (flatC (v26.map Value.bool)) false)] h) (fun ((v26,v27),a25)=>[(8,(bN a25 (v26.map Value.bool))),(50,(i64 v27))]) ((v13,0),a12) hm ⟨ha15,(O.sel [1] (by decide))⟩ ?_
      clear hm;rintro⟨⟨v26,v27⟩,a25⟩ nx29 base h hm ⟨ha28,O⟩
      refine gX ?_
      refine br hm (fun hm=>?_) fun hm=>?_
      ·apply Cs;conv=>whnf
       refine jn (σ:=(List Bool)×Option Nat) hm 83 [2,9,12,33,34,35,49,50] (fun s=>s.1) (fun (v31,a30) h=>(a30=none->v31=[])/\Own vars h0 [(a30,.cells (flatC (v31.map Value.bool)) false)] h) (fun (v31,a30)=>[(8,(bN a30 (v31.map Value.bool)))]) (fun hm=>?_) ?_
       ·refine gX ?_
        obtain⟨x34,hx34,hm⟩:=hm
        have h9:=hm
        obtain⟨g35,rfl⟩:=ee ha28 hx34
        replace hm:=h9
        refine cU (s:=1) (j:=v27) rfl rfl rfl rfl (by rw[List.length_map];exact ak hx34) ?_;refine gH ?_
        refine ldE (s:=1) (i:=0) (O.at (.head _)) hx34 ?_;refine gH ?_
        refine br hm (fun hm=>?_) fun hm=>?_
        ·refine gX ?_
         refine atF hm fun x36 hx36 hm=>?_;refine gH ?_
         obtain⟨x37,hx37,hm⟩:=hm
         refine cU (s:=1) (j:=v27) rfl rfl rfl rfl (by rw[List.length_map];exact ak hx37) ?_;refine gH ?_
         refine O.stE 1 (.head _) hx37 x36 fun h O=>?_;refine gH ?_
         try rw[ln (enc:=Value.bool) (l:=v26) (j:=v27) (x:=x36)] at O
         exact⟨((v26.set v27 x36),(some g35)),hm,⟨dq,O⟩,VLe.refl _ _,VLe.refl _ _,VLe.refl _ _,VLe.refl _ _,VLe.refl _ _,VLe.refl _ _,VLe.refl _ _,VLe.refl _ _,(by first|exact VLe.refl _ _|exact VLe.xw rfl (by simp)),trivial⟩
        ·refine gX ?_
         obtain⟨x38,hx38,hm⟩:=hm
         refine cU (s:=1) (j:=v27) rfl rfl rfl rfl (by rw[List.length_map];exact ak hx38) ?_;refine gH ?_
         refine O.stE 1 (.head _) hx38 false fun h O=>?_;refine gH ?_
         try rw[ln (enc:=Value.bool) (l:=v26) (j:=v27) (x:=false)] at O
         exact⟨((v26.set v27 false),(some g35)),hm,⟨dq,O⟩,VLe.refl _ _,VLe.refl _ _,VLe.refl _ _,VLe.refl _ _,VLe.refl _ _,VLe.refl _ _,VLe.refl _ _,VLe.refl _ _,(by first|exact VLe.refl _ _|exact VLe.xw rfl (by simp)),trivial⟩
       ·clear hm;rintro⟨v31,a30⟩ base h hm ⟨ha32,O⟩
        refine gX ?_
        refine aF hm fun hm=>?_;refine gH ?_
        exact jx ((v31,(v27+1)),a30) hm ⟨ha32,O⟩
      ·refine gX ?_
       exact jx (v26,a25) hm ⟨ha28,O⟩
    ·clear hm;rintro⟨v18,a17⟩ base h hm ⟨ha19,O⟩
     refine gX ?_
     refine aF hm fun hm=>?_;refine gH ?_
     exact jx ((v18,(v14+1)),a17) hm ⟨ha19,O⟩
   ·refine gX ?_
    exact jx (v13,a12) hm ⟨ha15,O⟩
  ·clear hm;rintro⟨v9,a8⟩ base h hm ⟨ha10,O⟩
   conv=>whnf
   apply Cs;conv=>whnf
   apply Cs;refine gH ?_
   have O:=O.aG (.cells (flatC ((([]:List Nat)).map i64)) false)
   refine jn (σ:=(List Nat)×Option Nat) hm 83 [] (fun s=>s.1) (fun (v41,a40) h=>(a40=none->v41=[])/\Own vars h0 [(a40,.cells (flatC (v41.map i64)) false)] h) (fun (v41,a40)=>[(15,(ah 1 a40 (v41.map i64)))]) (fun hm=>?_) ?_
   ·refine gX ?_
    refine lw 83 [69] (σ:=((List Nat)×Nat)×(Option Nat×Option Nat)) (fun s=>s.1) (fun ((v45,v47),(a44,a46)) h=>(a44=none->v45=[])/\(a46=none->v9=[])/\Own vars h0 [(a44,.cells (flatC (v45.map i64)) false),(a46,.cells (flatC (v9.map Value.bool)) false)] h) (fun ((v45,v47),(a44,a46))=>[(15,(ah 1 a44 (v45.map i64))),(68,(bN a46 (v9.map Value.bool))),(70,(i64 v47))]) ((([]:List Nat),0),(none,a8)) hm ⟨(fun _=>rfl),ha10,O⟩ ?_
    clear hm;rintro⟨⟨v45,v47⟩,⟨a44,a46⟩⟩ nx50 base h hm ⟨ha48,ha49,O⟩
    refine gX ?_
    refine br hm (fun hm=>?_) fun hm=>?_
    ·apply Cs;conv=>whnf
     refine jn (σ:=(List Nat)×(Option Nat×Option Nat)) hm 83 [69,70] (fun s=>s.1) (fun (v52,(a51,a53)) h=>(a51=none->v52=[])/\(a53=none->v9=[])/\Own vars h0 [(a51,.cells (flatC (v52.map i64)) false),(a53,.cells (flatC (v9.map Value.bool)) false)] h) (fun (v52,(a51,a53))=>[(15,(ah 1 a51 (v52.map i64))),(68,(bN a53 (v9.map Value.bool)))]) (fun hm=>?_) ?_
     ·refine gX ?_
      obtain⟨x57,hx57,hm⟩:=hm
      have h9:=hm
      obtain⟨g58,rfl⟩:=ee ha49 hx57
      replace hm:=h9
      refine cU (s:=1) (j:=v47) rfl rfl rfl rfl (by rw[List.length_map];exact ak hx57) ?_;refine gH ?_
      refine ldE (s:=1) (i:=0) (O.at (.tail _ (.head _))) hx57 ?_;refine gX ?_
      refine br hm (fun hm=>?_) fun hm=>?_
      ·refine gX ?_
       refine fz ?_;refine gH ?_
       refine O.apL (enc:=i64) (l:=v45) (new:=([v47]:(List Nat))) 1 (.head _) ha48 hm fun a59 h ha60 O hm=>?_;refine gH ?_
       exact jx ((v45++([v47]:(List Nat))),(a59,(some g58))) hm ⟨ha60,dq,O⟩
      ·refine gX ?_
       exact jx (v45,(a44,(some g58))) hm ⟨ha48,dq,O⟩
     ·clear hm;rintro⟨v52,⟨a51,a53⟩⟩ base h hm ⟨ha54,ha55,O⟩
      refine gX ?_
      refine aF hm fun hm=>?_;refine gH ?_
      exact jx ((v52,(v47+1)),(a51,a53)) hm ⟨ha54,ha55,O⟩
    ·refine gX ?_
     exact jx (v45,a44) hm ⟨ha48,(O.sel [0] (by decide))⟩
   ·clear hm;rintro⟨v41,a40⟩ base h hm ⟨ha42,O⟩
    refine gX ?_
    refine fg Tryz.func28 ?_;refine gX ?_
    refine gK (s:=1) (enc:=i64) (l:=v41) (n:=v41.length) (m:=v41.length) rfl rfl rfl rfl rfl rfl rfl ?_;refine gX ?_
    exact⟨(v41,0),hm,O.ext,fun h2 F=>VLe.tup (LLe.cons (O.Bb F (Nat.le_refl _) (.head _) ha42 (fun _=>rfl)) (LLe.cons (VLe.refl _ _) (LLe.nil _)))⟩
def bh  (K:Bool->Prop):Prop :=
 bq (⟨([(⟨0,([]:(List Nat)),0,0⟩:Node),(⟨0,([]:(List Nat)),0,0⟩:Node),(⟨5,([0,1]:(List Nat)),0,0⟩:Node)]:(List Node)),([(⟨#[97]⟩:ByteArray),(⟨#[98]⟩:ByteArray),(⟨#[121]⟩:ByteArray)]:(List ByteArray)),([]:(List Memo)),([2]:(List Nat))⟩:Circ) ([(⟨0,(⟨0,(Int.negSucc 0)⟩:LnZ),0,0⟩:Flt),(⟨0,(⟨0,(Int.negSucc 0)⟩:LnZ),1,0⟩:Flt),(⟨0,(⟨2,(Int.negSucc 0)⟩:LnZ),1,0⟩:Flt)]:(List Flt)) ([(⟨([1,1]:(List Nat)),([]:(List Nat))⟩:Pat),(⟨([0,1]:(List Nat)),([]:(List Nat))⟩:Pat),(⟨([0,0]:(List Nat)),([]:(List Nat))⟩:Pat)]:(List Pat)) (fun r3=>an (α:=Bool) (fun k5=>((neN r3.2 0)=true->k5 true)/\((neN r3.2 0)=false->((neN r3.1.length 3)=true->k5 true)/\((neN r3.1.length 3)=false->∃ x6,r3.1[0]?=some x6/\((neN x6.length 1)=true->k5 true)/\((neN x6.length 1)=false->∃ x7,r3.1[1]?=some x7/\((neN x7.length 1)=true->k5 true)/\((neN x7.length 1)=false->∃ x8,r3.1[2]?=some x8/\k5 (neN x8.length 2)))))) (fun v4=>(v4=true->K false)/\(v4=false->∃ x9,r3.1[1]?=some x9/\fA r3.1 x9 (fun r10=>∃ x11,r3.1[1]?=some x11/\cO r3.1 x11 (fun r12=>∃ x13,r3.1[1]?=some x13/\ck (⟨([(⟨0,([]:(List Nat)),0,0⟩:Node),(⟨0,([]:(List Nat)),0,0⟩:Node),(⟨5,([0,1]:(List Nat)),0,0⟩:Node)]:(List Node)),([(⟨#[97]⟩:ByteArray),(⟨#[98]⟩:ByteArray),(⟨#[121]⟩:ByteArray)]:(List ByteArray)),([]:(List Memo)),([2]:(List Nat))⟩:Circ) x13 (fun r14=>((eqN r14.2 0)=true->((eqN r10.length 3)=true->((eqN r12.length 1)=true->((eqN r14.1.length 3)=true->∃ x15,r12[0]?=some x15/\((eqN x15 1)=true->∃ x16,r3.1[2]?=some x16/\∃ x17,x16[1]?=some x17/\(((eqZ x17.test (Int.ofNat 2))&&((x17.next==false)&&((eqZ x17.index (Int.ofNat 0))&&true)))=true->∃ x18,r10[0]?=some x18/\(((eqN x18.fault 1)&&((eqN x18.both 1)&&((eqN x18.missed 0)&&((eqN x18.extra 0)&&true))))=true->∃ x19,r10[1]?=some x19/\(((eqN x19.fault 2)&&((eqN x19.both 1)&&((eqN x19.missed 0)&&((eqN x19.extra 1)&&true))))=true->∃ x20,r10[2]?=some x20/\K ((eqN x20.fault 0)&&((eqN x20.both 0)&&((eqN x20.missed 1)&&((eqN x20.extra 1)&&true)))))/\(((eqN x19.fault 2)&&((eqN x19.both 1)&&((eqN x19.missed 0)&&((eqN x19.extra 1)&&true))))=false->K false))/\(((eqN x18.fault 1)&&((eqN x18.both 1)&&((eqN x18.missed 0)&&((eqN x18.extra 0)&&true))))=false->K false))/\(((eqZ x17.test (Int.ofNat 2))&&((x17.next==false)&&((eqZ x17.index (Int.ofNat 0))&&true)))=false->K false))/\((eqN x15 1)=false->K false))/\((eqN r14.1.length 3)=false->K false))/\((eqN r12.length 1)=false->K false))/\((eqN r10.length 3)=false->K false))/\((eqN r14.2 0)=false->K false)))))))
theorem eA  {K:Bool->Prop} (hm:bh  K) {h0:Heap} (hB:HasB vars h0):∃ r,K r/\CallD Tryz.prog NG 9 ⟨[]⟩ h0 (Value.bool r) h0:=by
 unfold bh at hm
 refine fw Tryz.func9 hB (enc:=Value.bool) (fun r=>PureV.flat rfl) fun O=>?_;conv=>whnf
 refine gX ?_
 refine fz ?_;refine gH ?_
 refine NewG.frzW rfl (VLe.els (s:=4) (es':=([(⟨0,([]:(List Nat)),0,0⟩:Node),(⟨0,([]:(List Nat)),0,0⟩:Node),(⟨5,([0,1]:(List Nat)),0,0⟩:Node)]).map al) rfl (cb (enc:=al) (s:=4) (fun _=>rfl) _) (LLe.cons (VLe.refl _ _) (LLe.cons (VLe.nil _ _) (LLe.cons (VLe.refl _ _) (LLe.cons (VLe.refl _ _) (LLe.cons (VLe.refl _ _) (LLe.cons (VLe.nil _ _) (LLe.cons (VLe.refl _ _) (LLe.cons (VLe.refl _ _) (LLe.cons (VLe.refl _ _) (LLe.cons (VLe.refl _ _) (LLe.cons (VLe.refl _ _) (LLe.cons (VLe.refl _ _) (LLe.nil _)))))))))))))) ?_;refine gH ?_
 refine fz ?_;refine gH ?_
 refine fz ?_;refine gH ?_
 (first|refine O.new (ai (l:=[nS,nS,nS,nS]) rfl rfl rfl) fun g1 h O=>?_|refine O.bB (ai (l:=[nS,nS,nS,nS]) rfl rfl rfl) fun g1 h O=>?_);refine gH ?_
 refine O.stC 4 (.head _) [((ag 4 al) ([(⟨0,([]:(List Nat)),0,0⟩:Node),(⟨0,([]:(List Nat)),0,0⟩:Node),(⟨5,([0,1]:(List Nat)),0,0⟩:Node)]:(List Node))),((ag 1 Value.string) ([(⟨#[97]⟩:ByteArray),(⟨#[98]⟩:ByteArray),(⟨#[121]⟩:ByteArray)]:(List ByteArray))),nS,((ag 1 i64) ([2]:(List Nat)))] fun h O=>?_;refine gX ?_
 refine fz ?_;refine gX ?_
 refine fz ?_;refine gH ?_
 refine fz ?_;refine gH ?_
 refine fz ?_;refine gH ?_
 refine NewG.frzW rfl (VLe.els (s:=2) (es':=([(⟨([1,1]:(List Nat)),([]:(List Nat))⟩:Pat),(⟨([0,1]:(List Nat)),([]:(List Nat))⟩:Pat),(⟨([0,0]:(List Nat)),([]:(List Nat))⟩:Pat)]).map bZ) rfl (cb (enc:=bZ) (s:=2) (fun _=>rfl) _) (LLe.cons (VLe.refl _ _) (LLe.cons (VLe.nil _ _) (LLe.cons (VLe.refl _ _) (LLe.cons (VLe.nil _ _) (LLe.cons (VLe.refl _ _) (LLe.cons (VLe.nil _ _) (LLe.nil _)))))))) ?_;refine gX ?_
 refine ldA (O.at (.head _)) ?_;refine gH ?_
 refine caW (eN hm O.has) (LLe.cons (VLe.agg (LLe.cons (VLe.refl _ _) (LLe.cons (VLe.refl _ _) (LLe.cons (VLe.nil _ _) (LLe.cons (VLe.refl _ _) (LLe.nil _)))))) (LLe.cons (VLe.refl _ _) (LLe.cons (VLe.refl _ _) (LLe.nil _)))) fun r3 hm=>?_;refine gH ?_
 apply Cs;conv=>whnf
 refine jn hm 138 [1,4] (fun s=>s) (fun v4 h=>Own vars h0 [(sC g1 [((ag 4 al) ([(⟨0,([]:(List Nat)),0,0⟩:Node),(⟨0,([]:(List Nat)),0,0⟩:Node),(⟨5,([0,1]:(List Nat)),0,0⟩:Node)]:(List Node))),((ag 1 Value.string) ([(⟨#[97]⟩:ByteArray),(⟨#[98]⟩:ByteArray),(⟨#[121]⟩:ByteArray)]:(List ByteArray))),nS,((ag 1 i64) ([2]:(List Nat)))])] h) (fun v4=>[(66,(.bool v4))]) (fun hm=>?_) ?_
 ·refine gX ?_
  refine br hm (fun hm=>?_) fun hm=>?_
  ·refine gX ?_
   refine bt ?_;refine gH ?_
   refine bt ?_;refine gH ?_
   refine bt ?_;refine gH ?_
   exact jx true hm O
  ·refine gX ?_
   refine br hm (fun hm=>?_) fun hm=>?_
   ·refine gX ?_
    refine bt ?_;refine gH ?_
    refine bt ?_;refine gH ?_
    exact jx true hm O
   ·refine gX ?_
    refine atF hm fun x6 hx6 hm=>?_;refine gH ?_
    refine br hm (fun hm=>?_) fun hm=>?_
    ·refine gX ?_
     refine bt ?_;refine gH ?_
     exact jx true hm O
    ·refine gX ?_
     refine atF hm fun x7 hx7 hm=>?_;refine gH ?_
     refine br hm (fun hm=>?_) fun hm=>?_
     ·refine gX ?_
      exact jx true hm O
     ·refine gX ?_
      refine atF hm fun x8 hx8 hm=>?_;refine gH ?_
      exact jx (neN x8.length 2) hm O
 ·clear hm;rintro v4 base h hm O
  refine gX ?_
  refine br hm (fun hm=>?_) fun hm=>?_
  ·refine gX ?_
   exact fe hm O
  ·refine gX ?_
   refine atF hm fun x9 hx9 hm=>?_;refine gH ?_
   refine ca (lC hm O.has) fun r10 hm=>?_;refine gX ?_
   refine atF hm fun x11 hx11 hm=>?_;refine gH ?_
   refine ca (lB hm O.has) fun r12 hm=>?_;refine gX ?_
   refine ldA (O.at (.head _)) ?_;refine gH ?_
   first|refine⟨.inr (.inr (bg rfl (O.at (.head _)) rfl rfl (lbE rfl) rfl)),?_⟩|refine⟨.inr (.inl (by kernel_rfl)),?_⟩
   refine gX ?_
   refine atF hm fun x13 hx13 hm=>?_;refine gH ?_
   refine dF ?_
   refine gX ?_
   refine caW (iw hm O.has) (LLe.cons (VLe.agg (LLe.cons (VLe.refl _ _) (LLe.cons (VLe.refl _ _) (LLe.cons (VLe.nil _ _) (LLe.cons (VLe.refl _ _) (LLe.nil _)))))) (LLe.cons (VLe.refl _ _) (LLe.nil _))) fun r14 hm=>?_;refine gH ?_
   (first|refine⟨.inr (.inr (ae rfl (O.at (.head _)) rfl rfl)),?_⟩|refine⟨.inr (.inr (ae rfl (O.at (.tail _ (.head _))) rfl rfl)),?_⟩|refine⟨.inr (.inr (ae rfl (O.at (.tail _ (.tail _ (.head _)))) rfl rfl)),?_⟩|refine⟨.inr (.inr (ae rfl (O.at (.tail _ (.tail _ (.tail _ (.head _))))) rfl rfl)),?_⟩|refine⟨.inr (.inr (ae rfl (O.at (.tail _ (.tail _ (.tail _ (.tail _ (.head _)))))) rfl rfl)),?_⟩|refine⟨.inr (.inr (ae rfl (O.at (.tail _ (.tail _ (.tail _ (.tail _ (.tail _ (.head _))))))) rfl rfl)),?_⟩|refine⟨.inr (.inr (ae rfl (O.at (.tail _ (.tail _ (.tail _ (.tail _ (.tail _ (.tail _ (.head _)))))))) rfl rfl)),?_⟩|refine⟨.inl (Ext.refl _),?_⟩|refine⟨.inr (.inr rfl),?_⟩|refine⟨.inr (by kernel_rfl),?_⟩|refine⟨.inl (by kernel_rfl),?_⟩|refine id ?_);refine gH ?_
   refine gX ?_
   refine br hm (fun hm=>?_) fun hm=>?_
   ·refine gX ?_
    refine lmC ?_;refine gH ?_
    refine br hm (fun hm=>?_) fun hm=>?_
    ·refine gX ?_
     refine lmC ?_;refine gH ?_
     refine br hm (fun hm=>?_) fun hm=>?_
     ·refine gX ?_
      refine lmC ?_;refine gH ?_
      refine br hm (fun hm=>?_) fun hm=>?_
      ·refine gX ?_
       refine atC hm fun x15 hx15 hm=>?_;refine gH ?_
       refine br hm (fun hm=>?_) fun hm=>?_
       ·refine gX ?_
        refine atF hm fun x16 hx16 hm=>?_;refine gH ?_
        refine atF hm fun x17 hx17 hm=>?_;refine gH ?_
        refine⟨.bool ((eqZ x17.test (Int.ofNat 2))&&((x17.next==false)&&((eqZ x17.index (Int.ofNat 0))&&true))),by kernel_rfl,?_⟩;refine gH ?_
        refine br hm (fun hm=>?_) fun hm=>?_
        ·refine gX ?_
         refine atC hm fun x18 hx18 hm=>?_;refine gH ?_
         refine⟨.bool ((eqN x18.fault 1)&&((eqN x18.both 1)&&((eqN x18.missed 0)&&((eqN x18.extra 0)&&true)))),by kernel_rfl,?_⟩;refine gH ?_
         refine br hm (fun hm=>?_) fun hm=>?_
         ·refine gX ?_
          refine atC hm fun x19 hx19 hm=>?_;refine gH ?_
          refine⟨.bool ((eqN x19.fault 2)&&((eqN x19.both 1)&&((eqN x19.missed 0)&&((eqN x19.extra 1)&&true)))),by kernel_rfl,?_⟩;refine gH ?_
          refine br hm (fun hm=>?_) fun hm=>?_
          ·refine gX ?_
           refine atC hm fun x20 hx20 hm=>?_;refine gH ?_
           refine⟨.bool ((eqN x20.fault 0)&&((eqN x20.both 0)&&((eqN x20.missed 1)&&((eqN x20.extra 1)&&true)))),by kernel_rfl,?_⟩;refine gX ?_
           exact fe hm O
          ·refine gX ?_
           exact fe hm O
         ·refine gX ?_
          refine bf ?_;refine gX ?_
          exact fe hm O
        ·refine gX ?_
         refine bf ?_;refine gH ?_
         refine bf ?_;refine gX ?_
         exact fe hm O
       ·refine gX ?_
        refine bf ?_;refine gH ?_
        refine bf ?_;refine gH ?_
        refine bf ?_;refine gX ?_
        exact fe hm O
      ·refine gX ?_
       refine bf ?_;refine gH ?_
       refine bf ?_;refine gH ?_
       refine bf ?_;refine gH ?_
       refine bf ?_;refine gX ?_
       exact fe hm O
     ·refine gX ?_
      refine bf ?_;refine gH ?_
      refine bf ?_;refine gH ?_
      refine bf ?_;refine gH ?_
      refine bf ?_;refine gH ?_
      refine bf ?_;refine gX ?_
      exact fe hm O
    ·refine gX ?_
     refine bf ?_;refine gH ?_
     refine bf ?_;refine gH ?_
     refine bf ?_;refine gH ?_
     refine bf ?_;refine gH ?_
     refine bf ?_;refine gH ?_
     refine bf ?_;refine gX ?_
     exact fe hm O
   ·refine gX ?_
    refine bf ?_;refine gH ?_
    refine bf ?_;refine gH ?_
    refine bf ?_;refine gH ?_
    refine bf ?_;refine gH ?_
    refine bf ?_;refine gH ?_
    refine bf ?_;refine gH ?_
    refine bf ?_;refine gX ?_
    exact fe hm O
def iY (nt out:List FailZ) (x:FailZ):List FailZ:=if x ∉ nt/\x ∉ out then out++[x] else out
def dst (a nt:List FailZ):List FailZ:=a.foldl (iY nt) []
theorem zr (a nt:List FailZ) (x:FailZ):dst (a++[x]) nt=iY nt (dst a nt) x:=by unfold dst;rw[List.foldl_append];rfl
theorem uD {nt out:List FailZ}{x y:FailZ}:y∈iY nt out x↔y∈out\/y=x/\y ∉ nt:=by
 unfold iY
 split
 ·rename_i h
  rw[bm]
  exact⟨fun q=>q.imp id fun e=>⟨e,e ▸ h.1⟩,fun q=>q.imp id fun e=>e.1⟩
 ·rename_i h
  refine⟨.inl,fun q=>q.elim id fun e=>?_⟩
  rcases e with⟨rfl,e⟩
  exact Classical.byContradiction fun q=>h ⟨e,q⟩
theorem uz {nt:List FailZ}{y:FailZ}:∀ {a out:List FailZ},y∈a.foldl (iY nt) out↔y∈out\/y∈a/\y ∉ nt
 |[],out=>by simp
 |x::a,out=>by
  rw[List.foldl_cons,uz,uD,List.mem_cons]
  constructor
  ·rintro ((h|⟨rfl,h⟩) | ⟨h,h2⟩)
   ·exact .inl h
   ·exact .inr ⟨.inl rfl,h⟩
   ·exact .inr ⟨.inr h,h2⟩
  ·rintro (h|⟨rfl|h,h2⟩)
   ·exact .inl (.inl h)
   ·exact .inl (.inr ⟨rfl,h2⟩)
   ·exact .inr ⟨h,h2⟩
theorem A4 {a nt:List FailZ}{y:FailZ}:y∈dst a nt↔y∈a/\y ∉ nt:=by unfold dst;rw[uz];simp
theorem pY {nt:List FailZ}:∀ {a out:List FailZ},out.Nodup->(a.foldl (iY nt) out).Nodup
 |[],out,h=>h
 |x::a,out,h=>by
  rw[List.foldl_cons]
  refine pY ?_
  unfold iY
  split
  ·rename_i q
   rw[List.nodup_append]
   refine⟨h,by simp,fun b hb c hc=>?_⟩
   rw[List.mem_singleton] at hc
   rintro rfl
   exact q.2 (hc ▸ hb)
  ·exact h
theorem sg (a nt:List FailZ):(dst a nt).Nodup:=pY List.nodup_nil
theorem pL (a nt:List FailZ):(dst a nt).length<=a.length:=(sg a nt).length_le_of_subset fun _ m=>(A4.1 m).1
theorem apT {P:Bool->Prop}{a b:Bool} (e:a=b) (h:P b):P a:=e ▸ h
def iy (ks:List FailZ):List (FailZ×Bool):=ks.map fun k=>(k,true)
theorem uu (ks:List FailZ) (x:FailZ):jo (iy ks) x=if x∈ks then some true else none:=by
 induction ks with
 |nil=>rfl
 |cons a ks ih =>
  show (if x=a then some true else jo (iy ks) x)=_
  by_cases e:x=a
  ·rw[if_pos e,if_pos (List.mem_cons.2 (.inl e))]
  ·rw[if_neg e,ih]
   by_cases m:x∈ks
   ·rw[if_pos m,if_pos (List.mem_cons.2 (.inr m))]
   ·rw[if_neg m,if_neg (fun q=>(List.mem_cons.1 q).elim e m)]
theorem ze (ks:List FailZ) (x:FailZ):iA (iy ks) x true=iy (if x∈ks then ks else ks++[x]):=by
 induction ks with
 |nil=>rfl
 |cons a ks ih =>
  show (if x=a then (x,true)::iy ks else (a,true)::iA (iy ks) x true)=_
  by_cases e:x=a
  ·rw[if_pos e,if_pos (List.mem_cons.2 (.inl e)),e];rfl
  ·rw[if_neg e,ih]
   by_cases m:x∈ks
   ·rw[if_pos m,if_pos (List.mem_cons.2 (.inr m))];rfl
   ·rw[if_neg m,if_neg (fun q=>(List.mem_cons.1 q).elim e m)];rfl
theorem tT {l:List FailZ} (hl:l.length<2 ^ 60) {rest:List (FailZ×Bool)->Prop} (h:rest (iy (dst l []))) :
  an (α:=(List (FailZ×Bool))) (fun k4=>av (S:=((List (FailZ×Bool))×Nat)) (fun (v5,v6) nx7=>((ltN v6 l.length)=true->∃ x8,l[v6]?=some x8/\v6+1<2 ^ 63/\nx7 ((iA v5 x8 true),(v6+1)))/\((ltN v6 l.length)=false->k4 v5)) (([]:List (FailZ×Bool)),0)) rest:=by
 refine ay (fun s=>s.2<=l.length/\s.1=iy (dst (l.take s.2) [])) (fun s=>l.length-s.2) (fun m=>m=iy (dst l [])) ?_ ⟨Nat.zero_le _,rfl⟩ (fun _ e=>e ▸ h)
 rintro k ⟨m,i⟩ nx ⟨hi,hm⟩ hnx hk
 dsimp only at hi hm
 refine⟨fun q=>?_,fun q=>hk _ ?_⟩
 ·have q:i<l.length:=aJ.1 q
  obtain⟨y,hy⟩:=au q
  refine⟨y,hy,by omega,hnx _ ⟨q,?_⟩ (by dsimp only;omega)⟩
  dsimp only
  rw[hm,ze,kl hy,zr]
  unfold iY
  by_cases e:y∈dst (l.take i) []
  ·rw[if_pos e,if_neg (fun q=>q.2 e)]
  ·rw[if_neg e,if_pos ⟨by simp,e⟩]
 ·have q:l.length<=i:=aU.1 q
  rw[List.take_of_length_le q] at hm
  exact hm
def eqS (a b:List FailZ):Bool:=decide (a.length=b.length/\∀ x∈a,x∈b)
theorem yl {a b:List FailZ}{K:Bool->Prop} (h:K (eqS a b)):jw (iy a) (iy b) K:=by
 unfold jw
 have e1:(iy a).length=a.length:=List.length_map ..
 have e2:(iy b).length=b.length:=List.length_map ..
 rw[e1,e2]
 refine⟨fun q=>?_,fun q=>?_⟩
 ·rw[show eqS a b=false from decide_eq_false fun e=>eL.1 q e.1] at h
  exact h
 ·have q:a.length=b.length:=pv.1 q
  refine eK (fun _=>∀ x∈a,x∈b) (fun k hk=>?_) (fun _ e=>by rw[show eqS a b=true from decide_eq_true ⟨q,e⟩] at h;exact h)
  refine qa (fun seen _=>∀ i∈seen,∀ x,a[i]?=some x->x∈b) (fun i m=>by cases m) (fun seen s hs nd hall=>hk _ fun x m=>?_) ?_
  ·obtain⟨i,hi⟩:=List.getElem?_of_mem m
   exact hs i ((hall i).2 (by rw[e1];exact ak hi)) x hi
  ·intro seen s i x nx hs hx hni hnx
   unfold iy at hx
   rw[List.getElem?_map] at hx
   obtain⟨y,hy,rfl⟩:=Option.map_eq_some_iff.1 hx
   dsimp only
   rw[uu]
   refine bx (a:=decide (y ∉ b)) (fun g3=>⟨fun e=>?_,fun e=>?_⟩) ⟨fun e=>?_,fun e=>hnx _ fun j hj z hz=>?_⟩
   ·by_cases m:y∈b
    ·rw[if_pos m] at e;cases e
    ·rw[decide_eq_true m] at g3;exact g3
   ·by_cases m:y∈b
    ·rw[decide_eq_false (fun q=>q m)] at g3;rw[if_pos m];exact g3
    ·rw[if_neg m] at e;cases e
   ·rw[show eqS a b=false from decide_eq_false fun q=>(of_decide_eq_true e) (q.2 y (List.mem_of_getElem? hy))] at h
    exact h
   ·rcases List.mem_append.1 hj with hj|hj
    ·exact hs j hj z hz
    ·rw[List.mem_singleton] at hj
     subst hj
     rw[hy] at hz
     cases hz
     exact Classical.byContradiction fun q=>(of_decide_eq_false e) q
theorem wq {a b:List FailZ}{K:Bool->Prop} (h:K (eqS a b)):mF (iy a) (iy b) K:=⟨_,yl rfl,h⟩
def kAt (ks:List FailZ) (i:Nat):FailZ:=ks.getD i ⟨0,false,0⟩
def inS (ws:List FailZ) (x:FailZ):Bool:=decide (x∈ws)
def fH (zs ws:List FailZ):Nat:=(zs.filter (inS ws)).length
def fC (zs ws:List FailZ):Nat:=(zs.filter fun x => !inS ws x).length
theorem Ba {ws:List FailZ}{x:FailZ}:inS ws x=true↔x∈ws:=decide_eq_true_iff
theorem yO {zs ws:List FailZ} (nd:zs.Nodup):fH zs ws<=ws.length :=
 List.Nodup.length_le_of_subset (List.Pairwise.filter (inS ws) nd) fun _ m=>Ba.1 (List.mem_filter.1 m).2
theorem sB (zs ws:List FailZ):fH zs ws+fC zs ws=zs.length:=by
 unfold fH fC
 induction zs with
 |nil=>rfl
 |cons a zs ih =>
  rw[List.filter_cons,List.filter_cons]
  cases inS ws a <;> simp <;> omega
theorem zi {ks ws:List FailZ} (hk:ks.length<=2000) (hw:ws.length<=2000) (nk:ks.Nodup) {k:Nat×Nat×Nat->Prop} (h:k (fH ks ws,ws.length-fH ks ws,fC ks ws)) :
  yN (α:=(FailZ×Bool)) (S:=(Nat×Nat×Nat)) (iy ks) (fun y41 (v37,v38,v39) nx40=>(((jo (iy ws) y41.1).getD false)=true->v37+1<2 ^ 63/\1<=v38/\v38<2 ^ 63/\nx40 ((v37+1),(v38-1),v39))/\(((jo (iy ws) y41.1).getD false)=false->v39+1<2 ^ 63/\nx40 (v37,v38,(v39+1)))) (0,(iy ws).length,0) k:=by
 have e2:(iy ws).length=ws.length:=List.length_map ..
 have e1:(iy ks).length=ks.length:=List.length_map ..
 rw[e2]
 refine qa (fun seen s=>(seen.map (kAt ks)).Nodup/\(∀ i∈seen,i<ks.length)/\s=(fH (seen.map (kAt ks)) ws,ws.length-fH (seen.map (kAt ks)) ws,fC (seen.map (kAt ks)) ws)) ⟨List.nodup_nil,(fun i m=>by cases m),rfl⟩ ?_ ?_
 ·rintro seen s ⟨nz,hlt,rfl⟩ nd hall
  have hp:(seen.map (kAt ks)).Perm ks:=by
   refine (List.perm_ext_iff_of_nodup nz nk).2 fun x=>?_
   rw[List.mem_map]
   constructor
   ·rintro⟨i,hi,rfl⟩
    obtain⟨y,hy⟩:=au (hlt i hi)
    unfold kAt
    rw[List.getD,hy]
    exact List.mem_of_getElem? hy
   ·intro m
    obtain⟨i,hi⟩:=List.getElem?_of_mem m
    refine⟨i,(hall i).2 (by rw[e1];exact ak hi),?_⟩
    unfold kAt
    rw[List.getD,hi]
    rfl
  have q1:fH (seen.map (kAt ks)) ws=fH ks ws:=(hp.filter _).length_eq
  have q2:fC (seen.map (kAt ks)) ws=fC ks ws:=(hp.filter _).length_eq
  rw[q1,q2]
  exact h
 ·rintro seen s i x nx ⟨nz,hlt,rfl⟩ hx hni hnx
  unfold iy at hx
  rw[List.getElem?_map] at hx
  obtain⟨y,hy,rfl⟩:=Option.map_eq_some_iff.1 hx
  have hky:kAt ks i=y:=by unfold kAt;rw[List.getD,hy];rfl
  have hny:y ∉ seen.map (kAt ks):=by
   rw[List.mem_map]
   rintro⟨j,hj,e⟩
   obtain⟨z,hz⟩:=au (hlt j hj)
   have:z=y:=by rw[<- e];unfold kAt;rw[List.getD,hz];rfl
   subst this
   have:=(List.getElem?_inj (ak hy) nk).1 (hy.trans hz.symm)
   exact hni (this ▸ hj)
  have nz':((seen++[i]).map (kAt ks)).Nodup:=by
   rw[List.map_append,List.map_cons,List.map_nil,hky,List.nodup_append]
   refine⟨nz,by simp,fun a ha b hb=>?_⟩
   rw[List.mem_singleton] at hb
   rintro rfl
   exact hny (hb ▸ ha)
  have hlt':∀ j∈seen++[i],j<ks.length:=by
   intro j m
   rw[bm] at m
   rcases m with m|rfl
   ·exact hlt j m
   ·exact ak hy
  have hle:=yO (ws:=ws) nz'
  have hx2:=sB ((seen++[i]).map (kAt ks)) ws
  have hlen:((seen++[i]).map (kAt ks)).length<=ks.length:=nz'.length_le_of_subset fun z m=>by
   obtain⟨j,hj,rfl⟩:=List.mem_map.1 m
   obtain⟨z,hz⟩:=au (hlt' j hj)
   unfold kAt
   rw[List.getD,hz]
   exact List.mem_of_getElem? hz
  have em:(seen++[i]).map (kAt ks)=seen.map (kAt ks)++[y]:=by rw[List.map_append,List.map_cons,List.map_nil,hky]
  dsimp only
  rw[uu]
  by_cases m:y∈ws
  ·have m1:inS ws y=true:=Ba.2 m
   have q1:fH ((seen++[i]).map (kAt ks)) ws=fH (seen.map (kAt ks)) ws+1:=by
    rw[em];unfold fH;rw[List.filter_append,List.length_append,List.filter_cons,if_pos m1];rfl
   have q2:fC ((seen++[i]).map (kAt ks)) ws=fC (seen.map (kAt ks)) ws:=by
    rw[em];unfold fC;rw[List.filter_append,List.length_append,List.filter_cons,m1];rfl
   rw[if_pos m]
   refine⟨fun _=>⟨by omega,by omega,by omega,hnx _ ⟨nz',hlt',?_⟩⟩,fun e=>by cases e⟩
   rw[q1,q2,Nat.sub_sub]
  ·have m1:inS ws y=false:=decide_eq_false m
   have q1:fH ((seen++[i]).map (kAt ks)) ws=fH (seen.map (kAt ks)) ws:=by
    rw[em];unfold fH;rw[List.filter_append,List.length_append,List.filter_cons,m1];rfl
   have q2:fC ((seen++[i]).map (kAt ks)) ws=fC (seen.map (kAt ks)) ws+1:=by
    rw[em];unfold fC;rw[List.filter_append,List.length_append,List.filter_cons,m1];rfl
   rw[if_neg m]
   refine⟨(fun e=>by cases e),fun _=>⟨by omega,hnx _ ⟨nz',hlt',?_⟩⟩⟩
   rw[q1,q2]
def yg (d:List (List FailZ)) (log:List FailZ) (i:Nat):Sus:=⟨i,fH (dst (d.getD i []) []) (dst log []),(dst log []).length-fH (dst (d.getD i []) []) (dst log []),fC (dst (d.getD i []) []) (dst log [])⟩
def iT (d:List (List FailZ)) (log:List FailZ):List Sus:=(List.range d.length).map (yg d log)
structure FewL (d:List (List FailZ)) (log:List FailZ):Prop where
 len:d.length<=2000
 obs:log.length<=2000
 each:∀ l∈d,l.length<=2000
theorem Av {d:List (List FailZ)}{log:List FailZ} (F:FewL d log) {x:Sus} (m:x∈iT d log):pk x:=by
 obtain⟨i,hi,rfl⟩:=List.mem_map.1 m
 rw[List.mem_range] at hi
 have h1:=F.len
 have h2:=pL log []
 have h3:=F.obs
 obtain⟨l,hl⟩:=au hi
 have h4:=F.each l (List.mem_of_getElem? hl)
 have h5:=pL l []
 have h6:=sB (dst l []) (dst log [])
 have e:d.getD i []=l:=by rw[List.getD,hl];rfl
 unfold yg pk
 dsimp only
 rw[e]
 omega
theorem Ar {d:List (List FailZ)}{log:List FailZ} (F:FewL d log) {K:List Sus->Prop} (h:∀ r:List Sus,r.Perm (iT d log)->r.Pairwise gS->K r):df d log K:=by
 have h1:=F.len
 have h2:=pL log []
 have h3:=F.obs
 unfold df
 refine tT (by omega) ⟨by omega,by omega,?_⟩
 refine ay (fun s=>s.2<=d.length/\s.1.length=d.length/\∀ j,j<s.2->s.1[j]?=some (yg d log j)) (fun s=>d.length-s.2) (fun l=>l=iT d log) ?_ ⟨Nat.zero_le _,by simp,fun j hj=>absurd hj (Nat.not_lt_zero _)⟩ ?_
 ·rintro k ⟨l,i⟩ nx ⟨hi,hl,hv⟩ hnx hk
  dsimp only at hi hl hv
  refine⟨fun q=>?_,fun q=>hk _ ?_⟩
  ·have q:i<d.length:=aJ.1 q
   obtain⟨x,hx⟩:=au q
   have h4:=F.each x (List.mem_of_getElem? hx)
   have h5:=pL x []
   have e:d.getD i []=x:=by rw[List.getD,hx];rfl
   obtain⟨z,hz⟩:=au (show i<l.length by omega)
   refine⟨x,hx,?_⟩
   refine bx (a:=(fH (dst x []) (dst log []),(dst log []).length-fH (dst x []) (dst log []),fC (dst x []) (dst log []))) (fun g2=>tT (by omega) (zi (by omega) (by omega) (sg x []) g2)) ⟨q,z,hz,by omega,hnx _ ⟨q,by rw[List.length_set];exact hl,fun j hj=>?_⟩ (by dsimp only;omega)⟩
   dsimp only at hj ⊢
   rw[List.getElem?_set]
   by_cases e2:i=j
   ·subst e2
    rw[if_pos rfl,if_pos (by omega)]
    unfold yg
    rw[e]
   ·rw[if_neg e2]
    exact hv j (by omega)
  ·have q:d.length<=i:=aU.1 q
   unfold iT
   refine List.ext_getElem? fun j=>?_
   rw[List.getElem?_map]
   by_cases hj:j<d.length
   ·rw[hv j (by omega),List.getElem?_range hj];rfl
   ·rw[List.getElem?_eq_none (by omega),List.getElem?_eq_none (by rw[List.length_range];omega)];rfl
 ·rintro _ rfl
  have hl:(iT d log).length=d.length:=by unfold iT;simp
  exact⟨hl.symm,by omega,fun x m=>Av F m,fun r hp hs=>⟨by rw[hp.length_eq,hl],h r hp hs⟩⟩
instance (x y:Sus):Decidable (gS x y):=by unfold gS;infer_instance
theorem xg {d:List (List FailZ)}{log:List FailZ}{r s:List Sus} (hr:r.Perm (iT d log)) (hs:s.Perm (iT d log)) (pr:r.Pairwise gS) (ps:s.Pairwise gS):r=s:=by
 refine List.Perm.eq_of_pairwise (le:=gS) (fun a b ha hb h1 h2=>?_) pr ps (hr.trans hs.symm)
 obtain⟨i,_,rfl⟩:=List.mem_map.1 (hr.mem_iff.1 ha)
 obtain⟨j,_,rfl⟩:=List.mem_map.1 (hs.mem_iff.1 hb)
 rw[lk] at h1 h2
 have:i=j:=by
  have e1:(yg d log i).fault=i:=rfl
  have e2:(yg d log j).fault=j:=rfl
  omega
 rw[this]
theorem Ac {d:List (List FailZ)}{log:List FailZ} (F:FewL d log) {K:List Sus->Prop} (h:∀ r:List Sus,r.Perm (iT d log)->r.Pairwise gS->K r):fA d log K:=by
 have hp:((iT d log).mergeSort fun a b=>decide (gS a b)).Perm (iT d log):=List.mergeSort_perm _ _
 have hs:((iT d log).mergeSort fun a b=>decide (gS a b)).Pairwise gS:=by
  have:=List.pairwise_mergeSort (le:=fun a b=>decide (gS a b)) (fun a b c h1 h2=>?_) (fun a b=>?_) (iT d log)
  ·exact this.imp fun e=>of_decide_eq_true e
  ·rw[decide_eq_true_eq,lk] at *
   omega
  ·rw[Bool.or_eq_true,decide_eq_true_eq,decide_eq_true_eq,lk,lk]
   omega
 exact⟨_,Ar F fun r hr pr=>xg hr hp pr hs,h _ hp hs⟩
def vR (d:List (List FailZ)) (log:List FailZ):List Nat:=(List.range d.length).filter fun i=>eqS (dst (d.getD i []) []) (dst log [])
theorem zP {d:List (List FailZ)}{log:List FailZ} (F:FewL d log) {K:List Nat->Prop} (h:K (vR d log)):cO d log K:=by
 have h1:=F.len
 have h3:=F.obs
 unfold cO
 refine tT (by omega) ?_
 refine ay (fun s=>s.2<=d.length/\s.1=(List.range s.2).filter fun i=>eqS (dst (d.getD i []) []) (dst log [])) (fun s=>d.length-s.2) (fun l=>l=vR d log) ?_ ⟨Nat.zero_le _,rfl⟩ (fun _ e=>e ▸ h)
 rintro k ⟨l,i⟩ nx ⟨hi,hl⟩ hnx hk
 dsimp only at hi hl
 refine⟨fun q=>?_,fun q=>hk _ ?_⟩
 ·have q:i<d.length:=aJ.1 q
  obtain⟨x,hx⟩:=au q
  have h4:=F.each x (List.mem_of_getElem? hx)
  have e:d.getD i []=x:=by rw[List.getD,hx];rfl
  have hll:l.length<=i:=by rw[hl];exact jM
  refine bx (a:=(List.range (i+1)).filter fun i=>eqS (dst (d.getD i []) []) (dst log [])) (fun g2=>⟨x,hx,tT (by omega) (wq ⟨fun e2=>⟨by rw[List.length_singleton];omega,?_⟩,fun e2=>?_⟩)⟩) ⟨by omega,hnx _ ⟨q,rfl⟩ (by dsimp only;omega)⟩
  ·rw[lW,e,if_pos e2,<- hl] at g2;exact g2
  ·rw[lW,e,if_neg (by rw[e2];decide),<- hl,List.append_nil] at g2;exact g2
 ·have q:d.length<=i:=aU.1 q
  have:i=d.length:=by omega
  subst this
  exact hl
structure FltOk (c:Circ) (f:Flt) (R:Pat->Rsp):Prop where
 chk:∀ {K:Nat->Prop},K 0->faults_Check_wp c f K
 mdl:f.model≠1
 run:∀ {p:Pat},PatOk c p->∀ {K:Rsp×List Nat×Nat->Prop},(∀ t,K (R p,t,0))->inject_Run_wp c f p K
def cC (c:Circ) (p:Pat):Rsp:=fW c idP (gE c p)
def mkF (k:Nat) (b:Bool) (i:Nat):FailZ:=⟨Int.ofNat k,b,Int.ofNat i⟩
def rX (c:Circ) (R:Pat->Rsp) (tests:List Pat) (k:Nat):List FailZ :=
 (lK (cC c (tests.getD k ⟨[],[]⟩)).out (R (tests.getD k ⟨[],[]⟩)).out).map (mkF k false)++(lK (cC c (tests.getD k ⟨[],[]⟩)).next (R (tests.getD k ⟨[],[]⟩)).next).map (mkF k true)
def kv (c:Circ) (R:Pat->Rsp) (tests:List Pat) (n:Nat):List FailZ:=(List.range n).flatMap (rX c R tests)
def oF (c:Circ) (R:Pat->Rsp) (tests:List Pat):List FailZ:=kv c R tests tests.length
theorem mu (c:Circ) (R:Pat->Rsp) (tests:List Pat) (n:Nat):kv c R tests (n+1)=kv c R tests n++rX c R tests n:=by
 unfold kv
 rw[List.range_succ,List.flatMap_append]
 simp
theorem zw {c:Circ} (C:Cir c) (R:Pat->Rsp) (tests:List Pat) (k:Nat):(rX c R tests k).length<=2000:=by
 have h:=xf C idP (gE c (tests.getD k ⟨[],[]⟩))
 have h1:=jm (cC c (tests.getD k ⟨[],[]⟩)).out (R (tests.getD k ⟨[],[]⟩)).out
 have h2:=jm (cC c (tests.getD k ⟨[],[]⟩)).next (R (tests.getD k ⟨[],[]⟩)).next
 have h3:(cC c (tests.getD k ⟨[],[]⟩)).out.length<=1000:=h.1
 have h4:(cC c (tests.getD k ⟨[],[]⟩)).next.length<=1000:=h.2
 unfold rX
 rw[List.length_append,List.length_map,List.length_map]
 omega
theorem sy {c:Circ} (C:Cir c) (R:Pat->Rsp) (tests:List Pat):∀ n,(kv c R tests n).length<=n*2000
 |0=>by unfold kv;simp
 |n+1=>by
  have:=sy C R tests n
  have:=zw C R tests n
  rw[mu,List.length_append]
  omega
theorem zB {k:Nat}{b:Bool}{l:List Nat}{base:List FailZ}{body:List FailZ×Nat->(List FailZ×Nat->Prop)->Prop} (hb:base.length<=100000000) (hl:l.length<=1000)
  (step:∀ (o:List FailZ) (i x:Nat) (nx:List FailZ×Nat->Prop),l[i]?=some x->i<l.length->o.length<=100001000->nx (o++[mkF k b x],i+1)->body (o,i) nx)
  (stop:∀ (i:Nat) (nx:List FailZ×Nat->Prop),l.length<=i->body (base++l.map (mkF k b),i) nx):av body (base,0):=by
 refine bn (fun s=>s.2<=l.length/\s.1=base++(l.take s.2).map (mkF k b)) (fun s=>l.length-s.2) ?_ ⟨Nat.zero_le _,by simp⟩
 rintro⟨o,i⟩ nx ⟨hi,ho⟩ hnx
 dsimp only at hi ho
 by_cases q:i<l.length
 ·obtain⟨x,hx⟩:=au q
  have hol:o.length<=100001000:=by rw[ho,List.length_append,List.length_map,List.length_take];omega
  refine step o i x nx hx q hol (hnx _ ⟨q,?_⟩ (by dsimp only;omega))
  dsimp only
  rw[ho,kl hx,List.map_append,List.append_assoc]
  rfl
 ·have q:l.length<=i:=by omega
  rw[List.take_of_length_le q] at ho
  rw[ho]
  exact stop i nx q
theorem zz {tests:List Pat}{i:Nat}{p:Pat} (h:tests[i]?=some p):tests.getD i ⟨[],[]⟩=p:=by rw[List.getD,h];rfl
theorem Bu {c:Circ} (C:Cir c) {f:Flt}{R:Pat->Rsp} (F:FltOk c f R) {tests:List Pat} (ht:∀ p∈tests,PatOk c p) (hl:tests.length<=4096) {K:List FailZ->Prop} (h:K (oF c R tests)):dw c f tests (tests.map (cC c)) K:=by
 unfold dw
 refine ay (fun s=>s.2<=tests.length/\s.1=kv c R tests s.2) (fun s=>tests.length-s.2) (fun l=>l=oF c R tests) ?_ ⟨Nat.zero_le _,rfl⟩ (fun _ e=>e ▸ h)
 rintro k ⟨l,i⟩ nx ⟨hi,hv⟩ hnx hk
 dsimp only at hi hv
 refine⟨fun q=>?_,fun q=>hk _ ?_⟩
 ·have q:i<tests.length:=aJ.1 q
  obtain⟨p,hp⟩:=au q
  have h1:=sy C R tests i
  have hR:=xf C idP (gE c p)
  have hc1:=jm (cC c p).out (R p).out
  have hc2:=jm (cC c p).next (R p).next
  have hg1:(cC c p).out.length<=1000:=hR.1
  have hg2:(cC c p).next.length<=1000:=hR.2
  refine bx (a:=kv c R tests (i+1)) (fun g2=>⟨p,hp,F.run (ht p (List.mem_of_getElem? hp)) fun t=>⟨cC c p,by rw[List.getElem?_map,hp];rfl,xF hR.1 hR.2 ?_⟩⟩) ⟨by omega,hnx _ ⟨q,rfl⟩ (by dsimp only;omega)⟩
  have hl1:l.length<=10000000:=by rw[hv];omega
  have hl2:(l++(lK (cC c p).out (R p).out).map (mkF i false)).length<=100000000:=by rw[List.length_append,List.length_map];omega
  refine bx (a:=l++(lK (cC c p).out (R p).out).map (mkF i false)) (fun g3=>?_) ?_
  ·refine zB (k:=i) (b:=false) (l:=lK (cC c p).out (R p).out) (by omega) (by omega) (fun o j x nx hx hj ho hn=>⟨fun _=>⟨x,hx,by rw[List.length_singleton];omega,by omega,hn⟩,fun q=>absurd (aU.1 q) (Nat.not_le.2 hj)⟩) fun j nx hj=>⟨fun q=>absurd (aJ.1 q) (Nat.not_lt.2 hj),fun _=>g3⟩
  refine zB (k:=i) (b:=true) (l:=lK (cC c p).next (R p).next) hl2 (by omega) (fun o j x nx hx hj ho hn=>⟨fun _=>⟨x,hx,by rw[List.length_singleton];omega,by omega,hn⟩,fun q=>absurd (aU.1 q) (Nat.not_le.2 hj)⟩) fun j nx hj=>⟨fun q=>absurd (aJ.1 q) (Nat.not_lt.2 hj),fun _=>?_⟩
  rw[mu,<- hv] at g2
  unfold rX at g2
  rw[zz hp] at g2
  rw[List.append_assoc]
  exact g2
 ·have q:tests.length<=i:=aU.1 q
  have:i=tests.length:=by omega
  subst this
  exact hv
theorem xQ {c:Circ} (C:Cir c) {K:Nat->Prop} (h:∀ n,n<=32->K n):ct c K:=by
 have h1:=C.len
 have h2:=C.good.outsLen
 unfold ct
 refine ay (fun s=>s.2<=c.nodes.length/\s.1<=c.outs.length+s.2) (fun s=>c.nodes.length-s.2) (fun n=>n<=32) ?_ ⟨Nat.zero_le _,Nat.le_refl _⟩ (fun n e=>h n e)
 rintro k ⟨m,i⟩ nx ⟨hi,hm⟩ hnx hk
 dsimp only at hi hm
 refine⟨fun q=>?_,fun q=>hk _ (by omega)⟩
 have q:i<c.nodes.length:=aJ.1 q
 obtain⟨x,hx⟩:=au q
 refine eK (fun m2=>m2<=m+1) (fun k2 hk2=>⟨x,hx,fun _=>⟨by omega,hk2 _ (Nat.le_refl _)⟩,fun _=>hk2 _ (by omega)⟩) fun m2 h2=>⟨by omega,hnx _ ⟨q,?_⟩ (by dsimp only;omega)⟩
 dsimp only
 omega
theorem yr {c:Circ} (C:Cir c) {l:List Flt}{tests:List Pat}{Rs:Flt->Pat->Rsp} (hf:∀ f∈l,FltOk c f (Rs f)) (ht:∀ p∈tests,PatOk c p) (h1:l.length<=100) (h2:tests.length<=100) {K:Nat->Prop} (h:K 0):cN c l tests K:=by
 have hm:l.length*tests.length<=100*100:=Nat.mul_le_mul h1 h2
 unfold cN
 refine bx (a:=false) (fun g=>⟨fun q=>absurd (aJ.1 q) (by omega),fun _=>⟨fun q=>absurd (aJ.1 q) (by omega),fun _=>⟨by omega,xQ C fun n hn=>?_⟩⟩⟩) ⟨(fun e=>by cases e),fun _=>?_⟩
 ·have:(l.length*tests.length)*n<=100*100*32:=Nat.mul_le_mul hm hn
  refine⟨by omega,?_⟩
  rw[show ltN 1048576 (l.length*tests.length*n)=false from aU.2 (by omega)]
  exact g
 refine uj C ⟨(fun q=>absurd rfl (eL.1 q)),fun _=>?_⟩
 refine ay (fun i=>i<=l.length) (fun i=>l.length-i) (fun _=>True) ?_ (Nat.zero_le _) fun _ _=>?_
 ·rintro k i nx hi hnx hk
  refine⟨fun q=>?_,fun q=>hk _ trivial⟩
  have q:i<l.length:=aJ.1 q
  obtain⟨f,hx⟩:=au q
  have F:=hf f (List.mem_of_getElem? hx)
  exact⟨f,hx,F.chk ⟨(fun q=>absurd rfl (eL.1 q)),fun _=>⟨fun q=>absurd (bo.1 q) F.mdl,fun _=>⟨by omega,hnx _ q (by omega)⟩⟩⟩⟩
 refine ay (fun i=>i<=tests.length) (fun i=>tests.length-i) (fun _=>True) ?_ (Nat.zero_le _) fun _ _=>h
 rintro k i nx hi hnx hk
 refine⟨fun q=>?_,fun q=>hk _ trivial⟩
 have q:i<tests.length:=aJ.1 q
 obtain⟨p,hx⟩:=au q
 exact⟨p,hx,tY C (ht p (List.mem_of_getElem? hx)) ⟨(fun q=>absurd rfl (eL.1 q)),fun _=>⟨by omega,hnx _ q (by omega)⟩⟩⟩
def sM (c:Circ) (Rs:Flt->Pat->Rsp) (l:List Flt) (tests:List Pat):List (List FailZ):=l.map fun f=>oF c (Rs f) tests
theorem mb {c:Circ} (C:Cir c) {l:List Flt}{tests:List Pat}{Rs:Flt->Pat->Rsp} (hf:∀ f∈l,FltOk c f (Rs f)) (ht:∀ p∈tests,PatOk c p) (h1:l.length<=100) (h2:tests.length<=100) {K:List (List FailZ)×Nat->Prop}
  (h:K (sM c Rs l tests,0)):bq c l tests K:=by
 unfold bq
 refine yr C hf ht h1 h2 ⟨(fun q=>absurd rfl (eL.1 q)),fun _=>?_⟩
 refine ay (fun s=>s.2<=tests.length/\s.1=(tests.take s.2).map (cC c)) (fun s=>tests.length-s.2) (fun r=>r=tests.map (cC c)) ?_ ⟨Nat.zero_le _,rfl⟩ ?_
 ·rintro k ⟨r,i⟩ nx ⟨hi,hr⟩ hnx hk
  dsimp only at hi hr
  refine⟨fun q=>?_,fun q=>hk _ ?_⟩
  ·have q:i<tests.length:=aJ.1 q
   obtain⟨p,hp⟩:=au q
   have hrl:r.length<=100:=by rw[hr,List.length_map,List.length_take];omega
   refine⟨p,hp,sX C (ht p (List.mem_of_getElem? hp)) ⟨by rw[List.length_singleton];omega,by omega,hnx _ ⟨q,?_⟩ (by dsimp only;omega)⟩⟩
   dsimp only
   rw[hr,kl hp,List.map_append]
   rfl
  ·have q:tests.length<=i:=aU.1 q
   rw[List.take_of_length_le q] at hr
   exact hr
 rintro _ rfl
 refine⟨by omega,by omega,?_⟩
 refine ay (fun s=>s.2<=l.length/\s.1.length=l.length/\∀ j f,j<s.2->l[j]?=some f->s.1[j]?=some (oF c (Rs f) tests)) (fun s=>l.length-s.2) (fun r=>r=sM c Rs l tests) ?_ ⟨Nat.zero_le _,by simp,fun j f hj=>absurd hj (Nat.not_lt_zero _)⟩ ?_
 ·rintro k ⟨r,i⟩ nx ⟨hi,hl,hv⟩ hnx hk
  dsimp only at hi hl hv
  refine⟨fun q=>?_,fun q=>hk _ ?_⟩
  ·have q:i<l.length:=aJ.1 q
   obtain⟨f,hx⟩:=au q
   obtain⟨z,hz⟩:=au (show i<r.length by omega)
   refine⟨f,hx,Bu C (hf f (List.mem_of_getElem? hx)) ht (by omega) ⟨q,z,hz,by omega,hnx _ ⟨q,by rw[List.length_set];exact hl,fun j g hj hg=>?_⟩ (by dsimp only;omega)⟩⟩
   dsimp only at hj ⊢
   rw[List.getElem?_set]
   by_cases e:i=j
   ·subst e
    rw[if_pos rfl,if_pos (by omega)]
    rw[hx] at hg
    cases hg
    rfl
   ·rw[if_neg e]
    exact hv j g (by omega) hg
  ·have q:l.length<=i:=aU.1 q
   unfold sM
   refine List.ext_getElem? fun j=>?_
   rw[List.getElem?_map]
   by_cases hj:j<l.length
   ·obtain⟨f,hf2⟩:=au hj
    rw[hv j f (by omega) hf2,hf2];rfl
   ·rw[List.getElem?_eq_none (by omega),List.getElem?_eq_none (by omega)];rfl
 ·rintro _ rfl
  exact⟨by unfold sM;rw[List.length_map],h⟩
theorem Bq {c:Circ} (C:Cir c) {f:Flt}{tests:List Pat}{R:Pat->Rsp} (F:FltOk c f R) (ht:∀ p∈tests,PatOk c p) (h2:tests.length<=100) {K:List FailZ×Nat->Prop}
  (h:K (oF c R tests,0)):dv c f tests K:=by
 unfold dv
 exact mb C (Rs:=fun _=>R) (fun g m=>by rw[List.mem_singleton] at m;subst m;exact F) ht (by rw[List.length_singleton];omega) h2 ⟨(fun q=>absurd rfl (eL.1 q)),fun _=>⟨_,rfl,h⟩⟩
theorem vd {c:Circ} (C:Cir c) {f:Flt} (F:StuckOk c f):FltOk c f fun p=>fW c (pnF f) (kO c p f) :=
 ⟨fun h=>sx C F h,(fun e=>by rw[F.model] at e;cases e),fun hp _ h=>zU C hp F (h _)⟩
end Go.Proofs.YteceaohcjmbfbaaGreatDoor
