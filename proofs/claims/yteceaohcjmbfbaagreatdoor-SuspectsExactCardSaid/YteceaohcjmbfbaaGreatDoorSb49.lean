/-
  SoS, N2, Orz, Sub, SrtS, X1, X2: parts of the proof.
-/
import Derived.Test.YteceaohcjmbfbaaGreatDoorSb48
namespace Go.Proofs.YteceaohcjmbfbaaGreatDoor
open Go.Abs
set_option maxRecDepth 100000
def renS:Go.Shelf.Ren where
 f n:=match n with
  |6=>23
  |14=>46
  |15=>47
  |20=>81
  |21=>82
  |22=>83
  |23=>84
  |24=>85
  |25=>86
  |26=>87
  |27=>88
  |28=>89
  |29=>90
  |46=>119
  |47=>120
  |48=>121
  |49=>122
  |50=>123
  |57=>137
  |n=>n
 t n:=match n with
  |0=>0
  |3=>3
  |4=>4
  |5=>5
  |22=>26
  |24=>31
  |25=>90
  |39=>125
  |45=>160
  |46=>161
  |50=>165
  |53=>168
  |55=>170
  |66=>197
  |70=>201
  |76=>211
  |77=>137
  |n=>n
 g n:=n
theorem sortS:Go.Proofs.SlLaysF0.n6 Tryz.prog renS where
 mixed:=by kernel_rfl
 f6:=⟨Tryz.f23.name,by kernel_rfl,by kernel_rfl⟩
 f14:=⟨Tryz.f46.name,by kernel_rfl,by kernel_rfl⟩
 f15:=by kernel_rfl
 f20:=⟨Tryz.f81.name,by kernel_rfl,by kernel_rfl⟩
 f21:=⟨Tryz.f82.name,by kernel_rfl,by kernel_rfl⟩
 f22:=⟨Tryz.f83.name,by kernel_rfl,by kernel_rfl⟩
 f23:=⟨Tryz.f84.name,by kernel_rfl,by kernel_rfl⟩
 f24:=⟨Tryz.f85.name,by kernel_rfl,by kernel_rfl⟩
 f25:=⟨Tryz.f86.name,by kernel_rfl,by kernel_rfl⟩
 f26:=⟨Tryz.f87.name,by kernel_rfl,by kernel_rfl⟩
 f27:=⟨Tryz.f88.name,by kernel_rfl,by kernel_rfl⟩
 f28:=by kernel_rfl
 f29:=by kernel_rfl
 f46:=⟨Tryz.f119.name,by kernel_rfl,by kernel_rfl⟩
 f47:=by kernel_rfl
 f48:=by kernel_rfl
 f49:=⟨Tryz.f122.name,by kernel_rfl,by kernel_rfl⟩
 f50:=⟨Tryz.f123.name,by kernel_rfl,by kernel_rfl⟩
 f57:=⟨Tryz.f137.name,by kernel_rfl,by kernel_rfl⟩
 t0:=by kernel_rfl
 a0:=fun w=>by kernel_rfl
 z0:=fun w=>by kernel_rfl
 v0:=fun w=>by kernel_rfl
 t3:=by kernel_rfl
 a3:=fun w=>by kernel_rfl
 z3:=fun w=>by kernel_rfl
 v3:=fun w=>by kernel_rfl
 t4:=by kernel_rfl
 a4:=fun w=>by kernel_rfl
 z4:=fun w=>by kernel_rfl
 v4:=fun w=>by kernel_rfl
 t5:=by kernel_rfl
 a5:=fun w=>by kernel_rfl
 z5:=fun w=>by kernel_rfl
 v5:=fun w=>by kernel_rfl
 t9:=by kernel_rfl
 a9:=fun w=>by kernel_rfl
 z9:=fun w=>by kernel_rfl
 v9:=fun w=>by kernel_rfl
 t22:=by kernel_rfl
 a22:=fun w=>by kernel_rfl
 z22:=fun w=>by kernel_rfl
 v22:=fun w=>by kernel_rfl
 t25:=by kernel_rfl
 a25:=fun w=>by kernel_rfl
 z25:=fun w=>by kernel_rfl
 v25:=fun w=>by kernel_rfl
 t39:=by kernel_rfl
 a39:=fun w=>by kernel_rfl
 z39:=fun w=>by kernel_rfl
 v39:=fun w=>by kernel_rfl
 t45:=by kernel_rfl
 a45:=fun w=>by kernel_rfl
 z45:=fun w=>by kernel_rfl
 v45:=fun w=>by kernel_rfl
 t46:=by kernel_rfl
 a46:=fun w=>by kernel_rfl
 z46:=fun w=>by kernel_rfl
 v46:=fun w=>by kernel_rfl
 t50:=by kernel_rfl
 a50:=fun w=>by kernel_rfl
 z50:=fun w=>by kernel_rfl
 v50:=fun w=>by kernel_rfl
 t53:=by kernel_rfl
 a53:=fun w=>by kernel_rfl
 z53:=fun w=>by kernel_rfl
 v53:=fun w=>by kernel_rfl
 t55:=by kernel_rfl
 a55:=fun w=>by kernel_rfl
 z55:=fun w=>by kernel_rfl
 v55:=fun w=>by kernel_rfl
 t66:=by kernel_rfl
 a66:=fun w=>by kernel_rfl
 z66:=fun w=>by kernel_rfl
 v66:=fun w=>by kernel_rfl
 t70:=by kernel_rfl
 a70:=fun w=>by kernel_rfl
 z70:=fun w=>by kernel_rfl
 v70:=fun w=>by kernel_rfl
 t76:=by kernel_rfl
 a76:=fun w=>by kernel_rfl
 z76:=fun w=>by kernel_rfl
 v76:=fun w=>by kernel_rfl
 t77:=by kernel_rfl
 a77:=fun w=>by kernel_rfl
 z77:=fun w=>by kernel_rfl
 v77:=fun w=>by kernel_rfl
theorem sortS_a:∀ w,(isAgg (renS.t 24)).run Tryz.prog w=.ok true w:=fun w=>by kernel_rfl
theorem sortS_z:∀ w,(Go.sizeOf (renS.t 24)).run Tryz.prog w=.ok 4 w:=fun w=>by kernel_rfl
set_option maxHeartbeats 8000000
def cmp_Or_int__wp (p0:(List Int)) (K:Int->Prop):Prop :=
 joinW (α:=Unit) (fun k1=>loopW (S:=Nat) (fun v2 nx3=>((ltN v2 p0.length)=true->∃ x4,p0[v2]?=some x4/\((neZ x4 (Int.ofNat 0))=true->K x4)/\((neZ x4 (Int.ofNat 0))=false->v2+1<2 ^ 63/\nx3 (v2+1)))/\((ltN v2 p0.length)=false->k1 ())) 0) (fun _=>K (Int.ofNat 0))
theorem cmp_Or_int__walk {p0:(List Int)}{K:Int->Prop} (hm:cmp_Or_int__wp p0 K) {h0:Heap} (hB:HasB vars h0):∃ r,K r/\CallD Tryz.prog NG 25 ⟨[(encL 1 z64) p0]⟩ h0 (z64 r) h0:=by
 unfold cmp_Or_int__wp at hm
 refine fw Tryz.func25 hB (enc:=z64) (fun r=>PureV.flat rfl) fun O=>?_;conv=>whnf
 apply Cs;conv=>whnf
 apply Cs;refine gH ?_
 apply Cs;conv=>whnf
 apply Cs;refine gH ?_
 refine jn hm 18 [3] (fun s=>s) (fun _ h=>Own vars h0 [] h) (fun _=>[]) (fun hm=>?_) ?_
 ·refine gX ?_
  refine lw 18 [3,6,7] (σ:=Nat) (fun s=>s) (fun v2 h=>Own vars h0 [] h) (fun v2=>[(8,(i64 v2))]) 0 hm O ?_
  clear hm;rintro v2 nx3 base h hm O
  refine gX ?_
  refine br hm (fun hm=>?_) fun hm=>?_
  ·refine gX ?_
   refine atF hm fun x4 hx4 hm=>?_;refine gX ?_
   refine br hm (fun hm=>?_) fun hm=>?_
   ·refine gX ?_
    exact fe hm O
   ·refine gX ?_
    refine aAdd hm fun hm=>?_;refine gH ?_
    exact jx (v2+1) hm O
  ·refine gX ?_
   exact jx () hm O
 ·clear hm;rintro _ base h hm O
  refine gX ?_
  exact fe hm O
def suspects_order_wp (p0:Sus) (p1:Sus) (K:Int->Prop):Prop :=
 -(2 ^ 63)<=((Int.ofNat p0.missed)-(Int.ofNat p1.missed))/\((Int.ofNat p0.missed)-(Int.ofNat p1.missed))<2 ^ 63 /\ -(2 ^ 63)<=((Int.ofNat p0.extra)-(Int.ofNat p1.extra))/\((Int.ofNat p0.extra)-(Int.ofNat p1.extra))<2 ^ 63 /\ -(2 ^ 63)<=((Int.ofNat p0.fault)-(Int.ofNat p1.fault))/\((Int.ofNat p0.fault)-(Int.ofNat p1.fault))<2 ^ 63/\cmp_Or_int__wp ([((Int.ofNat p0.missed)-(Int.ofNat p1.missed)),((Int.ofNat p0.extra)-(Int.ofNat p1.extra)),((Int.ofNat p0.fault)-(Int.ofNat p1.fault))]:(List Int)) (fun r1=>K r1)
theorem suspects_order_walk {p0:Sus}{p1:Sus}{K:Int->Prop} (hm:suspects_order_wp p0 p1 K) {h0:Heap} (hB:HasB vars h0):∃ r,K r/\CallD Tryz.prog NG 24 ⟨[encSus p0,encSus p1]⟩ h0 (z64 r) h0:=by
 unfold suspects_order_wp at hm
 refine fw Tryz.func24 hB (enc:=z64) (fun r=>PureV.flat rfl) fun O=>?_;conv=>whnf
 refine gX ?_
 refine fz ?_;refine gH ?_
 refine fz ?_;refine gX ?_
 refine⟨_,subZK (a:=(Int.ofNat p0.missed)) (b:=(Int.ofNat p1.missed)) rfl rfl hm.1 hm.2.1,?_⟩;refine gH ?_
 replace hm:=hm.2.2
 refine⟨_,subZK (a:=(Int.ofNat p0.extra)) (b:=(Int.ofNat p1.extra)) rfl rfl hm.1 hm.2.1,?_⟩;refine gH ?_
 replace hm:=hm.2.2
 refine⟨_,subZK (a:=(Int.ofNat p0.fault)) (b:=(Int.ofNat p1.fault)) rfl rfl hm.1 hm.2.1,?_⟩;refine gH ?_
 replace hm:=hm.2.2
 refine fz ?_;refine gH ?_
 refine ca (cmp_Or_int__walk hm O.has) fun r1 hm=>?_;refine gX ?_
 exact fe hm O
def orZ (a b:Int):Int:=if a≠0 then a else b
theorem nez_t {a b:Int}:neZ a b=true↔a≠b:=by rw[neZ_eq];simp
theorem nez_f {a b:Int}:neZ a b=false↔a=b:=by rw[neZ_eq];simp
theorem orZ_neg {a b:Int}:orZ a b<0↔a<0\/a=0/\b<0:=by
 unfold orZ
 split <;> omega
end Go.Proofs.YteceaohcjmbfbaaGreatDoor

namespace Go.Proofs.YteceaohcjmbfbaaGreatDoor
open Go.Abs
set_option maxRecDepth 100000
theorem sub_map {α:Type}{p:α->Prop}{β:Type} (f:α->β):∀ (l:List α) (h:∀ x∈l,p x),l.map f=(l.attachWith p h).map fun x=>f x.1
 |[],_=>rfl
 |a::l,h=>by
  show f a::l.map f=_::_
  rw[sub_map f l fun x m=>h x (List.mem_cons_of_mem _ m)]
  simp[List.attachWith]
def susB (x:Sus):Prop:=x.fault<2 ^ 62/\x.missed<2 ^ 62/\x.extra<2 ^ 62
def cfSus (x y:Sus):Int:=orZ (Int.ofNat x.missed-Int.ofNat y.missed) (orZ (Int.ofNat x.extra-Int.ofNat y.extra) (Int.ofNat x.fault-Int.ofNat y.fault))
def susLe (x y:Sus):Prop:=¬ cfSus y x<0
theorem or3_vc {a b c:Int}{K:Int->Prop} (h:K (orZ a (orZ b c))):cmp_Or_int__wp [a,b,c] K:=by
 unfold cmp_Or_int__wp
 refine (show loopW _ _ from⟨4,?_⟩)
 unfold orZ at h
 refine⟨fun _=>⟨a,rfl,fun q=>?_,fun q=>⟨by decide,?_⟩⟩,fun q=>absurd (lt_f.1 q) (by simp)⟩
 ·rw[if_pos (show a≠0 from nez_t.1 q)] at h;exact h
 rw[if_neg (fun e:a≠0=>e (nez_f.1 q))] at h
 refine⟨fun _=>⟨b,rfl,fun q=>?_,fun q=>⟨by decide,?_⟩⟩,fun q=>absurd (lt_f.1 q) (by simp)⟩
 ·rw[if_pos (show b≠0 from nez_t.1 q)] at h;exact h
 rw[if_neg (fun e:b≠0=>e (nez_f.1 q))] at h
 refine⟨fun _=>⟨c,rfl,fun _=>h,fun q=>⟨by decide,?_⟩⟩,fun q=>absurd (lt_f.1 q) (by simp)⟩
 have e:c=0:=nez_f.1 q
 subst e
 exact⟨fun q=>absurd (lt_t.1 q) (by simp),fun _=>h⟩
theorem order_sus {a b:Sus} (ha:susB a) (hb:susB b) {K:Int->Prop} (h:K (cfSus a b)):suspects_order_wp a b K:=by
 obtain⟨a1,a2,a3⟩:=ha
 obtain⟨b1,b2,b3⟩:=hb
 exact⟨by simp only[Int.ofNat_eq_natCast];omega,by simp only[Int.ofNat_eq_natCast];omega,by simp only[Int.ofNat_eq_natCast];omega,by simp only[Int.ofNat_eq_natCast];omega,by simp only[Int.ofNat_eq_natCast];omega,by simp only[Int.ofNat_eq_natCast];omega,or3_vc h⟩
theorem cfSus_neg {x y:Sus}:cfSus x y<0↔x.missed<y.missed\/x.missed=y.missed/\(x.extra<y.extra\/x.extra=y.extra/\x.fault<y.fault):=by
 unfold cfSus;rw[orZ_neg,orZ_neg];simp only[Int.ofNat_eq_natCast];omega
theorem susLe_iff {x y:Sus}:susLe x y↔x.missed<y.missed\/x.missed=y.missed/\(x.extra<y.extra\/x.extra=y.extra/\x.fault<=y.fault):=by
 unfold susLe;rw[cfSus_neg];omega
theorem swoSus:Go.Sort.SWO (Go.Proofs.ltOf fun x y:{x:Sus // susB x}=>cfSus x.1 y.1) where
 irrefl x:=by unfold Go.Proofs.ltOf;rw[decide_eq_false_iff_not,cfSus_neg];omega
 trans x y z:=by unfold Go.Proofs.ltOf;simp only[decide_eq_true_eq,cfSus_neg];omega
 ntrans x y z:=by unfold Go.Proofs.ltOf;simp only[decide_eq_false_iff_not,cfSus_neg];omega
theorem sortSus {h0 h:Heap}{L:List Slot}{la:List Sus}{f:Slot->List Slot}{g n:Nat} (O:Own vars h0 L h) (A:At (some g,.cells (flatC (la.map encSus)) false) L f) (hn:n=la.length) (hsz:la.length<4611686018427387904) (hb:∀ x∈la,susB x) :
  ∃ (l':List Sus) (h':Heap),l'.Perm la/\l'.Pairwise susLe/\CallD Tryz.prog NG 23 ⟨[.slice (some ⟨g,0,none⟩) n n,.func (.func 24) #[] #[]]⟩ h (.tuple #[]) h'/\Own vars h0 (f (some g,.cells (flatC (l'.map encSus)) false)) h':=by
 subst hn
 have inh:Inhabited {x:Sus // susB x}:=⟨⟨⟨0,0,0,0⟩,by unfold susB;decide⟩⟩
 have e:=sub_map encSus la hb
 have e1:(la.attachWith susB hb).map Subtype.val=la:=by simp
 rw[e] at A
 obtain⟨l',h',p1,p2,p3,p4⟩:=O.sortM (ρ:=renS) (k:=4) (encC:=fun x:{x:Sus // susB x}=>[i64 x.1.fault,i64 x.1.both,i64 x.1.missed,i64 x.1.extra]) (enc:=fun x:{x:Sus // susB x}=>encSus x.1) (cf:=fun x y=>cfSus x.1 y.1) sortS sortS_a sortS_z (fun _=>rfl) (fun _=>rfl)
  (fun x v m=>by simp only[List.mem_cons,List.not_mem_nil,or_false] at m;rcases m with rfl|rfl|rfl|rfl <;> rfl) (fun x v m=>by simp only[List.mem_cons,List.not_mem_nil,or_false] at m;rcases m with rfl|rfl|rfl|rfl <;> rfl)
  swoSus (by kernel_rfl) (Go.Proofs.enters_of Tryz.func24 (by kernel_rfl) rfl) fzVars
  (fun x y h2 hb=>by obtain⟨r,rfl,c⟩:=suspects_order_walk (p0:=x.1) (p1:=y.1) (K:=fun r=>r=cfSus x.1 y.1) (order_sus x.2 y.2 rfl) hb;exact c) (n:=la.length) A (by rw[List.length_attachWith]) (by rw[List.length_attachWith];exact hsz)
 refine⟨l'.map Subtype.val,h',?_,?_,p3,?_⟩
 ·have:=p1.map Subtype.val
  rw[e1] at this
  exact this
 ·exact List.pairwise_map.2 p2
 ·rw[List.map_map]
  exact p4
set_option maxHeartbeats 8000000
def mapsEq_wp (p0:(List (FailZ×Bool))) (p1:(List (FailZ×Bool))) (K:Bool->Prop):Prop :=
 ((neN p0.length p1.length)=true->K false)/\((neN p0.length p1.length)=false->joinW (α:=Unit) (fun k1=>mapW (α:=(FailZ×Bool)) (S:=Unit) p0 (fun y5 _ nx4=>joinW (α:=Bool) (fun k10=>((!((mget p1 y5.1).isSome))=true->k10 true)/\((!((mget p1 y5.1).isSome))=false->k10 (y5.2 != ((mget p1 y5.1).getD false)))) (fun v9=>(v9=true->K false)/\(v9=false->nx4 ()))) () (fun _=>k1 ())) (fun _=>K true))
theorem mapsEq_must {p0:(List (FailZ×Bool))}{p1:(List (FailZ×Bool))}{r:Bool} (hm:mapsEq_wp p0 p1 (fun x=>x=r)) {h0:Heap} (hB:HasB vars h0) {gm0:Nat} (hgm0:h0.get gm0=some (.map (encM encFail Value.bool p0))) {gm1:Nat} (hgm1:h0.get gm1=some (.map (encM encFail Value.bool p1))):CallD Tryz.prog NG 27 ⟨[.map (some gm0),.map (some gm1)]⟩ h0 (Value.bool r) h0:=by
 unfold mapsEq_wp at hm
 refine fwM Tryz.func27 hB (enc:=Value.bool) (fun r=>PureV.flat rfl) fun O=>?_;conv=>whnf
 refine gXM ?_
 refine lenMpG (ek:=encFail) (ev:=Value.bool) (m:=p0) (O.ext.get hgm0) ?_;refine gH ?_
 refine lenMpG (ek:=encFail) (ev:=Value.bool) (m:=p1) (O.ext.get hgm1) ?_;refine gXM ?_
 refine br hm (fun hm=>?_) fun hm=>?_
 ·refine gXM ?_
  exact fe hm O
 ·refine Ms rfl ?_;conv=>whnf
  refine jnM hm 34 [] (fun s=>s) (fun _ h=>Own vars h0 [] h) (fun _=>[]) (fun hm=>?_) ?_
  ·refine gXM ?_
   refine O.rngG (ek:=encFail) (ev:=Value.bool) (m:=p0) (O.ext.get hgm0) fun g2 h O=>?_;refine gXM ?_
   refine mpM 34 [1,15] (σ:=Unit) (fun s=>s) (es:=p0) (ent:=fun p=>(encFail p.1,Value.bool p.2)) (fun _ seen h=>Own vars h0 [((some g2),.rng gm0 seen p0.length)] h) (fun _=>[]) () hm O (by rintro _ seen h q;have O:=q;exact O.at (.head _)) (by rintro _ seen h q;have O:=q;exact (O.ext.get hgm0)) (by rintro _ seen i h q;have O:=q;exact O.upd (.head _) (Upd.upd _ (Heap.lt_of_get (O.at (.head _))))) ?_ ?_
   ·clear hm;rintro _ seen base h hm O
    refine gXM ?_
    refine bf ?_;refine gXM ?_
    exact jx () hm (O.sel [] (by decide))
   ·clear hm;rintro _ seen i y5 nx4 base h hy6 hm O
    refine gXM ?_
    refine bt ?_;refine gXM ?_
    refine entMG (ek:=encFail) (ev:=Value.bool) (m:=p0) O (.head _) (O.ext.get hgm0) rfl hy6 ?_;refine gH ?_
    (first|refine O.new (anew_alloc (l:=[(i64 0),(.bool false),(i64 0)]) rfl rfl rfl) fun g7 h O=>?_|refine O.newX (anew_alloc (l:=[(i64 0),(.bool false),(i64 0)]) rfl rfl rfl) fun g7 h O=>?_);refine gH ?_
    refine O.stC 3 (.head _) [(z64 y5.1.test),(.bool y5.1.next),(z64 y5.1.index)] fun h O=>?_;refine gXM ?_
    refine ldA (O.at (.head _)) ?_;refine gH ?_
    refine⟨_,lookupOkK (ek:=encFail) (ev:=Value.bool) (m:=p1) (k:=y5.1) (z:=false) rfl rfl rfl (by kernel_rfl) (by kernel_rfl) (sameFail rfl) (O.ext.get hgm1) rfl rfl,?_⟩;refine gH ?_
    refine jnM hm 34 [1,15] (fun s=>s) (fun v9 h=>Own vars h0 [((some g2),.rng gm0 (seen++[i]) p0.length)] h) (fun v9=>[(33,(.bool v9))]) (fun hm=>?_) ?_
    ·refine gXM ?_
     refine br hm (fun hm=>?_) fun hm=>?_
     ·refine gXM ?_
      exact jx true hm (O.sel [1] (by decide))
     ·refine gXM ?_
      exact jx (y5.2 != ((mget p1 y5.1).getD false)) hm (O.sel [1] (by decide))
    ·clear hm;rintro v9 base h hm O
     refine gXM ?_
     refine br hm (fun hm=>?_) fun hm=>?_
     ·refine gXM ?_
      exact fe hm O
     ·refine gXM ?_
      exact jx () hm O
  ·clear hm;rintro _ base h hm O
   refine gXM ?_
   exact fe hm O
def mapsEqM_wp (p0:(List (FailZ×Bool))) (p1:(List (FailZ×Bool))) (K:Bool->Prop):Prop:=∃ r,mapsEq_wp p0 p1 (fun x=>x=r)/\K r
theorem mapsEqM_walk {p0:(List (FailZ×Bool))}{p1:(List (FailZ×Bool))}{K:Bool->Prop} (hm:mapsEqM_wp p0 p1 K) {h0:Heap} (hB:HasB vars h0) {gm0:Nat} (hgm0:h0.get gm0=some (.map (encM encFail Value.bool p0))) {gm1:Nat} (hgm1:h0.get gm1=some (.map (encM encFail Value.bool p1))):∃ r,K r/\CallD Tryz.prog NG 27 ⟨[.map (some gm0),.map (some gm1)]⟩ h0 (Value.bool r) h0:=by
 obtain⟨r,h1,h2⟩:=hm
 exact⟨r,h2,mapsEq_must h1 hB hgm0 hgm1⟩
def suspects_Rank_wp (p0:(List (List FailZ))) (p1:(List FailZ)) (K:(List Sus)->Prop):Prop :=
 joinW (α:=(List (FailZ×Bool))) (fun k4=>loopW (S:=((List (FailZ×Bool))×Nat)) (fun (v5,v6) nx7=>((ltN v6 p1.length)=true->∃ x8,p1[v6]?=some x8/\v6+1<2 ^ 63/\nx7 ((mset v5 x8 true),(v6+1)))/\((ltN v6 p1.length)=false->k4 v5)) (([]:List (FailZ×Bool)),0)) (fun v3=>32*p0.length<=2 ^ 48/\p0.length<2 ^ 63/\joinW (α:=(List Sus)) (fun k14=>loopW (S:=((List Sus)×Nat)) (fun (v15,v16) nx17=>((ltN v16 p0.length)=true->∃ x18,p0[v16]?=some x18/\joinW (α:=(Nat×Nat×Nat)) (fun k24=>joinW (α:=(List (FailZ×Bool))) (fun k28=>loopW (S:=((List (FailZ×Bool))×Nat)) (fun (v29,v30) nx31=>((ltN v30 x18.length)=true->∃ x32,x18[v30]?=some x32/\v30+1<2 ^ 63/\nx31 ((mset v29 x32 true),(v30+1)))/\((ltN v30 x18.length)=false->k28 v29)) (([]:List (FailZ×Bool)),0)) (fun v27=>mapW (α:=(FailZ×Bool)) (S:=(Nat×Nat×Nat)) v27 (fun y41 (v37,v38,v39) nx40=>(((mget v3 y41.1).getD false)=true->v37+1<2 ^ 63/\1<=v38/\v38<2 ^ 63/\nx40 ((v37+1),(v38-1),v39))/\(((mget v3 y41.1).getD false)=false->v39+1<2 ^ 63/\nx40 (v37,v38,(v39+1)))) (0,v3.length,0) (fun (v37,v38,v39)=>k24 (v37,v38,v39)))) (fun (v21,v22,v23)=>v16<p0.length/\∃ x45,v15[v16]?=some x45/\v16+1<2 ^ 63/\nx17 ((v15.set v16 (⟨v16,v21,v22,v23⟩:Sus)),(v16+1))))/\((ltN v16 p0.length)=false->k14 v15)) ((List.replicate p0.length ((⟨0,0,0,0⟩:Sus):Sus)),0)) (fun v13=>p0.length=v13.length/\v13.length<4611686018427387904/\(∀ x∈v13,susB x)/\∀ x46:List Sus,x46.Perm v13->x46.Pairwise susLe->p0.length=x46.length/\K x46))
theorem suspects_Rank_must {p0:(List (List FailZ))}{p1:(List FailZ)}{r:(List Sus)} (hm:suspects_Rank_wp p0 p1 (fun x=>x=r)) {h0:Heap} (hB:HasB vars h0):CallD Tryz.prog NG 10 ⟨[(encL 1 (encL 3 encFail)) p0,(encL 3 encFail) p1]⟩ h0 ((encK 4 encSus) r) h0:=by
 unfold suspects_Rank_wp at hm
 refine fwM Tryz.func10 hB (enc:=(encK 4 encSus)) (fun r=>pureC' (fun _=>pure_susC _)) fun O=>?_;conv=>whnf
 refine gXM ?_
 refine fg Tryz.func22 ?_;refine gXM ?_
 (first|refine O.new ((rfl:anew _ _ _=some (.map (encM encFail Value.bool ([]:List (FailZ×Bool))),fun g=>.map (some g)))) fun g1 h O=>?_|refine O.newX ((rfl:anew _ _ _=some (.map (encM encFail Value.bool ([]:List (FailZ×Bool))),fun g=>.map (some g)))) fun g1 h O=>?_);refine gH ?_
 refine jn hm 19 [3] (fun s=>s) (fun v3 h=>Own vars h0 [((some g1),.map (encM encFail Value.bool v3))] h) (fun v3=>[]) (fun hm=>?_) ?_
 ·refine gXM ?_
  refine lw 19 [3,9,10] (σ:=((List (FailZ×Bool))×Nat)) (fun s=>s) (fun (v5,v6) h=>Own vars h0 [((some g1),.map (encM encFail Value.bool v5))] h) (fun (v5,v6)=>[(11,(i64 v6))]) (([]:List (FailZ×Bool)),0) hm O ?_
  clear hm;rintro⟨v5,v6⟩ nx7 base h hm O
  refine gXM ?_
  refine br hm (fun hm=>?_) fun hm=>?_
  ·refine gXM ?_
   refine atF hm fun x8 hx8 hm=>?_;refine gH ?_
   (first|refine O.new (anew_alloc (l:=[(i64 0),(.bool false),(i64 0)]) rfl rfl rfl) fun g9 h O=>?_|refine O.newX (anew_alloc (l:=[(i64 0),(.bool false),(i64 0)]) rfl rfl rfl) fun g9 h O=>?_);refine gH ?_
   refine O.stC 3 (.head _) [(z64 x8.test),(.bool x8.next),(z64 x8.index)] fun h O=>?_;refine gXM ?_
   refine ldA (O.at (.head _)) ?_;refine gH ?_
   refine O.mapSet (ek:=encFail) (ev:=Value.bool) (m:=v5) (k:=x8) (v:=true) (.tail _ (.head _)) rfl rfl (by kernel_rfl) (sameFail rfl) rfl rfl rfl fun h O=>?_;refine gXM ?_
   refine aAdd hm fun hm=>?_;refine gH ?_
   exact jx ((mset v5 x8 true),(v6+1)) hm (O.sel [1] (by decide))
  ·refine gXM ?_
   exact jx v5 hm O
 ·clear hm;rintro v3 base h hm O
  refine gXM ?_
  refine O.mkL (enc:=encSus) 32 4 (⟨0,0,0,0⟩:Sus) hm fun g11 h O hm=>?_;refine gH ?_
  refine jnM hm 57 [6] (fun s=>s) (fun v13 h=>Own vars h0 [((some g11),.cells (flatC (v13.map encSus)) false)] h) (fun v13=>[]) (fun hm=>?_) ?_
  ·refine gXM ?_
   refine lwM 57 [5,6,16,17] (σ:=((List Sus)×Nat)) (fun s=>s) (fun (v15,v16) h=>Own vars h0 [((some g1),.map (encM encFail Value.bool v3)),((some g11),.cells (flatC (v15.map encSus)) false)] h) (fun (v15,v16)=>[(18,(i64 v16))]) ((List.replicate p0.length ((⟨0,0,0,0⟩:Sus):Sus)),0) hm (O.sel [1,0] (by decide)) ?_
   clear hm;rintro⟨v15,v16⟩ nx17 base h hm O
   refine gXM ?_
   refine br hm (fun hm=>?_) fun hm=>?_
   ·refine gXM ?_
    refine atF hm fun x18 hx18 hm=>?_;refine gXM ?_
    refine lenMpG (ek:=encFail) (ev:=Value.bool) (m:=v3) (O.at (.head _)) ?_;refine gH ?_
    (first|refine O.new (anew_alloc (l:=[(i64 0),(i64 0),(i64 0),(i64 0)]) rfl rfl rfl) fun g19 h O=>?_|refine O.newX (anew_alloc (l:=[(i64 0),(i64 0),(i64 0),(i64 0)]) rfl rfl rfl) fun g19 h O=>?_);refine gH ?_
    refine O.stC 4 (.head _) [(i64 v16),(i64 0),(i64 v3.length),(i64 0)] fun h O=>?_;refine gH ?_
    refine jnM hm 57 [5,6,7,9,16,17,18] (fun s=>s) (fun (v21,v22,v23) h=>Own vars h0 [((some g1),.map (encM encFail Value.bool v3)),((some g11),.cells (flatC (v15.map encSus)) false),((some g19),.cells [(i64 v16),(i64 v21),(i64 v22),(i64 v23)] false)] h) (fun (v21,v22,v23)=>[]) (fun hm=>?_) ?_
    ·refine gXM ?_
     refine fg Tryz.func22 ?_;refine gXM ?_
     (first|refine O.new ((rfl:anew _ _ _=some (.map (encM encFail Value.bool ([]:List (FailZ×Bool))),fun g=>.map (some g)))) fun g25 h O=>?_|refine O.newX ((rfl:anew _ _ _=some (.map (encM encFail Value.bool ([]:List (FailZ×Bool))),fun g=>.map (some g)))) fun g25 h O=>?_);refine gH ?_
     refine jn hm 19 [3] (fun s=>s) (fun v27 h=>Own vars h0 [((some g25),.map (encM encFail Value.bool v27)),((some g1),.map (encM encFail Value.bool v3)),((some g11),.cells (flatC (v15.map encSus)) false),((some g19),.cells [(i64 v16),(i64 0),(i64 v3.length),(i64 0)] false)] h) (fun v27=>[]) (fun hm=>?_) ?_
     ·refine gXM ?_
      refine lw 19 [3,9,10] (σ:=((List (FailZ×Bool))×Nat)) (fun s=>s) (fun (v29,v30) h=>Own vars h0 [((some g25),.map (encM encFail Value.bool v29)),((some g1),.map (encM encFail Value.bool v3)),((some g11),.cells (flatC (v15.map encSus)) false),((some g19),.cells [(i64 v16),(i64 0),(i64 v3.length),(i64 0)] false)] h) (fun (v29,v30)=>[(11,(i64 v30))]) (([]:List (FailZ×Bool)),0) hm (O.sel [0,2,3,1] (by decide)) ?_
      clear hm;rintro⟨v29,v30⟩ nx31 base h hm O
      refine gXM ?_
      refine br hm (fun hm=>?_) fun hm=>?_
      ·refine gXM ?_
       refine atF hm fun x32 hx32 hm=>?_;refine gH ?_
       (first|refine O.new (anew_alloc (l:=[(i64 0),(.bool false),(i64 0)]) rfl rfl rfl) fun g33 h O=>?_|refine O.newX (anew_alloc (l:=[(i64 0),(.bool false),(i64 0)]) rfl rfl rfl) fun g33 h O=>?_);refine gH ?_
       refine O.stC 3 (.head _) [(z64 x32.test),(.bool x32.next),(z64 x32.index)] fun h O=>?_;refine gXM ?_
       refine ldA (O.at (.head _)) ?_;refine gH ?_
       refine O.mapSet (ek:=encFail) (ev:=Value.bool) (m:=v29) (k:=x32) (v:=true) (.tail _ (.head _)) rfl rfl (by kernel_rfl) (sameFail rfl) rfl rfl rfl fun h O=>?_;refine gXM ?_
       refine aAdd hm fun hm=>?_;refine gH ?_
       exact jx ((mset v29 x32 true),(v30+1)) hm (O.sel [1,2,3,4] (by decide))
      ·refine gXM ?_
       exact jx v29 hm O
     ·clear hm;rintro v27 base h hm O
      refine gXM ?_
      refine O.rngG (ek:=encFail) (ev:=Value.bool) (m:=v27) (O.at (.head _)) fun g35 h O=>?_;refine gXM ?_
      refine mpM 57 [5,6,7,9,16,17,18,29] (σ:=(Nat×Nat×Nat)) (fun s=>s) (es:=v27) (ent:=fun p=>(encFail p.1,Value.bool p.2)) (fun (v37,v38,v39) seen h=>Own vars h0 [((some g1),.map (encM encFail Value.bool v3)),((some g11),.cells (flatC (v15.map encSus)) false),((some g19),.cells [(i64 v16),(i64 v37),(i64 v38),(i64 v39)] false),((some g35),.rng g25 seen v27.length),((some g25),.map (encM encFail Value.bool v27))] h) (fun (v37,v38,v39)=>[]) (0,v3.length,0) hm (O.sel [2,3,4,0,1] (by decide)) (by rintro⟨v37,v38,v39⟩ seen h q;have O:=q;exact O.at (.tail _ (.tail _ (.tail _ (.head _))))) (by rintro⟨v37,v38,v39⟩ seen h q;have O:=q;exact (O.at (.tail _ (.tail _ (.tail _ (.tail _ (.head _))))))) (by rintro⟨v37,v38,v39⟩ seen i h q;have O:=q;exact O.upd (.tail _ (.tail _ (.tail _ (.head _)))) (Upd.upd _ (Heap.lt_of_get (O.at (.tail _ (.tail _ (.tail _ (.head _)))))))) ?_ ?_
      ·clear hm;rintro⟨v37,v38,v39⟩ seen base h hm O
       refine gXM ?_
       refine bf ?_;refine gXM ?_
       exact jx (v37,v38,v39) hm (O.sel [0,1,2] (by decide))
      ·clear hm;rintro⟨v37,v38,v39⟩ seen i y41 nx40 base h hy42 hm O
       refine gXM ?_
       refine bt ?_;refine gXM ?_
       refine entMG (ek:=encFail) (ev:=Value.bool) (m:=v27) O (.tail _ (.tail _ (.tail _ (.head _)))) (O.at (.tail _ (.tail _ (.tail _ (.tail _ (.head _)))))) rfl hy42 ?_;refine gH ?_
       (first|refine O.new (anew_alloc (l:=[(i64 0),(.bool false),(i64 0)]) rfl rfl rfl) fun g43 h O=>?_|refine O.newX (anew_alloc (l:=[(i64 0),(.bool false),(i64 0)]) rfl rfl rfl) fun g43 h O=>?_);refine gH ?_
       refine O.stC 3 (.head _) [(z64 y41.1.test),(.bool y41.1.next),(z64 y41.1.index)] fun h O=>?_;refine gXM ?_
       refine ldA (O.at (.head _)) ?_;refine gH ?_
       refine⟨_,lookupK (ek:=encFail) (ev:=Value.bool) (m:=v3) (k:=y41.1) (z:=false) rfl rfl rfl (by kernel_rfl) (by kernel_rfl) (sameFail rfl) (O.at (.tail _ (.head _))) rfl rfl,?_⟩;refine gXM ?_
       refine br hm (fun hm=>?_) fun hm=>?_
       ·refine gXM ?_
        refine ldO (O.at (.tail _ (.tail _ (.tail _ (.head _))))) ?_;refine gH ?_
        refine aAdd hm fun hm=>?_;refine gH ?_
        refine O.stC 1 (.tail _ (.tail _ (.tail _ (.head _)))) [(i64 v16),(i64 (v37+1)),(i64 v38),(i64 v39)] fun h O=>?_;refine gXM ?_
        refine ldO (O.at (.tail _ (.tail _ (.tail _ (.head _))))) ?_;refine gH ?_
        refine aSub hm fun hm=>?_;refine gH ?_
        refine O.stC 1 (.tail _ (.tail _ (.tail _ (.head _)))) [(i64 v16),(i64 (v37+1)),(i64 (v38-1)),(i64 v39)] fun h O=>?_;refine gH ?_
        exact jx ((v37+1),(v38-1),v39) hm (O.sel [1,2,3,4,5] (by decide))
       ·refine gXM ?_
        refine ldO (O.at (.tail _ (.tail _ (.tail _ (.head _))))) ?_;refine gH ?_
        refine aAdd hm fun hm=>?_;refine gH ?_
        refine O.stC 1 (.tail _ (.tail _ (.tail _ (.head _)))) [(i64 v16),(i64 v37),(i64 v38),(i64 (v39+1))] fun h O=>?_;refine gH ?_
        exact jx (v37,v38,(v39+1)) hm (O.sel [1,2,3,4,5] (by decide))
    ·clear hm;rintro⟨v21,v22,v23⟩ base h hm O
     refine gXM ?_
     refine ldA (O.at (.tail _ (.tail _ (.head _)))) ?_;refine gH ?_
     refine ix 4 hm fun x45 hx45 hm=>?_;refine gH ?_
     refine O.stE 4 (.tail _ (.head _)) hx45 (⟨v16,v21,v22,v23⟩:Sus) fun h O=>?_;refine gXM ?_
     refine aAdd hm fun hm=>?_;refine gH ?_
     exact jx ((v15.set v16 (⟨v16,v21,v22,v23⟩:Sus)),(v16+1)) hm (O.sel [0,1] (by decide))
   ·refine gXM ?_
    exact jx v15 hm (O.sel [1] (by decide))
  ·clear hm;rintro v13 base h hm O
   refine gXM ?_
   obtain⟨x46,h,hp47,hs48,hcall,O⟩:=sortSus O (.head _) hm.1 hm.2.1 hm.2.2.1
   refine⟨_,_,hcall,?_⟩;refine gXM ?_
   replace hm:=hm.2.2.2 x46 hp47 hs48
   obtain⟨hn50,hm⟩:=hm
   exact⟨x46,hm,O.ext,fun h2 F=>VLe.toC (O.flatL F (Nat.le_refl _) (.head _) (fun _=>rfl) hn50) (hn50.trans (List.length_map ..).symm)⟩
def suspects_RankM_wp (p0:(List (List FailZ))) (p1:(List FailZ)) (K:(List Sus)->Prop):Prop:=∃ r,suspects_Rank_wp p0 p1 (fun x=>x=r)/\K r
theorem suspects_RankM_walk {p0:(List (List FailZ))}{p1:(List FailZ)}{K:(List Sus)->Prop} (hm:suspects_RankM_wp p0 p1 K) {h0:Heap} (hB:HasB vars h0):∃ r,K r/\CallD Tryz.prog NG 10 ⟨[(encL 1 (encL 3 encFail)) p0,(encL 3 encFail) p1]⟩ h0 ((encK 4 encSus) r) h0:=by
 obtain⟨r,h1,h2⟩:=hm
 exact⟨r,h2,suspects_Rank_must h1 hB⟩
set_option maxHeartbeats 8000000
def suspects_cone_f:Nat->Circ->Nat->List Bool->Nat->((List Bool)->Prop)->Prop
 |0,_,_,_,_,_=>False
 |fu+1,c,net,ds,nd,K=>net<nd/\∃ x1,ds[net]?=some x1/\(x1=true->K ds)/\(x1=false->net<nd/\∃ x2,ds[net]?=some x2/\∃ x3,c.nodes[net]?=some x3/\loopW (S:=((List Bool)×Nat)) (fun (v4,v5) nx6=>((ltN v5 x3.ins.length)=true->joinW (α:=(List Bool)) (fun k8=>∃ x9,x3.ins[v5]?=some x9/\∃ x10,c.nodes[net]?=some x10/\((neN x10.kind 14)=true->suspects_cone_f fu c x9 v4 nd (fun x11=>k8 x11))/\((neN x10.kind 14)=false->k8 v4)) (fun v7=>v5+1<2 ^ 63/\nx6 (v7,(v5+1))))/\((ltN v5 x3.ins.length)=false->K v4)) ((ds.set net true),0))
def suspects_cone_wp (c:Circ) (net:Nat) (ds:List Bool) (nd:Nat) (K:(List Bool)->Prop):Prop:=∃ n,suspects_cone_f n c net ds nd K
theorem suspects_cone_fwalk:∀ (n:Nat) {c:Circ}{net:Nat}{ds:List Bool}{nd:Nat}{gd:Nat}{L:List Slot}{K:(List Bool)->Prop} (_:suspects_cone_f n c net ds nd K) {h0 h:Heap}  (_:Own vars h0 (((some gd),.cells (flatC (ds.map Value.bool)) false)::L) h),∃ v h',CallD Tryz.prog NG 79 ⟨[(encCirc c),(i64 net),(.slice (some ⟨gd,0,none⟩) nd nd)]⟩ h v h'/\∃ (w0:(List Bool)),K w0/\v=.tuple ⟨[]⟩/\Own vars h0 (((some gd),.cells (flatC (w0.map Value.bool)) false)::L) h'/\True:=by
 intro n
 induction n with
 | zero=>intro c net ds nd gd L K hm;exact False.elim hm
 | succ fu ih =>
  intro c net ds nd gd L K hm h0 h O
  unfold suspects_cone_f at hm
  refine fg Tryz.func79 (Q:=fun v h'=>∃ (w0:(List Bool)),K w0/\v=.tuple ⟨[]⟩/\Own vars h0 (((some gd),.cells (flatC (w0.map Value.bool)) false)::L) h'/\True) ?_;conv=>whnf
  refine gX ?_
  refine fz ?_;refine gX ?_
  refine ix 1 hm fun x1 hx1 hm=>?_;refine gH ?_
  refine ldE (s:=1) (i:=0) (O.at (.head _)) hx1 ?_;refine gX ?_
  refine br hm (fun hm=>?_) fun hm=>?_
  ·refine gX ?_
   exact⟨ds,hm,rfl,O,trivial⟩
  ·refine gX ?_
   refine ix 1 hm fun x2 hx2 hm=>?_;refine gH ?_
   refine O.stE 1 (.head _) hx2 true fun h O=>?_;refine gX ?_
   refine atF hm fun x3 hx3 hm=>?_;refine gX ?_
   refine lw 38 [1,2,3,20,21] (σ:=((List Bool)×Nat)) (fun s=>s) (fun (v4,v5) h=>Own vars h0 (((some gd),.cells (flatC (v4.map Value.bool)) false)::L) h) (fun (v4,v5)=>[(22,(i64 v5))]) ((ds.set net true),0) hm O ?_
   clear hm;rintro⟨v4,v5⟩ nx6 base h hm O
   refine gX ?_
   refine br hm (fun hm=>?_) fun hm=>?_
   ·apply Cs;conv=>whnf
    refine jn hm 38 [1,2,3,20,21,22] (fun s=>s) (fun v7 h=>Own vars h0 (((some gd),.cells (flatC (v7.map Value.bool)) false)::L) h) (fun v7=>[]) (fun hm=>?_) ?_
    ·refine gX ?_
     refine atF hm fun x9 hx9 hm=>?_;refine gX ?_
     refine atF hm fun x10 hx10 hm=>?_;refine gX ?_
     refine br hm (fun hm=>?_) fun hm=>?_
     ·refine gX ?_
      obtain⟨_,h,hcall,x11,hm,rfl,O,_⟩:=ih hm  O
      refine⟨_,_,hcall,?_⟩;refine gH ?_
      exact jx x11 hm O
     ·refine gX ?_
      exact jx v4 hm O
    ·clear hm;rintro v7 base h hm O
     refine gX ?_
     refine aAdd hm fun hm=>?_;refine gH ?_
     exact jx (v7,(v5+1)) hm O
   ·refine gX ?_
    exact⟨v4,hm,rfl,O,trivial⟩
theorem suspects_cone_walk {c:Circ}{net:Nat}{ds:List Bool}{nd:Nat}{gd:Nat}{L:List Slot}{K:(List Bool)->Prop} (hm:suspects_cone_wp c net ds nd K) {h0 h:Heap}  (O:Own vars h0 (((some gd),.cells (flatC (ds.map Value.bool)) false)::L) h):∃ v h',CallD Tryz.prog NG 79 ⟨[(encCirc c),(i64 net),(.slice (some ⟨gd,0,none⟩) nd nd)]⟩ h v h'/\∃ (w0:(List Bool)),K w0/\v=.tuple ⟨[]⟩/\Own vars h0 (((some gd),.cells (flatC (w0.map Value.bool)) false)::L) h'/\True:=by
 obtain⟨n,hm⟩:=hm
 exact suspects_cone_fwalk n hm O
def sl_RepeatB_wp (p0:(List Bool)) (p1:Nat) (K:(List Bool)->Prop):Prop :=
 joinW (α:=Unit) (fun k1=>((ltN p1 0)=true->False)/\((ltN p1 0)=false->k1 ())) (fun _=>p0.length<2 ^ 63/\p1<2 ^ 63/\bits_Mul_wp p0.length p1 (fun r2=>joinW (α:=Unit) (fun k3=>joinW (α:=Bool) (fun k5=>((ltN 0 r2.1)=true->k5 true)/\((ltN 0 r2.1)=false->k5 (ltN 9223372036854775807 r2.2))) (fun v4=>(v4=true->False)/\(v4=false->k3 ()))) (fun _=>r2.2<2 ^ 63/\1*r2.2<=2 ^ 48/\r2.2<2 ^ 63/\0+r2.2<=(List.replicate r2.2 (false:Bool)).length/\joinW (α:=(List Bool)) (fun k9=>loopW (S:=((List Bool)×Nat)) (fun (v10,v11) nx12=>((ltN v11 r2.2)=true->v11<=r2.2/\v11<=r2.2/\v11+(r2.2-v11)<=v10.length/\v11<=v10.length/\v11+(min (r2.2-v11) (v10.take v11).length)<2 ^ 63/\nx12 ((copyN v10 v11 (r2.2-v11) (v10.take v11)),(v11+(min (r2.2-v11) (v10.take v11).length))))/\((ltN v11 r2.2)=false->k9 v10)) ((copyN (List.replicate r2.2 (false:Bool)) 0 r2.2 p0),(min r2.2 p0.length))) (fun v8=>r2.2=v8.length/\K v8))))
theorem sl_RepeatB_walkO {p0:(List Bool)}{p1:Nat}{K:(List Bool)->Prop} (hm:sl_RepeatB_wp p0 p1 K) {h0:Heap} (hB:HasB vars h0):∃ v h',CallD Tryz.prog NG 43 ⟨[(encL 1 Value.bool) p0,i64 p1]⟩ h0 v h'/\OwnRes vars h0 K (fun (r:(List Bool)) a=>clipV a (r.map Value.bool)) (fun (r:(List Bool))=>r) Value.bool false v h':=by
 unfold sl_RepeatB_wp at hm
 refine fg Tryz.func43 (Q:=OwnRes vars h0 K (fun (r:(List Bool)) a=>clipV a (r.map Value.bool)) (fun (r:(List Bool))=>r) Value.bool false) ?_;have O:=Own.start hB;conv=>whnf
 apply Cs;conv=>whnf
 apply Cs;refine gH ?_
 refine jn hm 48 [0,1] (fun s=>s) (fun _ h=>Own vars h0 [] h) (fun _=>[]) (fun hm=>?_) ?_
 ·refine gX ?_
  refine br hm (fun hm=>?_) fun hm=>?_
  ·refine gX ?_
   exact False.elim hm
  ·refine gX ?_
   exact jx () hm O
 ·clear hm;rintro _ base h hm O
  refine gX ?_
  refine aCv hm wU63 fun hm=>?_;refine gH ?_
  refine aCv hm wU63 fun hm=>?_;refine gH ?_
  refine ca (bits_Mul_walk hm O.has) fun r2 hm=>?_;refine gH ?_
  refine jn hm 48 [0,6] (fun s=>s) (fun _ h=>Own vars h0 [] h) (fun _=>[]) (fun hm=>?_) ?_
  ·refine jn hm 48 [0,6] (fun s=>s) (fun v4 h=>Own vars h0 [] h) (fun v4=>[(26,(.bool v4))]) (fun hm=>?_) ?_
   ·refine gX ?_
    refine br hm (fun hm=>?_) fun hm=>?_
    ·refine gX ?_
     exact jx true hm O
    ·refine gX ?_
     exact jx (ltN 9223372036854775807 r2.2) hm O
   ·clear hm;rintro v4 base h hm O
    refine gX ?_
    refine br hm (fun hm=>?_) fun hm=>?_
    ·refine gX ?_
     exact False.elim hm
    ·refine gX ?_
     exact jx () hm O
  ·clear hm;rintro _ base h hm O
   refine gX ?_
   refine aCv hm wrapI64 fun hm=>?_;refine gH ?_
   refine O.mkL (enc:=Value.bool) 1 1 false hm fun g6 h O hm=>?_;refine gX ?_
   refine O.copyW (enc:=Value.bool) (l:=(List.replicate r2.2 (false:Bool))) (src:=p0) (s:=1) (o:=0) (.head _) rfl rfl (by decide) rfl (SrcOk.fl rfl) (fun _=>rfl) (by decide) (fun _=>rfl) hm.1 fun h O=>?_;refine gH ?_
   replace hm:=hm.2
   refine jn hm 48 [7] (fun s=>s) (fun v8 h=>Own vars h0 [((some g6),.cells (flatC (v8.map Value.bool)) false)] h) (fun v8=>[]) (fun hm=>?_) ?_
   ·refine gX ?_
    refine lw 48 [7] (σ:=((List Bool)×Nat)) (fun s=>s) (fun (v10,v11) h=>Own vars h0 [((some g6),.cells (flatC (v10.map Value.bool)) false)] h) (fun (v10,v11)=>[(8,(i64 v11))]) ((copyN (List.replicate r2.2 (false:Bool)) 0 r2.2 p0),(min r2.2 p0.length)) hm O ?_
    clear hm;rintro⟨v10,v11⟩ nx12 base h hm O
    refine gX ?_
    refine br hm (fun hm=>?_) fun hm=>?_
    ·refine gX ?_
     refine winFrom (s:=1) (m:=v11) rfl rfl rfl rfl hm.1 ?_;refine gH ?_
     replace hm:=hm.2
     refine winTo (s:=1) (m:=v11) rfl rfl rfl rfl hm.1 ?_;refine gH ?_
     replace hm:=hm.2
     refine O.copyW (enc:=Value.bool) (l:=v10) (src:=(v10.take v11)) (s:=1) (o:=v11) (.head _) rfl rfl rfl rfl (SrcOk.win0 (O.at (.head _)) rfl (fun _=>rfl) hm.2.1) (fun _=>rfl) (by decide) (fun _=>rfl) hm.1 fun h O=>?_;refine gH ?_
     (first|refine⟨.inr (.inr (loadK rfl (O.at (.head _)) rfl rfl)),?_⟩|refine⟨.inr (.inr (loadK rfl (O.at (.tail _ (.head _))) rfl rfl)),?_⟩|refine⟨.inr (.inr (loadK rfl (O.at (.tail _ (.tail _ (.head _)))) rfl rfl)),?_⟩|refine⟨.inr (.inr (loadK rfl (O.at (.tail _ (.tail _ (.tail _ (.head _))))) rfl rfl)),?_⟩|refine⟨.inr (.inr (loadK rfl (O.at (.tail _ (.tail _ (.tail _ (.tail _ (.head _)))))) rfl rfl)),?_⟩|refine⟨.inr (.inr (loadK rfl (O.at (.tail _ (.tail _ (.tail _ (.tail _ (.tail _ (.head _))))))) rfl rfl)),?_⟩|refine⟨.inr (.inr (loadK rfl (O.at (.tail _ (.tail _ (.tail _ (.tail _ (.tail _ (.tail _ (.head _)))))))) rfl rfl)),?_⟩|refine⟨.inl (Ext.refl _),?_⟩|refine⟨.inr (.inr rfl),?_⟩|refine⟨.inr (by kernel_rfl),?_⟩|refine⟨.inl (by kernel_rfl),?_⟩|refine id ?_);refine gH ?_
     replace hm:=hm.2.2
     refine aAdd hm fun hm=>?_;refine gH ?_
     exact jx ((copyN v10 v11 (r2.2-v11) (v10.take v11)),(v11+(min (r2.2-v11) (v10.take v11).length))) hm O
    ·refine gX ?_
     exact jx v10 hm O
   ·clear hm;rintro v8 base h hm O
    refine gX ?_
    obtain⟨hn13,hm⟩:=hm
    exact⟨v8,some g6,hm,VLe.of_eq (clipE (l:=v8) (enc:=Value.bool) (g:=g6) hn13),(fun e=>nomatch e),(fun e=>nomatch e),O.sel [0] (by decide)⟩
def suspects_places_wp (p0:Circ) (K:Nat->Prop):Prop :=
 joinW (α:=Nat) (fun k2=>loopW (S:=(Nat×Nat)) (fun (v3,v4) nx5=>((ltN v4 p0.nodes.length)=true->joinW (α:=Nat) (fun k7=>∃ x8,p0.nodes[v4]?=some x8/\((eqN x8.kind 14)=true->v3+1<2 ^ 63/\k7 (v3+1))/\((eqN x8.kind 14)=false->k7 v3)) (fun v6=>v4+1<2 ^ 63/\nx5 (v6,(v4+1))))/\((ltN v4 p0.nodes.length)=false->k2 v3)) (p0.outs.length,0)) (fun v1=>K v1)
theorem suspects_places_walk {p0:Circ}{K:Nat->Prop} (hm:suspects_places_wp p0 K) {h0:Heap} (hB:HasB vars h0):∃ r,K r/\CallD Tryz.prog NG 52 ⟨[encCirc p0]⟩ h0 (i64 r) h0:=by
 unfold suspects_places_wp at hm
 refine fw Tryz.func52 hB (enc:=i64) (fun r=>PureV.flat rfl) fun O=>?_;conv=>whnf
 refine gX ?_
 refine fz ?_;refine gH ?_
 apply Cs;conv=>whnf
 apply Cs;refine gH ?_
 refine jn hm 23 [] (fun s=>s) (fun v1 h=>Own vars h0 [] h) (fun v1=>[(3,(i64 v1))]) (fun hm=>?_) ?_
 ·refine gX ?_
  refine lw 23 [10,11] (σ:=(Nat×Nat)) (fun s=>s) (fun (v3,v4) h=>Own vars h0 [] h) (fun (v3,v4)=>[(3,(i64 v3)),(12,(i64 v4))]) (p0.outs.length,0) hm O ?_
  clear hm;rintro⟨v3,v4⟩ nx5 base h hm O
  refine gX ?_
  refine br hm (fun hm=>?_) fun hm=>?_
  ·apply Cs;conv=>whnf
   refine jn hm 23 [10,11,12] (fun s=>s) (fun v6 h=>Own vars h0 [] h) (fun v6=>[(3,(i64 v6))]) (fun hm=>?_) ?_
   ·refine gX ?_
    refine atF hm fun x8 hx8 hm=>?_;refine gH ?_
    (first|refine O.new (anew_alloc (l:=[(n8 0),(.slice none 0 0),(i64 0),(i64 0)]) rfl rfl rfl) fun g9 h O=>?_|refine O.newX (anew_alloc (l:=[(n8 0),(.slice none 0 0),(i64 0),(i64 0)]) rfl rfl rfl) fun g9 h O=>?_);refine gH ?_
    refine O.stC 4 (.head _) [(n8 x8.kind),((encL 1 i64) x8.ins),(i64 x8.mem),(i64 x8.bit)] fun h O=>?_;refine gX ?_
    refine br hm (fun hm=>?_) fun hm=>?_
    ·refine gX ?_
     refine aAdd hm fun hm=>?_;refine gH ?_
     exact jx (v3+1) hm (O.sel [] (by decide))
    ·refine gX ?_
     exact jx v3 hm (O.sel [] (by decide))
   ·clear hm;rintro v6 base h hm O
    refine gX ?_
    refine aAdd hm fun hm=>?_;refine gH ?_
    exact jx (v6,(v4+1)) hm O
  ·refine gX ?_
   exact jx v3 hm O
 ·clear hm;rintro v1 base h hm O
  refine gX ?_
  exact fe hm O
def suspects_check_wp (p0:Circ) (p1:(List Flt)) (p2:(List Pat)) (K:Nat->Prop):Prop :=
 joinW (α:=Bool) (fun k2=>((ltN 65536 p1.length)=true->k2 true)/\((ltN 65536 p1.length)=false->((ltN 4096 p2.length)=true->k2 true)/\((ltN 4096 p2.length)=false->p1.length*p2.length<2 ^ 63/\suspects_places_wp p0 (fun r3=>(p1.length*p2.length)*r3<2 ^ 63/\k2 (ltN 1048576 ((p1.length*p2.length)*r3)))))) (fun v1=>(v1=true->K 3)/\(v1=false->faults_Lines_wp p0 (fun r4=>((neN r4.2 0)=true->K r4.2)/\((neN r4.2 0)=false->joinW (α:=Unit) (fun k5=>loopW (S:=Nat) (fun v6 nx7=>((ltN v6 p1.length)=true->∃ x8,p1[v6]?=some x8/\faults_Check_wp p0 x8 (fun r11=>((neN r11 0)=true->K r11)/\((neN r11 0)=false->((eqN x8.model 1)=true->K 7)/\((eqN x8.model 1)=false->v6+1<2 ^ 63/\nx7 (v6+1)))))/\((ltN v6 p1.length)=false->k5 ())) 0) (fun _=>joinW (α:=Unit) (fun k12=>loopW (S:=Nat) (fun v13 nx14=>((ltN v13 p2.length)=true->∃ x15,p2[v13]?=some x15/\sims_Check_wp p0 x15 (fun r18=>((neN r18 0)=true->K r18)/\((neN r18 0)=false->v13+1<2 ^ 63/\nx14 (v13+1))))/\((ltN v13 p2.length)=false->k12 ())) 0) (fun _=>K 0))))))
theorem suspects_check_walk {p0:Circ}{p1:(List Flt)}{p2:(List Pat)}{K:Nat->Prop} (hm:suspects_check_wp p0 p1 p2 K) {h0:Heap} (hB:HasB vars h0):∃ r,K r/\CallD Tryz.prog NG 32 ⟨[encCirc p0,(encL 5 encFlt) p1,(encL 2 encPat) p2]⟩ h0 (i64 r) h0:=by
 unfold suspects_check_wp at hm
 refine fw Tryz.func32 hB (enc:=i64) (fun r=>PureV.flat rfl) fun O=>?_;conv=>whnf
 refine gX ?_
 refine fz ?_;refine gH ?_
 apply Cs;conv=>whnf
 refine jn hm 71 [1,2,3] (fun s=>s) (fun v1 h=>Own vars h0 [] h) (fun v1=>[(33,(.bool v1))]) (fun hm=>?_) ?_
 ·refine gX ?_
  refine br hm (fun hm=>?_) fun hm=>?_
  ·refine gX ?_
   refine bt ?_;refine gH ?_
   exact jx true hm O
  ·refine gX ?_
   refine br hm (fun hm=>?_) fun hm=>?_
   ·refine gX ?_
    exact jx true hm O
   ·refine gX ?_
    refine aMul hm fun hm=>?_;refine gH ?_
    refine ca (suspects_places_walk hm O.has) fun r3 hm=>?_;refine gH ?_
    refine aMul hm fun hm=>?_;refine gH ?_
    exact jx (ltN 1048576 ((p1.length*p2.length)*r3)) hm O
 ·clear hm;rintro v1 base h hm O
  refine gX ?_
  refine br hm (fun hm=>?_) fun hm=>?_
  ·refine gX ?_
   exact fe hm O
  ·refine gX ?_
   refine ca (faults_Lines_walk hm O.has) fun r4 hm=>?_;refine gX ?_
   refine br hm (fun hm=>?_) fun hm=>?_
   ·refine gX ?_
    exact fe hm O
   ·apply Cs;conv=>whnf
    refine jn hm 71 [2,3] (fun s=>s) (fun _ h=>Own vars h0 [] h) (fun _=>[]) (fun hm=>?_) ?_
    ·refine gX ?_
     refine lw 71 [2,3,42,43] (σ:=Nat) (fun s=>s) (fun v6 h=>Own vars h0 [] h) (fun v6=>[(44,(i64 v6))]) 0 hm O ?_
     clear hm;rintro v6 nx7 base h hm O
     refine gX ?_
     refine br hm (fun hm=>?_) fun hm=>?_
     ·refine gX ?_
      refine atF hm fun x8 hx8 hm=>?_;refine gH ?_
      (first|refine O.new (anew_alloc (l:=[(n8 0),(i64 0),(i64 0),(n8 0),(i64 0)]) rfl rfl rfl) fun g9 h O=>?_|refine O.newX (anew_alloc (l:=[(n8 0),(i64 0),(i64 0),(n8 0),(i64 0)]) rfl rfl rfl) fun g9 h O=>?_);refine gH ?_
      refine O.stC 5 (.head _) [(n8 x8.model),(i64 x8.line.node),(z64 x8.line.pin),(n8 x8.value),(i64 x8.other)] fun h O=>?_;refine gX ?_
      refine ldA (O.at (.head _)) ?_;refine gH ?_
      refine ca (faults_Check_walk hm O.has) fun r11 hm=>?_;refine gX ?_
      refine br hm (fun hm=>?_) fun hm=>?_
      ·refine gX ?_
       exact fe hm O
      ·refine gX ?_
       refine br hm (fun hm=>?_) fun hm=>?_
       ·refine gX ?_
        exact fe hm O
       ·refine gX ?_
        refine aAdd hm fun hm=>?_;refine gH ?_
        exact jx (v6+1) hm (O.sel [] (by decide))
     ·refine gX ?_
      exact jx () hm O
    ·clear hm;rintro _ base h hm O
     conv=>whnf
     refine jn hm 71 [] (fun s=>s) (fun _ h=>Own vars h0 [] h) (fun _=>[]) (fun hm=>?_) ?_
     ·refine gX ?_
      refine lw 71 [3,58,59] (σ:=Nat) (fun s=>s) (fun v13 h=>Own vars h0 [] h) (fun v13=>[(60,(i64 v13))]) 0 hm O ?_
      clear hm;rintro v13 nx14 base h hm O
      refine gX ?_
      refine br hm (fun hm=>?_) fun hm=>?_
      ·refine gX ?_
       refine atF hm fun x15 hx15 hm=>?_;refine gH ?_
       (first|refine O.new (anew_alloc (l:=[(.slice none 0 0),(.slice none 0 0)]) rfl rfl rfl) fun g16 h O=>?_|refine O.newX (anew_alloc (l:=[(.slice none 0 0),(.slice none 0 0)]) rfl rfl rfl) fun g16 h O=>?_);refine gH ?_
       refine O.stC 2 (.head _) [((encL 1 n8) x15.inp),((encL 1 n8) x15.state)] fun h O=>?_;refine gX ?_
       refine ldA (O.at (.head _)) ?_;refine gH ?_
       refine ca (sims_Check_walk hm O.has) fun r18 hm=>?_;refine gX ?_
       refine br hm (fun hm=>?_) fun hm=>?_
       ·refine gX ?_
        exact fe hm O
       ·refine gX ?_
        refine aAdd hm fun hm=>?_;refine gH ?_
        exact jx (v13+1) hm (O.sel [] (by decide))
      ·refine gX ?_
       exact jx () hm O
     ·clear hm;rintro _ base h hm O
      refine gX ?_
      exact fe hm O
def suspects_log_wp (p0:Circ) (p1:Flt) (p2:(List Pat)) (p3:(List Rsp)) (K:(List FailZ)->Prop):Prop :=
 joinW (α:=(List FailZ)) (fun k5=>loopW (S:=((List FailZ)×Nat)) (fun (v7,v8) nx10=>((ltN v8 p2.length)=true->joinW (α:=(List FailZ)) (fun k14=>∃ x15,p2[v8]?=some x15/\inject_Run_wp p0 p1 x15 (fun r18=>∃ x21,p3[v8]?=some x21/\inject_Differ_wp x21 r18.1 (fun r22=>joinW (α:=(List FailZ)) (fun k26=>loopW (S:=((List FailZ)×Nat)) (fun (v28,v29) nx31=>((ltN v29 r22.1.length)=true->∃ x32,r22.1[v29]?=some x32/\(v28.length+([(⟨(Int.ofNat v8),false,(Int.ofNat x32)⟩:FailZ)]:(List FailZ)).length)*24<=2 ^ 47/\v29+1<2 ^ 63/\nx31 ((v28++([(⟨(Int.ofNat v8),false,(Int.ofNat x32)⟩:FailZ)]:(List FailZ))),(v29+1)))/\((ltN v29 r22.1.length)=false->k26 v28)) (v7,0)) (fun v24=>loopW (S:=((List FailZ)×Nat)) (fun (v36,v37) nx39=>((ltN v37 r22.2.length)=true->∃ x40,r22.2[v37]?=some x40/\(v36.length+([(⟨(Int.ofNat v8),true,(Int.ofNat x40)⟩:FailZ)]:(List FailZ)).length)*24<=2 ^ 47/\v37+1<2 ^ 63/\nx39 ((v36++([(⟨(Int.ofNat v8),true,(Int.ofNat x40)⟩:FailZ)]:(List FailZ))),(v37+1)))/\((ltN v37 r22.2.length)=false->k14 v36)) (v24,0))))) (fun v12=>v8+1<2 ^ 63/\nx10 (v12,(v8+1))))/\((ltN v8 p2.length)=false->k5 v7)) (([]:List FailZ),0)) (fun v3=>K v3)
theorem suspects_log_walk {p0:Circ}{p1:Flt}{p2:(List Pat)}{p3:(List Rsp)}{K:(List FailZ)->Prop} (hm:suspects_log_wp p0 p1 p2 p3 K) {h0:Heap} (hB:HasB vars h0):∃ r,K r/\CallD Tryz.prog NG 33 ⟨[encCirc p0,encFlt p1,(encL 2 encPat) p2,(encL 2 encRsp) p3]⟩ h0 ((encL 3 encFail) r) h0:=by
 unfold suspects_log_wp at hm
 refine fw Tryz.func33 hB (enc:=(encL 3 encFail)) (fun r=>pureL (fun _=>pure_failC _)) fun O=>?_;conv=>whnf
 refine gX ?_
 refine fz ?_;refine gH ?_
 refine fz ?_;refine gH ?_
 apply Cs;conv=>whnf
 apply Cs;refine gH ?_
 have O:=O.addNil (.cells (flatC ((([]:List FailZ)).map encFail)) false)
 refine jn (σ:=(List FailZ)×Option Nat) hm 74 [] (fun s=>s.1) (fun (v3,a2) h=>(a2=none->v3=[])/\Own vars h0 [(a2,.cells (flatC (v3.map encFail)) false)] h) (fun (v3,a2)=>[(9,(growV 3 a2 (v3.map encFail)))]) (fun hm=>?_) ?_
 ·refine gX ?_
  refine lw 74 [3,4,5,21,22] (σ:=((List FailZ)×Nat)×Option Nat) (fun s=>s.1) (fun ((v7,v8),a6) h=>(a6=none->v7=[])/\Own vars h0 [(a6,.cells (flatC (v7.map encFail)) false)] h) (fun ((v7,v8),a6)=>[(9,(growV 3 a6 (v7.map encFail))),(23,(i64 v8))]) ((([]:List FailZ),0),none) hm ⟨(fun _=>rfl),O⟩ ?_
  clear hm;rintro⟨⟨v7,v8⟩,a6⟩ nx10 base h hm ⟨ha9,O⟩
  refine gX ?_
  refine br hm (fun hm=>?_) fun hm=>?_
  ·apply Cs;conv=>whnf
   refine jn (σ:=(List FailZ)×Option Nat) hm 74 [3,4,5,21,22,23] (fun s=>s.1) (fun (v12,a11) h=>(a11=none->v12=[])/\Own vars h0 [(a11,.cells (flatC (v12.map encFail)) false)] h) (fun (v12,a11)=>[(9,(growV 3 a11 (v12.map encFail)))]) (fun hm=>?_) ?_
   ·refine gX ?_
    refine atF hm fun x15 hx15 hm=>?_;refine gH ?_
    (first|refine O.new (anew_alloc (l:=[(.slice none 0 0),(.slice none 0 0)]) rfl rfl rfl) fun g16 h O=>?_|refine O.newX (anew_alloc (l:=[(.slice none 0 0),(.slice none 0 0)]) rfl rfl rfl) fun g16 h O=>?_);refine gH ?_
    refine O.stC 2 (.head _) [((encL 1 n8) x15.inp),((encL 1 n8) x15.state)] fun h O=>?_;refine gX ?_
    refine ldA (O.at (.head _)) ?_;refine gH ?_
    refine ca (inject_Run_walk hm O.has) fun r18 hm=>?_;refine gH ?_
    (first|refine O.new (anew_alloc (l:=[(.slice none 0 0),(.slice none 0 0)]) rfl rfl rfl) fun g19 h O=>?_|refine O.newX (anew_alloc (l:=[(.slice none 0 0),(.slice none 0 0)]) rfl rfl rfl) fun g19 h O=>?_);refine gH ?_
    refine O.stC 2 (.head _) [((encL 1 n8) r18.1.out),((encL 1 n8) r18.1.next)] fun h O=>?_;refine gX ?_
    refine atF hm fun x21 hx21 hm=>?_;refine gH ?_
    first|refine⟨.inr (.inr (rfl)),?_⟩|refine⟨.inr (.inl (by kernel_rfl)),?_⟩
    refine gX ?_
    refine ldA (O.at (.head _)) ?_;refine gH ?_
    first|refine⟨.inr (.inr (loadAggK rfl (O.at (.head _)) rfl rfl (lbE rfl) rfl)),?_⟩|refine⟨.inr (.inl (by kernel_rfl)),?_⟩
    refine gX ?_
    refine ca (inject_Differ_walk hm O.has) fun r22 hm=>?_;refine gH ?_
    (first|refine⟨.inr (.inr (loadK rfl (O.at (.head _)) rfl rfl)),?_⟩|refine⟨.inr (.inr (loadK rfl (O.at (.tail _ (.head _))) rfl rfl)),?_⟩|refine⟨.inr (.inr (loadK rfl (O.at (.tail _ (.tail _ (.head _)))) rfl rfl)),?_⟩|refine⟨.inr (.inr (loadK rfl (O.at (.tail _ (.tail _ (.tail _ (.head _))))) rfl rfl)),?_⟩|refine⟨.inr (.inr (loadK rfl (O.at (.tail _ (.tail _ (.tail _ (.tail _ (.head _)))))) rfl rfl)),?_⟩|refine⟨.inr (.inr (loadK rfl (O.at (.tail _ (.tail _ (.tail _ (.tail _ (.tail _ (.head _))))))) rfl rfl)),?_⟩|refine⟨.inr (.inr (loadK rfl (O.at (.tail _ (.tail _ (.tail _ (.tail _ (.tail _ (.tail _ (.head _)))))))) rfl rfl)),?_⟩|refine⟨.inl (Ext.refl _),?_⟩|refine⟨.inr (.inr rfl),?_⟩|refine⟨.inr (by kernel_rfl),?_⟩|refine⟨.inl (by kernel_rfl),?_⟩|refine id ?_);refine gH ?_
    refine jn (σ:=(List FailZ)×Option Nat) hm 74 [3,4,5,10,16,21,22,23] (fun s=>s.1) (fun (v24,a23) h=>(a23=none->v24=[])/\Own vars h0 [(a23,.cells (flatC (v24.map encFail)) false)] h) (fun (v24,a23)=>[(9,(growV 3 a23 (v24.map encFail)))]) (fun hm=>?_) ?_
    ·refine gX ?_
     refine lw 74 [3,4,5,10,16,21,22,23,45,46] (σ:=((List FailZ)×Nat)×Option Nat) (fun s=>s.1) (fun ((v28,v29),a27) h=>(a27=none->v28=[])/\Own vars h0 [(a27,.cells (flatC (v28.map encFail)) false)] h) (fun ((v28,v29),a27)=>[(9,(growV 3 a27 (v28.map encFail))),(47,(i64 v29))]) ((v7,0),a6) hm ⟨ha9,(O.sel [2] (by decide))⟩ ?_
     clear hm;rintro⟨⟨v28,v29⟩,a27⟩ nx31 base h hm ⟨ha30,O⟩
     refine gX ?_
     refine br hm (fun hm=>?_) fun hm=>?_
     ·refine gX ?_
      refine atF hm fun x32 hx32 hm=>?_;refine gX ?_
      refine fz ?_;refine gH ?_
      refine O.apL (enc:=encFail) (l:=v28) (new:=([(⟨(Int.ofNat v8),false,(Int.ofNat x32)⟩:FailZ)]:(List FailZ))) 3 (.head _) ha30 hm fun a33 h ha34 O hm=>?_;refine gX ?_
      refine aAdd hm fun hm=>?_;refine gH ?_
      exact jx (((v28++([(⟨(Int.ofNat v8),false,(Int.ofNat x32)⟩:FailZ)]:(List FailZ))),(v29+1)),a33) hm ⟨ha34,O⟩
     ·refine gX ?_
      exact jx (v28,a27) hm ⟨ha30,O⟩
    ·clear hm;rintro⟨v24,a23⟩ base h hm ⟨ha25,O⟩
     refine gX ?_
     refine lw 74 [3,4,5,10,21,22,23,58,59] (σ:=((List FailZ)×Nat)×Option Nat) (fun s=>s.1) (fun ((v36,v37),a35) h=>(a35=none->v36=[])/\Own vars h0 [(a35,.cells (flatC (v36.map encFail)) false)] h) (fun ((v36,v37),a35)=>[(9,(growV 3 a35 (v36.map encFail))),(60,(i64 v37))]) ((v24,0),a23) hm ⟨ha25,O⟩ ?_
     clear hm;rintro⟨⟨v36,v37⟩,a35⟩ nx39 base h hm ⟨ha38,O⟩
     refine gX ?_
     refine br hm (fun hm=>?_) fun hm=>?_
     ·refine gX ?_
      refine atF hm fun x40 hx40 hm=>?_;refine gX ?_
      refine fz ?_;refine gH ?_
      refine O.apL (enc:=encFail) (l:=v36) (new:=([(⟨(Int.ofNat v8),true,(Int.ofNat x40)⟩:FailZ)]:(List FailZ))) 3 (.head _) ha38 hm fun a41 h ha42 O hm=>?_;refine gX ?_
      refine aAdd hm fun hm=>?_;refine gH ?_
      exact jx (((v36++([(⟨(Int.ofNat v8),true,(Int.ofNat x40)⟩:FailZ)]:(List FailZ))),(v37+1)),a41) hm ⟨ha42,O⟩
     ·refine gX ?_
      exact jx (v36,a35) hm ⟨ha38,O⟩
   ·clear hm;rintro⟨v12,a11⟩ base h hm ⟨ha13,O⟩
    refine gX ?_
    refine aAdd hm fun hm=>?_;refine gH ?_
    exact jx ((v12,(v8+1)),a11) hm ⟨ha13,O⟩
  ·refine gX ?_
   exact jx (v7,a6) hm ⟨ha9,O⟩
 ·clear hm;rintro⟨v3,a2⟩ base h hm ⟨ha4,O⟩
  refine gX ?_
  refine fg Tryz.func55 ?_;refine gX ?_
  refine clipK (s:=3) (enc:=encFail) (l:=v3) (n:=v3.length) (m:=v3.length) rfl rfl rfl rfl rfl rfl rfl ?_;refine gX ?_
  exact⟨v3,hm,O.ext,fun h2 F=>O.clipL F (Nat.le_refl _) (.head _) ha4 (fun _=>rfl)⟩
def suspects_Dictionary_wp (p0:Circ) (p1:(List Flt)) (p2:(List Pat)) (K:((List (List FailZ))×Nat)->Prop):Prop :=
 suspects_check_wp p0 p1 p2 (fun r1=>((neN r1 0)=true->K ([],r1))/\((neN r1 0)=false->joinW (α:=(List Rsp)) (fun k6=>loopW (S:=((List Rsp)×Nat)) (fun (v8,v9) nx11=>((ltN v9 p2.length)=true->∃ x12,p2[v9]?=some x12/\sims_Run_wp p0 x12 (fun r15=>(v8.length+([r15.1]:(List Rsp)).length)*48<=2 ^ 47/\v9+1<2 ^ 63/\nx11 ((v8++([r15.1]:(List Rsp))),(v9+1))))/\((ltN v9 p2.length)=false->k6 v8)) (([]:List Rsp),0)) (fun v4=>24*p1.length<=2 ^ 48/\p1.length<2 ^ 63/\joinW (α:=(List (List FailZ))) (fun k23=>loopW (S:=((List (List FailZ))×Nat)) (fun (v24,v25) nx26=>((ltN v25 p1.length)=true->∃ x27,p1[v25]?=some x27/\suspects_log_wp p0 x27 p2 v4 (fun r30=>v25<p1.length/\∃ x31,v24[v25]?=some x31/\v25+1<2 ^ 63/\nx26 ((v24.set v25 r30),(v25+1))))/\((ltN v25 p1.length)=false->k23 v24)) ((List.replicate p1.length ([]:(List FailZ))),0)) (fun v22=>p1.length=v22.length/\K (v22,0)))))
theorem suspects_Dictionary_walk {p0:Circ}{p1:(List Flt)}{p2:(List Pat)}{K:((List (List FailZ))×Nat)->Prop} (hm:suspects_Dictionary_wp p0 p1 p2 K) {h0:Heap} (hB:HasB vars h0):∃ r,K r/\CallD Tryz.prog NG 14 ⟨[encCirc p0,(encL 5 encFlt) p1,(encL 2 encPat) p2]⟩ h0 ((fun (r:((List (List FailZ))×Nat))=>Value.tuple ⟨[(encL 1 (encL 3 encFail)) (r.1),i64 (r.2)]⟩) r) h0:=by
 unfold suspects_Dictionary_wp at hm
 refine fw Tryz.func14 hB (enc:=(fun (r:((List (List FailZ))×Nat))=>Value.tuple ⟨[(encL 1 (encL 3 encFail)) (r.1),i64 (r.2)]⟩)) (fun r=>PureV.tup (AllPure.cons (pureL (fun _=>AllPure.cons (pureL (fun _=>pure_failC _)) AllPure.nil)) (AllPure.cons (PureV.flat rfl) (AllPure.nil)))) fun O=>?_;conv=>whnf
 refine gX ?_
 refine fz ?_;refine gX ?_
 refine ca (suspects_check_walk hm O.has) fun r1 hm=>?_;refine gX ?_
 refine br hm (fun hm=>?_) fun hm=>?_
 ·refine gX ?_
  exact⟨([],r1),hm,O.ext,fun h2 F=>VLe.tup (LLe.cons (VLe.nil _ _) (LLe.cons (VLe.refl _ _) (LLe.nil _)))⟩
 ·apply Cs;conv=>whnf
  apply Cs;conv=>whnf
  apply Cs;refine gH ?_
  have O:=O.addNil (.cells (flatC ((([]:List Rsp)).map encRsp)) false)
  refine jn (σ:=(List Rsp)×Option Nat) hm 63 [1,2,3] (fun s=>s.1) (fun (v4,a3) h=>(a3=none->v4=[])/\Own vars h0 [(a3,.cells (flatC (v4.map encRsp)) false)] h) (fun (v4,a3)=>[(9,(growV 2 a3 (v4.map encRsp)))]) (fun hm=>?_) ?_
  ·refine gX ?_
   refine lw 63 [1,2,3,25,26] (σ:=((List Rsp)×Nat)×Option Nat) (fun s=>s.1) (fun ((v8,v9),a7) h=>(a7=none->v8=[])/\Own vars h0 [(a7,.cells (flatC (v8.map encRsp)) false)] h) (fun ((v8,v9),a7)=>[(9,(growV 2 a7 (v8.map encRsp))),(27,(i64 v9))]) ((([]:List Rsp),0),none) hm ⟨(fun _=>rfl),O⟩ ?_
   clear hm;rintro⟨⟨v8,v9⟩,a7⟩ nx11 base h hm ⟨ha10,O⟩
   refine gX ?_
   refine br hm (fun hm=>?_) fun hm=>?_
   ·refine gX ?_
    refine atF hm fun x12 hx12 hm=>?_;refine gH ?_
    (first|refine O.new (anew_alloc (l:=[(.slice none 0 0),(.slice none 0 0)]) rfl rfl rfl) fun g13 h O=>?_|refine O.newX (anew_alloc (l:=[(.slice none 0 0),(.slice none 0 0)]) rfl rfl rfl) fun g13 h O=>?_);refine gH ?_
    refine O.stC 2 (.head _) [((encL 1 n8) x12.inp),((encL 1 n8) x12.state)] fun h O=>?_;refine gX ?_
    refine ldA (O.at (.head _)) ?_;refine gH ?_
    refine ca (sims_Run_walk hm O.has) fun r15 hm=>?_;refine gH ?_
    (first|refine O.new (anew_alloc (l:=[(.slice none 0 0),(.slice none 0 0)]) rfl rfl rfl) fun g16 h O=>?_|refine O.newX (anew_alloc (l:=[(.slice none 0 0),(.slice none 0 0)]) rfl rfl rfl) fun g16 h O=>?_);refine gH ?_
    refine O.stC 2 (.head _) [((encL 1 n8) r15.1.out),((encL 1 n8) r15.1.next)] fun h O=>?_;refine gX ?_
    refine ldA (O.at (.head _)) ?_;refine gH ?_
    refine fz ?_;refine gH ?_
    refine O.apL (enc:=encRsp) (l:=v8) (new:=([r15.1]:(List Rsp))) 2 (.tail _ (.tail _ (.head _))) ha10 hm fun a18 h ha19 O hm=>?_;refine gX ?_
    refine aAdd hm fun hm=>?_;refine gH ?_
    exact jx (((v8++([r15.1]:(List Rsp))),(v9+1)),a18) hm ⟨ha19,(O.sel [2] (by decide))⟩
   ·refine gX ?_
    exact jx (v8,a7) hm ⟨ha10,O⟩
  ·clear hm;rintro⟨v4,a3⟩ base h hm ⟨ha5,O⟩
   conv=>whnf
   apply Cs;conv=>whnf
   refine CodeS.freezeT O (.head _) ha5 (fun _=>rfl) (t:=9) rfl rfl fun h O=>?_;refine gX ?_
   refine O.mkL (enc:=fun _:Unit=>Value.slice none 0 0) 24 1 () hm fun g20 h O hm=>?_;refine gH ?_
   refine CodeS.ghostLe (cs':=flatC ((List.replicate p1.length ([]:(List FailZ))).map (encL 3 encFail))) O (.head _) (t2:=15) rfl rfl (flRep ..) fun h O=>?_
   refine jn hm 63 [15] (fun s=>s) (fun v22 h=>Own vars h0 [((some g20),.cells (flatC (v22.map (encL 3 encFail))) false)] h) (fun v22=>[]) (fun hm=>?_) ?_
   ·refine gX ?_
    refine lw 63 [2,3,9,15,46,47] (σ:=((List (List FailZ))×Nat)) (fun s=>s) (fun (v24,v25) h=>Own vars h0 [((some g20),.cells (flatC (v24.map (encL 3 encFail))) false)] h) (fun (v24,v25)=>[(48,(i64 v25))]) ((List.replicate p1.length ([]:(List FailZ))),0) hm (O.sel [0] (by decide)) ?_
    clear hm;rintro⟨v24,v25⟩ nx26 base h hm O
    refine gX ?_
    refine br hm (fun hm=>?_) fun hm=>?_
    ·refine gX ?_
     refine atF hm fun x27 hx27 hm=>?_;refine gH ?_
     (first|refine O.new (anew_alloc (l:=[(n8 0),(i64 0),(i64 0),(n8 0),(i64 0)]) rfl rfl rfl) fun g28 h O=>?_|refine O.newX (anew_alloc (l:=[(n8 0),(i64 0),(i64 0),(n8 0),(i64 0)]) rfl rfl rfl) fun g28 h O=>?_);refine gH ?_
     refine O.stC 5 (.head _) [(n8 x27.model),(i64 x27.line.node),(z64 x27.line.pin),(n8 x27.value),(i64 x27.other)] fun h O=>?_;refine gX ?_
     refine ldA (O.at (.head _)) ?_;refine gH ?_
     refine ca (suspects_log_walk hm O.has) fun r30 hm=>?_;refine gH ?_
     refine ix 1 hm fun x31 hx31 hm=>?_;refine gH ?_
     refine O.stE 1 (.tail _ (.head _)) hx31 r30 fun h O=>?_;refine gX ?_
     refine aAdd hm fun hm=>?_;refine gH ?_
     exact jx ((v24.set v25 r30),(v25+1)) hm (O.sel [1] (by decide))
    ·refine gX ?_
     exact jx v24 hm O
   ·clear hm;rintro v22 base h hm O
    refine gX ?_
    obtain⟨hn32,hm⟩:=hm
    exact⟨(v22,0),hm,O.ext,fun h2 F=>VLe.tup (LLe.cons (O.flatL F (Nat.le_refl _) (.head _) (fun _=>rfl) hn32) (LLe.cons (VLe.refl _ _) (LLe.nil _)))⟩
def suspects_Exact_wp (p0:(List (List FailZ))) (p1:(List FailZ)) (K:(List Nat)->Prop):Prop :=
 joinW (α:=(List (FailZ×Bool))) (fun k4=>loopW (S:=((List (FailZ×Bool))×Nat)) (fun (v5,v6) nx7=>((ltN v6 p1.length)=true->∃ x8,p1[v6]?=some x8/\v6+1<2 ^ 63/\nx7 ((mset v5 x8 true),(v6+1)))/\((ltN v6 p1.length)=false->k4 v5)) (([]:List (FailZ×Bool)),0)) (fun v3=>joinW (α:=(List Nat)) (fun k15=>loopW (S:=((List Nat)×Nat)) (fun (v17,v18) nx20=>((ltN v18 p0.length)=true->joinW (α:=(List Nat)) (fun k24=>∃ x25,p0[v18]?=some x25/\joinW (α:=(List (FailZ×Bool))) (fun k30=>loopW (S:=((List (FailZ×Bool))×Nat)) (fun (v31,v32) nx34=>((ltN v32 x25.length)=true->∃ x35,x25[v32]?=some x35/\v32+1<2 ^ 63/\nx34 ((mset v31 x35 true),(v32+1)))/\((ltN v32 x25.length)=false->k30 v31)) (([]:List (FailZ×Bool)),0)) (fun v28=>mapsEqM_wp v28 v3 (fun r38=>(r38=true->(v17.length+([v18]:(List Nat)).length)*8<=2 ^ 47/\k24 (v17++([v18]:(List Nat))))/\(r38=false->k24 v17)))) (fun v22=>v18+1<2 ^ 63/\nx20 (v22,(v18+1))))/\((ltN v18 p0.length)=false->k15 v17)) (([]:List Nat),0)) (fun v13=>K v13))
theorem suspects_Exact_walk {p0:(List (List FailZ))}{p1:(List FailZ)}{K:(List Nat)->Prop} (hm:suspects_Exact_wp p0 p1 K) {h0:Heap} (hB:HasB vars h0):∃ r,K r/\CallD Tryz.prog NG 12 ⟨[(encL 1 (encL 3 encFail)) p0,(encL 3 encFail) p1]⟩ h0 ((encK 1 i64) r) h0:=by
 unfold suspects_Exact_wp at hm
 refine fw Tryz.func12 hB (enc:=(encK 1 i64)) (fun r=>pureC' (fun _=>AllPure.cons (PureV.flat rfl) AllPure.nil)) fun O=>?_;conv=>whnf
 refine gX ?_
 refine fg Tryz.func22 ?_;refine gX ?_
 (first|refine O.new ((rfl:anew _ _ _=some (.map (encM encFail Value.bool ([]:List (FailZ×Bool))),fun g=>.map (some g)))) fun g1 h O=>?_|refine O.newX ((rfl:anew _ _ _=some (.map (encM encFail Value.bool ([]:List (FailZ×Bool))),fun g=>.map (some g)))) fun g1 h O=>?_);refine gH ?_
 refine jn hm 19 [3] (fun s=>s) (fun v3 h=>Own vars h0 [((some g1),.map (encM encFail Value.bool v3))] h) (fun v3=>[]) (fun hm=>?_) ?_
 ·refine gX ?_
  refine lw 19 [3,9,10] (σ:=((List (FailZ×Bool))×Nat)) (fun s=>s) (fun (v5,v6) h=>Own vars h0 [((some g1),.map (encM encFail Value.bool v5))] h) (fun (v5,v6)=>[(11,(i64 v6))]) (([]:List (FailZ×Bool)),0) hm O ?_
  clear hm;rintro⟨v5,v6⟩ nx7 base h hm O
  refine gX ?_
  refine br hm (fun hm=>?_) fun hm=>?_
  ·refine gX ?_
   refine atF hm fun x8 hx8 hm=>?_;refine gH ?_
   (first|refine O.new (anew_alloc (l:=[(i64 0),(.bool false),(i64 0)]) rfl rfl rfl) fun g9 h O=>?_|refine O.newX (anew_alloc (l:=[(i64 0),(.bool false),(i64 0)]) rfl rfl rfl) fun g9 h O=>?_);refine gH ?_
   refine O.stC 3 (.head _) [(z64 x8.test),(.bool x8.next),(z64 x8.index)] fun h O=>?_;refine gX ?_
   refine ldA (O.at (.head _)) ?_;refine gH ?_
   refine O.mapSet (ek:=encFail) (ev:=Value.bool) (m:=v5) (k:=x8) (v:=true) (.tail _ (.head _)) rfl rfl (by kernel_rfl) (sameFail rfl) rfl rfl rfl fun h O=>?_;refine gX ?_
   refine aAdd hm fun hm=>?_;refine gH ?_
   exact jx ((mset v5 x8 true),(v6+1)) hm (O.sel [1] (by decide))
  ·refine gX ?_
   exact jx v5 hm O
 ·clear hm;rintro v3 base h hm O
  conv=>whnf
  apply Cs;conv=>whnf
  apply Cs;refine gH ?_
  apply Cs;conv=>whnf
  refine gH ?_
  apply Cs;conv=>whnf
  apply Cs;refine gH ?_
  have O:=O.addNil (.cells (flatC ((([]:List Nat)).map i64)) false)
  refine jn (σ:=(List Nat)×Option Nat) hm 29 [] (fun s=>s.1) (fun (v13,a12) h=>(a12=none->v13=[])/\Own vars h0 [(a12,.cells (flatC (v13.map i64)) false)] h) (fun (v13,a12)=>[(6,(growV 1 a12 (v13.map i64)))]) (fun hm=>?_) ?_
  ·refine gX ?_
   refine lw 29 [5,11,12] (σ:=((List Nat)×Nat)×Option Nat) (fun s=>s.1) (fun ((v17,v18),a16) h=>(a16=none->v17=[])/\Own vars h0 [((some g1),.map (encM encFail Value.bool v3)),(a16,.cells (flatC (v17.map i64)) false)] h) (fun ((v17,v18),a16)=>[(6,(growV 1 a16 (v17.map i64))),(13,(i64 v18))]) ((([]:List Nat),0),none) hm ⟨(fun _=>rfl),(O.sel [1,0] (by decide))⟩ ?_
   clear hm;rintro⟨⟨v17,v18⟩,a16⟩ nx20 base h hm ⟨ha19,O⟩
   refine gX ?_
   refine br hm (fun hm=>?_) fun hm=>?_
   ·apply Cs;conv=>whnf
    refine jn (σ:=(List Nat)×Option Nat) hm 29 [5,11,12,13] (fun s=>s.1) (fun (v22,a21) h=>(a21=none->v22=[])/\Own vars h0 [((some g1),.map (encM encFail Value.bool v3)),(a21,.cells (flatC (v22.map i64)) false)] h) (fun (v22,a21)=>[(6,(growV 1 a21 (v22.map i64)))]) (fun hm=>?_) ?_
    ·refine gX ?_
     refine atF hm fun x25 hx25 hm=>?_;refine gX ?_
     refine fg Tryz.func22 ?_;refine gX ?_
     (first|refine O.new ((rfl:anew _ _ _=some (.map (encM encFail Value.bool ([]:List (FailZ×Bool))),fun g=>.map (some g)))) fun g26 h O=>?_|refine O.newX ((rfl:anew _ _ _=some (.map (encM encFail Value.bool ([]:List (FailZ×Bool))),fun g=>.map (some g)))) fun g26 h O=>?_);refine gH ?_
     refine jn hm 19 [3] (fun s=>s) (fun v28 h=>(a16=none->v17=[])/\Own vars h0 [((some g26),.map (encM encFail Value.bool v28)),((some g1),.map (encM encFail Value.bool v3)),(a16,.cells (flatC (v17.map i64)) false)] h) (fun v28=>[]) (fun hm=>?_) ?_
     ·refine gX ?_
      refine lw 19 [3,9,10] (σ:=((List (FailZ×Bool))×Nat)) (fun s=>s) (fun (v31,v32) h=>(a16=none->v17=[])/\Own vars h0 [((some g26),.map (encM encFail Value.bool v31)),((some g1),.map (encM encFail Value.bool v3)),(a16,.cells (flatC (v17.map i64)) false)] h) (fun (v31,v32)=>[(11,(i64 v32))]) (([]:List (FailZ×Bool)),0) hm ⟨ha19,O⟩ ?_
      clear hm;rintro⟨v31,v32⟩ nx34 base h hm ⟨ha33,O⟩
      refine gX ?_
      refine br hm (fun hm=>?_) fun hm=>?_
      ·refine gX ?_
       refine atF hm fun x35 hx35 hm=>?_;refine gH ?_
       (first|refine O.new (anew_alloc (l:=[(i64 0),(.bool false),(i64 0)]) rfl rfl rfl) fun g36 h O=>?_|refine O.newX (anew_alloc (l:=[(i64 0),(.bool false),(i64 0)]) rfl rfl rfl) fun g36 h O=>?_);refine gH ?_
       refine O.stC 3 (.head _) [(z64 x35.test),(.bool x35.next),(z64 x35.index)] fun h O=>?_;refine gX ?_
       refine ldA (O.at (.head _)) ?_;refine gH ?_
       refine O.mapSet (ek:=encFail) (ev:=Value.bool) (m:=v31) (k:=x35) (v:=true) (.tail _ (.head _)) rfl rfl (by kernel_rfl) (sameFail rfl) rfl rfl rfl fun h O=>?_;refine gX ?_
       refine aAdd hm fun hm=>?_;refine gH ?_
       exact jx ((mset v31 x35 true),(v32+1)) hm ⟨ha33,(O.sel [1,2,3] (by decide))⟩
      ·refine gX ?_
       exact jx v31 hm ⟨ha33,O⟩
     ·clear hm;rintro v28 base h hm ⟨ha29,O⟩
      refine gX ?_
      obtain⟨r38,hm,hcall⟩:=mapsEqM_walk hm O.has (O.at (.head _)) (O.at (.tail _ (.head _)))
      refine⟨_,_,hcall,?_⟩;refine gX ?_
      refine br hm (fun hm=>?_) fun hm=>?_
      ·refine gX ?_
       refine fz ?_;refine gH ?_
       refine O.apL (enc:=i64) (l:=v17) (new:=([v18]:(List Nat))) 1 (.tail _ (.tail _ (.head _))) ha29 hm fun a39 h ha40 O hm=>?_;refine gH ?_
       exact jx ((v17++([v18]:(List Nat))),a39) hm ⟨ha40,(O.sel [1,2] (by decide))⟩
      ·refine gX ?_
       exact jx (v17,a16) hm ⟨ha29,(O.sel [1,2] (by decide))⟩
    ·clear hm;rintro⟨v22,a21⟩ base h hm ⟨ha23,O⟩
     refine gX ?_
     refine aAdd hm fun hm=>?_;refine gH ?_
     exact jx ((v22,(v18+1)),a21) hm ⟨ha23,O⟩
   ·refine gX ?_
    exact jx (v17,a16) hm ⟨ha19,(O.sel [1] (by decide))⟩
  ·clear hm;rintro⟨v13,a12⟩ base h hm ⟨ha14,O⟩
   refine gX ?_
   refine fg Tryz.func28 ?_;refine gX ?_
   refine clipK (s:=1) (enc:=i64) (l:=v13) (n:=v13.length) (m:=v13.length) rfl rfl rfl rfl rfl rfl rfl ?_;refine gX ?_
   exact⟨v13,hm,O.ext,fun h2 F=>O.clipC F (Nat.le_refl _) (.head _) ha14 (fun _=>rfl)⟩
def suspects_causes_wp (p0:Circ) (p1:(List Nat)) (p2:FailZ) (K:((List Bool)×Bool)->Prop):Prop :=
 1*p0.nodes.length<=2 ^ 48/\p0.nodes.length<2 ^ 63/\joinW (α:=(List Bool)) (fun k4=>joinW (α:=Bool) (fun k6=>((ltI p2.test (Int.ofNat 0))=true->k6 true)/\((ltI p2.test (Int.ofNat 0))=false->((ltI p2.index (Int.ofNat 0))=true->k6 true)/\((ltI p2.index (Int.ofNat 0))=false->((!p2.next)=true->((!ltI p2.index (Int.ofNat p0.outs.length))=true->k6 true)/\((!ltI p2.index (Int.ofNat p0.outs.length))=false->(p2.next=true->k6 (!ltI p2.index (Int.ofNat p1.length)))/\(p2.next=false->k6 false)))/\((!p2.next)=false->(p2.next=true->k6 (!ltI p2.index (Int.ofNat p1.length)))/\(p2.next=false->k6 false))))) (fun v5=>(v5=true->K ([],false))/\(v5=false->(p2.next=true->∃ j8:Nat,p2.index=Int.ofNat j8/\∃ x7,p1[j8]?=some x7/\∃ x9,p0.nodes[x7]?=some x9/\∃ x10,x9.ins[0]?=some x10/\suspects_cone_wp p0 x10 (List.replicate p0.nodes.length (false:Bool)) p0.nodes.length (fun x11=>x7<p0.nodes.length/\∃ x12,x11[x7]?=some x12/\k4 (x11.set x7 true)))/\(p2.next=false->∃ j14:Nat,p2.index=Int.ofNat j14/\∃ x13,p0.outs[j14]?=some x13/\suspects_cone_wp p0 x13 (List.replicate p0.nodes.length (false:Bool)) p0.nodes.length (fun x15=>k4 x15))))) (fun v3=>p0.nodes.length=v3.length/\K (v3,true))
theorem suspects_causes_walk {p0:Circ}{p1:(List Nat)}{p2:FailZ}{K:((List Bool)×Bool)->Prop} (hm:suspects_causes_wp p0 p1 p2 K) {h0:Heap} (hB:HasB vars h0):∃ r,K r/\CallD Tryz.prog NG 44 ⟨[encCirc p0,(encL 1 i64) p1,encFail p2]⟩ h0 ((fun (r:((List Bool)×Bool))=>Value.tuple ⟨[(encL 1 Value.bool) (r.1),Value.bool (r.2)]⟩) r) h0:=by
 unfold suspects_causes_wp at hm
 refine fw Tryz.func44 hB (enc:=(fun (r:((List Bool)×Bool))=>Value.tuple ⟨[(encL 1 Value.bool) (r.1),Value.bool (r.2)]⟩)) (fun r=>PureV.tup (AllPure.cons (pureL (fun _=>AllPure.cons (PureV.flat rfl) AllPure.nil)) (AllPure.cons (PureV.flat rfl) (AllPure.nil)))) fun O=>?_;conv=>whnf
 refine gX ?_
 refine fz ?_;refine gH ?_
 refine fz ?_;refine gX ?_
 refine O.mkL (enc:=Value.bool) 1 1 false hm fun g1 h O hm=>?_;refine gH ?_
 refine jn hm 79 [8] (fun s=>s) (fun v3 h=>Own vars h0 [((some g1),.cells (flatC (v3.map Value.bool)) false)] h) (fun v3=>[]) (fun hm=>?_) ?_
 ·apply Cs;conv=>whnf
  refine jn hm 79 [1,3,5,8] (fun s=>s) (fun v5 h=>Own vars h0 [((some g1),.cells (flatC ((List.replicate p0.nodes.length (false:Bool)).map Value.bool)) false)] h) (fun v5=>[(23,(.bool v5))]) (fun hm=>?_) ?_
  ·refine gX ?_
   refine br hm (fun hm=>?_) fun hm=>?_
   ·refine gX ?_
    refine bt ?_;refine gH ?_
    refine bt ?_;refine gH ?_
    exact jx true hm O
   ·refine gX ?_
    refine br hm (fun hm=>?_) fun hm=>?_
    ·refine gX ?_
     refine bt ?_;refine gH ?_
     exact jx true hm O
    ·refine gX ?_
     refine br hm (fun hm=>?_) fun hm=>?_
     ·refine gX ?_
      refine br hm (fun hm=>?_) fun hm=>?_
      ·refine gX ?_
       exact jx true hm O
      ·refine gX ?_
       refine br hm (fun hm=>?_) fun hm=>?_
       ·refine gX ?_
        exact jx (!ltI p2.index (Int.ofNat p1.length)) hm O
       ·refine gX ?_
        exact jx false hm O
     ·refine gX ?_
      refine bf ?_;refine gH ?_
      refine br hm (fun hm=>?_) fun hm=>?_
      ·refine gX ?_
       exact jx (!ltI p2.index (Int.ofNat p1.length)) hm O
      ·refine gX ?_
       exact jx false hm O
  ·clear hm;rintro v5 base h hm O
   refine gX ?_
   refine br hm (fun hm=>?_) fun hm=>?_
   ·refine gX ?_
    exact⟨([],false),hm,O.ext,fun h2 F=>VLe.tup (LLe.cons (VLe.nil _ _) (LLe.cons (VLe.refl _ _) (LLe.nil _)))⟩
   ·refine gX ?_
    refine br hm (fun hm=>?_) fun hm=>?_
    ·refine gX ?_
     obtain⟨j8,hz,x7,hx7,hm⟩:=hm
     refine flAtM (s:=1) (enc:=i64) (j:=j8) rfl rfl rfl (congrArg (Value.int .i64) hz) hx7 ?_;refine gX ?_
     first|refine⟨.inr (.inr (rfl)),?_⟩|refine⟨.inr (.inl (by kernel_rfl)),?_⟩
     refine gX ?_
     first|refine⟨.inr (.inr (rfl)),?_⟩|refine⟨.inr (.inl (by kernel_rfl)),?_⟩
     refine gX ?_
     refine atF hm fun x9 hx9 hm=>?_;refine gH ?_
     first|refine⟨.inr (.inr (rfl)),?_⟩|refine⟨.inr (.inl (by kernel_rfl)),?_⟩
     refine gX ?_
     refine atF hm fun x10 hx10 hm=>?_;refine gH ?_
     obtain⟨_,h,hcall,x11,hm,rfl,O,_⟩:=suspects_cone_walk hm  O
     refine⟨_,_,hcall,?_⟩;refine gH ?_
     (first|refine⟨.inr (.inr (loadK rfl (O.at (.head _)) rfl rfl)),?_⟩|refine⟨.inr (.inr (loadK rfl (O.at (.tail _ (.head _))) rfl rfl)),?_⟩|refine⟨.inr (.inr (loadK rfl (O.at (.tail _ (.tail _ (.head _)))) rfl rfl)),?_⟩|refine⟨.inr (.inr (loadK rfl (O.at (.tail _ (.tail _ (.tail _ (.head _))))) rfl rfl)),?_⟩|refine⟨.inr (.inr (loadK rfl (O.at (.tail _ (.tail _ (.tail _ (.tail _ (.head _)))))) rfl rfl)),?_⟩|refine⟨.inr (.inr (loadK rfl (O.at (.tail _ (.tail _ (.tail _ (.tail _ (.tail _ (.head _))))))) rfl rfl)),?_⟩|refine⟨.inr (.inr (loadK rfl (O.at (.tail _ (.tail _ (.tail _ (.tail _ (.tail _ (.tail _ (.head _)))))))) rfl rfl)),?_⟩|refine⟨.inl (Ext.refl _),?_⟩|refine⟨.inr (.inr rfl),?_⟩|refine⟨.inr (by kernel_rfl),?_⟩|refine⟨.inl (by kernel_rfl),?_⟩|refine id ?_);refine gH ?_
     refine gX ?_
     refine ix 1 hm fun x12 hx12 hm=>?_;refine gH ?_
     refine O.stE 1 (.head _) hx12 true fun h O=>?_;refine gH ?_
     exact jx (x11.set x7 true) hm O
    ·refine gX ?_
     first|refine⟨.inr (.inr (rfl)),?_⟩|refine⟨.inr (.inl (by kernel_rfl)),?_⟩
     refine gX ?_
     first|refine⟨.inr (.inr (rfl)),?_⟩|refine⟨.inr (.inl (by kernel_rfl)),?_⟩
     refine gX ?_
     obtain⟨j14,hz,x13,hx13,hm⟩:=hm
     refine flAtM (s:=1) (enc:=i64) (j:=j14) rfl rfl rfl (congrArg (Value.int .i64) hz) hx13 ?_;refine gH ?_
     obtain⟨_,h,hcall,x15,hm,rfl,O,_⟩:=suspects_cone_walk hm  O
     refine⟨_,_,hcall,?_⟩;refine gH ?_
     (first|refine⟨.inr (.inr (loadK rfl (O.at (.head _)) rfl rfl)),?_⟩|refine⟨.inr (.inr (loadK rfl (O.at (.tail _ (.head _))) rfl rfl)),?_⟩|refine⟨.inr (.inr (loadK rfl (O.at (.tail _ (.tail _ (.head _)))) rfl rfl)),?_⟩|refine⟨.inr (.inr (loadK rfl (O.at (.tail _ (.tail _ (.tail _ (.head _))))) rfl rfl)),?_⟩|refine⟨.inr (.inr (loadK rfl (O.at (.tail _ (.tail _ (.tail _ (.tail _ (.head _)))))) rfl rfl)),?_⟩|refine⟨.inr (.inr (loadK rfl (O.at (.tail _ (.tail _ (.tail _ (.tail _ (.tail _ (.head _))))))) rfl rfl)),?_⟩|refine⟨.inr (.inr (loadK rfl (O.at (.tail _ (.tail _ (.tail _ (.tail _ (.tail _ (.tail _ (.head _)))))))) rfl rfl)),?_⟩|refine⟨.inl (Ext.refl _),?_⟩|refine⟨.inr (.inr rfl),?_⟩|refine⟨.inr (by kernel_rfl),?_⟩|refine⟨.inl (by kernel_rfl),?_⟩|refine id ?_);refine gH ?_
     exact jx x15 hm O
 ·clear hm;rintro v3 base h hm O
  refine gX ?_
  obtain⟨hn16,hm⟩:=hm
  exact⟨(v3,true),hm,O.ext,fun h2 F=>VLe.tup (LLe.cons (O.flatL F (Nat.le_refl _) (.head _) (fun _=>rfl) hn16) (LLe.cons (VLe.refl _ _) (LLe.nil _)))⟩
def suspects_Back_wp (p0:Circ) (p1:(List FailZ)) (K:((List Nat)×Nat)->Prop):Prop :=
 faults_Lines_wp p0 (fun r1=>((neN r1.2 0)=true->K ([],r1.2))/\((neN r1.2 0)=false->sl_RepeatB_wp ([true]:(List Bool)) p0.nodes.length (fun r2=>netlists_States_wp p0 (fun r7=>joinW (α:=(List Bool)) (fun k11=>loopW (S:=((List Bool)×Nat)) (fun (v13,v14) nx16=>((ltN v14 p1.length)=true->joinW (α:=(List Bool)) (fun k20=>∃ x21,p1[v14]?=some x21/\suspects_causes_wp p0 r7 x21 (fun r24=>((!r24.2)=true->K ([],1))/\((!r24.2)=false->loopW (S:=((List Bool)×Nat)) (fun (v26,v27) nx29=>((ltN v27 v13.length)=true->joinW (α:=(List Bool)) (fun k33=>∃ x34,v26[v27]?=some x34/\(x34=true->∃ x36,r24.1[v27]?=some x36/\∃ x37,v26[v27]?=some x37/\k33 (v26.set v27 x36))/\(x34=false->∃ x38,v26[v27]?=some x38/\k33 (v26.set v27 false))) (fun v31=>v27+1<2 ^ 63/\nx29 (v31,(v27+1))))/\((ltN v27 v13.length)=false->k20 v26)) (v13,0)))) (fun v18=>v14+1<2 ^ 63/\nx16 (v18,(v14+1))))/\((ltN v14 p1.length)=false->k11 v13)) (r2,0)) (fun v9=>joinW (α:=(List Nat)) (fun k43=>loopW (S:=((List Nat)×Nat)) (fun (v45,v47) nx50=>((ltN v47 v9.length)=true->joinW (α:=(List Nat)) (fun k56=>∃ x57,v9[v47]?=some x57/\(x57=true->(v45.length+([v47]:(List Nat)).length)*8<=2 ^ 47/\k56 (v45++([v47]:(List Nat))))/\(x57=false->k56 v45)) (fun v52=>v47+1<2 ^ 63/\nx50 (v52,(v47+1))))/\((ltN v47 v9.length)=false->k43 v45)) (([]:List Nat),0)) (fun v41=>K (v41,0)))))))
theorem suspects_Back_walk {p0:Circ}{p1:(List FailZ)}{K:((List Nat)×Nat)->Prop} (hm:suspects_Back_wp p0 p1 K) {h0:Heap} (hB:HasB vars h0):∃ r,K r/\CallD Tryz.prog NG 19 ⟨[encCirc p0,(encL 3 encFail) p1]⟩ h0 ((fun (r:((List Nat)×Nat))=>Value.tuple ⟨[(encK 1 i64) (r.1),i64 (r.2)]⟩) r) h0:=by
 unfold suspects_Back_wp at hm
 refine fw Tryz.func19 hB (enc:=(fun (r:((List Nat)×Nat))=>Value.tuple ⟨[(encK 1 i64) (r.1),i64 (r.2)]⟩)) (fun r=>PureV.tup (AllPure.cons (pureC' (fun _=>AllPure.cons (PureV.flat rfl) AllPure.nil)) (AllPure.cons (PureV.flat rfl) (AllPure.nil)))) fun O=>?_;conv=>whnf
 refine gX ?_
 refine fz ?_;refine gX ?_
 refine ca (faults_Lines_walk hm O.has) fun r1 hm=>?_;refine gX ?_
 refine br hm (fun hm=>?_) fun hm=>?_
 ·refine gX ?_
  exact⟨([],r1.2),hm,O.ext,fun h2 F=>VLe.tup (LLe.cons (VLe.nilC _ _ _) (LLe.cons (VLe.refl _ _) (LLe.nil _)))⟩
 ·refine gX ?_
  refine fz ?_;refine gH ?_
  refine caO (sl_RepeatB_walkO hm O.has) O fun r2 a3 h hx ha5 hn6 O hm=>?_;refine gX ?_
  refine ca (netlists_States_walk hm O.has) fun r7 hm=>?_;refine gH ?_
  refine jn (σ:=(List Bool)×Option Nat) hm 83 [] (fun s=>s.1) (fun (v9,a8) h=>(a8=none->v9=[])/\Own vars h0 [(a8,.cells (flatC (v9.map Value.bool)) false)] h) (fun (v9,a8)=>[(8,(clipV a8 (v9.map Value.bool)))]) (fun hm=>?_) ?_
  ·refine gX ?_
   refine lw 83 [2,9,33,34] (σ:=((List Bool)×Nat)×Option Nat) (fun s=>s.1) (fun ((v13,v14),a12) h=>(a12=none->v13=[])/\Own vars h0 [(a12,.cells (flatC (v13.map Value.bool)) false)] h) (fun ((v13,v14),a12)=>[(8,(clipV a12 (v13.map Value.bool))),(35,(i64 v14))]) ((r2,0),a3) hm ⟨ha5,O⟩ ?_
   clear hm;rintro⟨⟨v13,v14⟩,a12⟩ nx16 base h hm ⟨ha15,O⟩
   refine gX ?_
   refine br hm (fun hm=>?_) fun hm=>?_
   ·apply Cs;conv=>whnf
    refine jn (σ:=(List Bool)×Option Nat) hm 83 [2,9,33,34,35] (fun s=>s.1) (fun (v18,a17) h=>(a17=none->v18=[])/\Own vars h0 [(a17,.cells (flatC (v18.map Value.bool)) false)] h) (fun (v18,a17)=>[(8,(clipV a17 (v18.map Value.bool)))]) (fun hm=>?_) ?_
    ·refine gX ?_
     refine atF hm fun x21 hx21 hm=>?_;refine gH ?_
     (first|refine O.new (anew_alloc (l:=[(i64 0),(.bool false),(i64 0)]) rfl rfl rfl) fun g22 h O=>?_|refine O.newX (anew_alloc (l:=[(i64 0),(.bool false),(i64 0)]) rfl rfl rfl) fun g22 h O=>?_);refine gH ?_
     refine O.stC 3 (.head _) [(z64 x21.test),(.bool x21.next),(z64 x21.index)] fun h O=>?_;refine gX ?_
     refine ldA (O.at (.head _)) ?_;refine gH ?_
     refine ca (suspects_causes_walk hm O.has) fun r24 hm=>?_;refine gX ?_
     refine br hm (fun hm=>?_) fun hm=>?_
     ·refine gX ?_
      exact⟨([],1),hm,O.ext,fun h2 F=>VLe.tup (LLe.cons (VLe.nilC _ _ _) (LLe.cons (VLe.refl _ _) (LLe.nil _)))⟩
     ·refine gX ?_
      refine lw 83 [2,9,12,33,34,35,49] (σ:=((List Bool)×Nat)×Option Nat) (fun s=>s.1) (fun ((v26,v27),a25) h=>(a25=none->v26=[])/\Own vars h0 [(a25,.cells (flatC (v26.map Value.bool)) false)] h) (fun ((v26,v27),a25)=>[(8,(clipV a25 (v26.map Value.bool))),(50,(i64 v27))]) ((v13,0),a12) hm ⟨ha15,(O.sel [1] (by decide))⟩ ?_
      clear hm;rintro⟨⟨v26,v27⟩,a25⟩ nx29 base h hm ⟨ha28,O⟩
      refine gX ?_
      refine br hm (fun hm=>?_) fun hm=>?_
      ·apply Cs;conv=>whnf
       refine jn (σ:=(List Bool)×Option Nat) hm 83 [2,9,12,33,34,35,49,50] (fun s=>s.1) (fun (v31,a30) h=>(a30=none->v31=[])/\Own vars h0 [(a30,.cells (flatC (v31.map Value.bool)) false)] h) (fun (v31,a30)=>[(8,(clipV a30 (v31.map Value.bool)))]) (fun hm=>?_) ?_
       ·refine gX ?_
        obtain⟨x34,hx34,hm⟩:=hm
        have h9:=hm
        obtain⟨g35,rfl⟩:=addr_some ha28 hx34
        replace hm:=h9
        refine indexK (s:=1) (j:=v27) rfl rfl rfl rfl (by rw[List.length_map];exact lt_of_get hx34) ?_;refine gH ?_
        refine ldE (s:=1) (i:=0) (O.at (.head _)) hx34 ?_;refine gH ?_
        refine br hm (fun hm=>?_) fun hm=>?_
        ·refine gX ?_
         refine atF hm fun x36 hx36 hm=>?_;refine gH ?_
         obtain⟨x37,hx37,hm⟩:=hm
         refine indexK (s:=1) (j:=v27) rfl rfl rfl rfl (by rw[List.length_map];exact lt_of_get hx37) ?_;refine gH ?_
         refine O.stE 1 (.head _) hx37 x36 fun h O=>?_;refine gH ?_
         try rw[growV_set (enc:=Value.bool) (l:=v26) (j:=v27) (x:=x36)] at O
         exact⟨((v26.set v27 x36),(some g35)),hm,⟨someNone,O⟩,VLe.refl _ _,VLe.refl _ _,VLe.refl _ _,VLe.refl _ _,VLe.refl _ _,VLe.refl _ _,VLe.refl _ _,VLe.refl _ _,(by first|exact VLe.refl _ _|exact VLe.clipLen rfl (by simp)),trivial⟩
        ·refine gX ?_
         obtain⟨x38,hx38,hm⟩:=hm
         refine indexK (s:=1) (j:=v27) rfl rfl rfl rfl (by rw[List.length_map];exact lt_of_get hx38) ?_;refine gH ?_
         refine O.stE 1 (.head _) hx38 false fun h O=>?_;refine gH ?_
         try rw[growV_set (enc:=Value.bool) (l:=v26) (j:=v27) (x:=false)] at O
         exact⟨((v26.set v27 false),(some g35)),hm,⟨someNone,O⟩,VLe.refl _ _,VLe.refl _ _,VLe.refl _ _,VLe.refl _ _,VLe.refl _ _,VLe.refl _ _,VLe.refl _ _,VLe.refl _ _,(by first|exact VLe.refl _ _|exact VLe.clipLen rfl (by simp)),trivial⟩
       ·clear hm;rintro⟨v31,a30⟩ base h hm ⟨ha32,O⟩
        refine gX ?_
        refine aAdd hm fun hm=>?_;refine gH ?_
        exact jx ((v31,(v27+1)),a30) hm ⟨ha32,O⟩
      ·refine gX ?_
       exact jx (v26,a25) hm ⟨ha28,O⟩
    ·clear hm;rintro⟨v18,a17⟩ base h hm ⟨ha19,O⟩
     refine gX ?_
     refine aAdd hm fun hm=>?_;refine gH ?_
     exact jx ((v18,(v14+1)),a17) hm ⟨ha19,O⟩
   ·refine gX ?_
    exact jx (v13,a12) hm ⟨ha15,O⟩
  ·clear hm;rintro⟨v9,a8⟩ base h hm ⟨ha10,O⟩
   conv=>whnf
   apply Cs;conv=>whnf
   apply Cs;refine gH ?_
   have O:=O.addNil (.cells (flatC ((([]:List Nat)).map i64)) false)
   refine jn (σ:=(List Nat)×Option Nat) hm 83 [] (fun s=>s.1) (fun (v41,a40) h=>(a40=none->v41=[])/\Own vars h0 [(a40,.cells (flatC (v41.map i64)) false)] h) (fun (v41,a40)=>[(15,(growV 1 a40 (v41.map i64)))]) (fun hm=>?_) ?_
   ·refine gX ?_
    refine lw 83 [69] (σ:=((List Nat)×Nat)×(Option Nat×Option Nat)) (fun s=>s.1) (fun ((v45,v47),(a44,a46)) h=>(a44=none->v45=[])/\(a46=none->v9=[])/\Own vars h0 [(a44,.cells (flatC (v45.map i64)) false),(a46,.cells (flatC (v9.map Value.bool)) false)] h) (fun ((v45,v47),(a44,a46))=>[(15,(growV 1 a44 (v45.map i64))),(68,(clipV a46 (v9.map Value.bool))),(70,(i64 v47))]) ((([]:List Nat),0),(none,a8)) hm ⟨(fun _=>rfl),ha10,O⟩ ?_
    clear hm;rintro⟨⟨v45,v47⟩,⟨a44,a46⟩⟩ nx50 base h hm ⟨ha48,ha49,O⟩
    refine gX ?_
    refine br hm (fun hm=>?_) fun hm=>?_
    ·apply Cs;conv=>whnf
     refine jn (σ:=(List Nat)×(Option Nat×Option Nat)) hm 83 [69,70] (fun s=>s.1) (fun (v52,(a51,a53)) h=>(a51=none->v52=[])/\(a53=none->v9=[])/\Own vars h0 [(a51,.cells (flatC (v52.map i64)) false),(a53,.cells (flatC (v9.map Value.bool)) false)] h) (fun (v52,(a51,a53))=>[(15,(growV 1 a51 (v52.map i64))),(68,(clipV a53 (v9.map Value.bool)))]) (fun hm=>?_) ?_
     ·refine gX ?_
      obtain⟨x57,hx57,hm⟩:=hm
      have h9:=hm
      obtain⟨g58,rfl⟩:=addr_some ha49 hx57
      replace hm:=h9
      refine indexK (s:=1) (j:=v47) rfl rfl rfl rfl (by rw[List.length_map];exact lt_of_get hx57) ?_;refine gH ?_
      refine ldE (s:=1) (i:=0) (O.at (.tail _ (.head _))) hx57 ?_;refine gX ?_
      refine br hm (fun hm=>?_) fun hm=>?_
      ·refine gX ?_
       refine fz ?_;refine gH ?_
       refine O.apL (enc:=i64) (l:=v45) (new:=([v47]:(List Nat))) 1 (.head _) ha48 hm fun a59 h ha60 O hm=>?_;refine gH ?_
       exact jx ((v45++([v47]:(List Nat))),(a59,(some g58))) hm ⟨ha60,someNone,O⟩
      ·refine gX ?_
       exact jx (v45,(a44,(some g58))) hm ⟨ha48,someNone,O⟩
     ·clear hm;rintro⟨v52,⟨a51,a53⟩⟩ base h hm ⟨ha54,ha55,O⟩
      refine gX ?_
      refine aAdd hm fun hm=>?_;refine gH ?_
      exact jx ((v52,(v47+1)),(a51,a53)) hm ⟨ha54,ha55,O⟩
    ·refine gX ?_
     exact jx (v45,a44) hm ⟨ha48,(O.sel [0] (by decide))⟩
   ·clear hm;rintro⟨v41,a40⟩ base h hm ⟨ha42,O⟩
    refine gX ?_
    refine fg Tryz.func28 ?_;refine gX ?_
    refine clipK (s:=1) (enc:=i64) (l:=v41) (n:=v41.length) (m:=v41.length) rfl rfl rfl rfl rfl rfl rfl ?_;refine gX ?_
    exact⟨(v41,0),hm,O.ext,fun h2 F=>VLe.tup (LLe.cons (O.clipC F (Nat.le_refl _) (.head _) ha42 (fun _=>rfl)) (LLe.cons (VLe.refl _ _) (LLe.nil _)))⟩
def probecardlaw22_has_wp (p0:(List FailZ)) (p1:FailZ) (K:Bool->Prop):Prop :=
 joinW (α:=Unit) (fun k1=>loopW (S:=Nat) (fun v2 nx3=>((ltN v2 p0.length)=true->∃ x4,p0[v2]?=some x4/\(((eqZ x4.test p1.test)&&((x4.next==p1.next)&&((eqZ x4.index p1.index)&&true)))=true->K true)/\(((eqZ x4.test p1.test)&&((x4.next==p1.next)&&((eqZ x4.index p1.index)&&true)))=false->v2+1<2 ^ 63/\nx3 (v2+1)))/\((ltN v2 p0.length)=false->k1 ())) 0) (fun _=>K false)
theorem probecardlaw22_has_walk {p0:(List FailZ)}{p1:FailZ}{K:Bool->Prop} (hm:probecardlaw22_has_wp p0 p1 K) {h0:Heap} (hB:HasB vars h0):∃ r,K r/\CallD Tryz.prog NG 26 ⟨[(encL 3 encFail) p0,encFail p1]⟩ h0 (Value.bool r) h0:=by
 unfold probecardlaw22_has_wp at hm
 refine fw Tryz.func26 hB (enc:=Value.bool) (fun r=>PureV.flat rfl) fun O=>?_;conv=>whnf
 refine gX ?_
 refine fz ?_;refine gH ?_
 refine jn hm 18 [] (fun s=>s) (fun _ h=>Own vars h0 [] h) (fun _=>[]) (fun hm=>?_) ?_
 ·refine gX ?_
  refine lw 18 [0,3] (σ:=Nat) (fun s=>s) (fun v2 h=>Own vars h0 [] h) (fun v2=>[(5,(i64 v2))]) 0 hm O ?_
  clear hm;rintro v2 nx3 base h hm O
  refine gX ?_
  refine br hm (fun hm=>?_) fun hm=>?_
  ·refine gX ?_
   refine atF hm fun x4 hx4 hm=>?_;refine gH ?_
   first|refine⟨.inr (.inr (rfl)),?_⟩|refine⟨.inr (.inl (by kernel_rfl)),?_⟩
   refine gX ?_
   first|refine⟨.inr (.inr (rfl)),?_⟩|refine⟨.inr (.inl (by kernel_rfl)),?_⟩
   refine gX ?_
   refine⟨.bool ((eqZ x4.test p1.test)&&((x4.next==p1.next)&&((eqZ x4.index p1.index)&&true))),by kernel_rfl,?_⟩;refine gX ?_
   refine br hm (fun hm=>?_) fun hm=>?_
   ·refine gX ?_
    exact fe hm O
   ·refine gX ?_
    refine aAdd hm fun hm=>?_;refine gH ?_
    exact jx (v2+1) hm O
  ·refine gX ?_
   exact jx () hm O
 ·clear hm;rintro _ base h hm O
  refine gX ?_
  exact fe hm O
def probecardlaw22_distinct_wp (p0:(List FailZ)) (p1:(List FailZ)) (K:(List FailZ)->Prop):Prop :=
 joinW (α:=(List FailZ)) (fun k6=>loopW (S:=((List FailZ)×Nat)) (fun (v8,v9) nx11=>((ltN v9 p0.length)=true->joinW (α:=(List FailZ)) (fun k15=>joinW (α:=Bool) (fun k18=>∃ x19,p0[v9]?=some x19/\probecardlaw22_has_wp p1 x19 (fun r20=>((!r20)=true->∃ x21,p0[v9]?=some x21/\probecardlaw22_has_wp v8 x21 (fun r22=>k18 (!r22)))/\((!r20)=false->k18 false))) (fun v16=>(v16=true->∃ x23,p0[v9]?=some x23/\(v8.length+([x23]:(List FailZ)).length)*24<=2 ^ 47/\k15 (v8++([x23]:(List FailZ))))/\(v16=false->k15 v8))) (fun v13=>v9+1<2 ^ 63/\nx11 (v13,(v9+1))))/\((ltN v9 p0.length)=false->k6 v8)) (([]:List FailZ),0)) (fun v4=>K v4)
theorem probecardlaw22_distinct_walk {p0:(List FailZ)}{p1:(List FailZ)}{K:(List FailZ)->Prop} (hm:probecardlaw22_distinct_wp p0 p1 K) {h0:Heap} (hB:HasB vars h0):∃ r,K r/\CallD Tryz.prog NG 11 ⟨[(encL 3 encFail) p0,(encL 3 encFail) p1]⟩ h0 ((encL 3 encFail) r) h0:=by
 unfold probecardlaw22_distinct_wp at hm
 refine fw Tryz.func11 hB (enc:=(encL 3 encFail)) (fun r=>pureL (fun _=>pure_failC _)) fun O=>?_;conv=>whnf
 apply Cs;conv=>whnf
 apply Cs;refine gH ?_
 have O:=O.addNil (.cells (flatC ((([]:List FailZ)).map encFail)) false)
 apply Cs;conv=>whnf
 apply Cs;refine gH ?_
 have O:=O.addNil (.cells (flatC ((([]:List FailZ)).map encFail)) false)
 refine jn (σ:=(List FailZ)×Option Nat) hm 37 [] (fun s=>s.1) (fun (v4,a3) h=>(a3=none->v4=[])/\Own vars h0 [(a3,.cells (flatC (v4.map encFail)) false)] h) (fun (v4,a3)=>[(5,(growV 3 a3 (v4.map encFail)))]) (fun hm=>?_) ?_
 ·refine gX ?_
  refine lw 37 [0,1] (σ:=((List FailZ)×Nat)×Option Nat) (fun s=>s.1) (fun ((v8,v9),a7) h=>(a7=none->v8=[])/\Own vars h0 [(a7,.cells (flatC (v8.map encFail)) false)] h) (fun ((v8,v9),a7)=>[(5,(growV 3 a7 (v8.map encFail))),(6,(i64 v9))]) ((([]:List FailZ),0),none) hm ⟨(fun _=>rfl),(O.sel [0] (by decide))⟩ ?_
  clear hm;rintro⟨⟨v8,v9⟩,a7⟩ nx11 base h hm ⟨ha10,O⟩
  refine gX ?_
  refine br hm (fun hm=>?_) fun hm=>?_
  ·apply Cs;conv=>whnf
   refine jn (σ:=(List FailZ)×Option Nat) hm 37 [0,1,6] (fun s=>s.1) (fun (v13,a12) h=>(a12=none->v13=[])/\Own vars h0 [(a12,.cells (flatC (v13.map encFail)) false)] h) (fun (v13,a12)=>[(5,(growV 3 a12 (v13.map encFail)))]) (fun hm=>?_) ?_
   ·apply Cs;conv=>whnf
    refine jn hm 37 [0,1,5,6] (fun s=>s) (fun v16 h=>(a7=none->v8=[])/\Own vars h0 [(a7,.cells (flatC (v8.map encFail)) false)] h) (fun v16=>[(28,(.bool v16))]) (fun hm=>?_) ?_
    ·refine gX ?_
     refine atF hm fun x19 hx19 hm=>?_;refine gH ?_
     refine ca (probecardlaw22_has_walk hm O.has) fun r20 hm=>?_;refine gH ?_
     refine br hm (fun hm=>?_) fun hm=>?_
     ·refine gX ?_
      refine atF hm fun x21 hx21 hm=>?_;refine gH ?_
      refine CallD.useB (fun _ hb=>probecardlaw22_has_walk hm hb) (fun _=>flatB_ok rfl) fzVars O.has (fun h2 F=>(LLe.cons (O.grownL F (Nat.zero_le _) (.head _) ha10 (fun _=>rfl)) (LLe.cons (VLe.refl _ _) (LLe.nil _)))) (by kernel_rfl) (fun r22 hm'=>?_);replace hm:=hm';refine gH ?_
      exact jx (!r22) hm ⟨ha10,O⟩
     ·refine gX ?_
      exact jx false hm ⟨ha10,O⟩
    ·clear hm;rintro v16 base h hm ⟨ha17,O⟩
     refine gX ?_
     refine br hm (fun hm=>?_) fun hm=>?_
     ·refine gX ?_
      refine atF hm fun x23 hx23 hm=>?_;refine gH ?_
      refine fz ?_;refine gH ?_
      refine O.apL (enc:=encFail) (l:=v8) (new:=([x23]:(List FailZ))) 3 (.head _) ha17 hm fun a24 h ha25 O hm=>?_;refine gH ?_
      exact jx ((v8++([x23]:(List FailZ))),a24) hm ⟨ha25,O⟩
     ·refine gX ?_
      exact jx (v8,a7) hm ⟨ha17,O⟩
   ·clear hm;rintro⟨v13,a12⟩ base h hm ⟨ha14,O⟩
    refine gX ?_
    refine aAdd hm fun hm=>?_;refine gH ?_
    exact jx ((v13,(v9+1)),a12) hm ⟨ha14,O⟩
  ·refine gX ?_
   exact jx (v8,a7) hm ⟨ha10,O⟩
 ·clear hm;rintro⟨v4,a3⟩ base h hm ⟨ha5,O⟩
  refine gX ?_
  exact⟨v4,hm,O.ext,fun h2 F=>O.grownL F (Nat.le_refl _) (.head _) ha5 (fun _=>rfl)⟩
def probecardlaw22_few_wp (p0:(List (List FailZ))) (p1:(List FailZ)) (K:Bool->Prop):Prop :=
 joinW (α:=Bool) (fun k2=>((ltN 30 p0.length)=true->k2 true)/\((ltN 30 p0.length)=false->k2 (ltN 60 p1.length))) (fun v1=>(v1=true->K false)/\(v1=false->joinW (α:=Unit) (fun k3=>loopW (S:=Nat) (fun v4 nx5=>((ltN v4 p0.length)=true->∃ x6,p0[v4]?=some x6/\((ltN 60 x6.length)=true->K false)/\((ltN 60 x6.length)=false->v4+1<2 ^ 63/\nx5 (v4+1)))/\((ltN v4 p0.length)=false->k3 ())) 0) (fun _=>K true)))
theorem probecardlaw22_few_walk {p0:(List (List FailZ))}{p1:(List FailZ)}{K:Bool->Prop} (hm:probecardlaw22_few_wp p0 p1 K) {h0:Heap} (hB:HasB vars h0):∃ r,K r/\CallD Tryz.prog NG 8 ⟨[(encL 1 (encL 3 encFail)) p0,(encL 3 encFail) p1]⟩ h0 (Value.bool r) h0:=by
 unfold probecardlaw22_few_wp at hm
 refine fw Tryz.func8 hB (enc:=Value.bool) (fun r=>PureV.flat rfl) fun O=>?_;conv=>whnf
 apply Cs;conv=>whnf
 apply Cs;refine gH ?_
 apply Cs;conv=>whnf
 refine jn hm 26 [0] (fun s=>s) (fun v1 h=>Own vars h0 [] h) (fun v1=>[(13,(.bool v1))]) (fun hm=>?_) ?_
 ·refine gX ?_
  refine br hm (fun hm=>?_) fun hm=>?_
  ·refine gX ?_
   exact jx true hm O
  ·refine gX ?_
   exact jx (ltN 60 p1.length) hm O
 ·clear hm;rintro v1 base h hm O
  refine gX ?_
  refine br hm (fun hm=>?_) fun hm=>?_
  ·refine gX ?_
   exact fe hm O
  ·apply Cs;conv=>whnf
   refine jn hm 26 [] (fun s=>s) (fun _ h=>Own vars h0 [] h) (fun _=>[]) (fun hm=>?_) ?_
   ·refine gX ?_
    refine lw 26 [0] (σ:=Nat) (fun s=>s) (fun v4 h=>Own vars h0 [] h) (fun v4=>[(5,(i64 v4))]) 0 hm O ?_
    clear hm;rintro v4 nx5 base h hm O
    refine gX ?_
    refine br hm (fun hm=>?_) fun hm=>?_
    ·refine gX ?_
     refine atF hm fun x6 hx6 hm=>?_;refine gX ?_
     refine br hm (fun hm=>?_) fun hm=>?_
     ·refine gX ?_
      exact fe hm O
     ·refine gX ?_
      refine aAdd hm fun hm=>?_;refine gH ?_
      exact jx (v4+1) hm O
    ·refine gX ?_
     exact jx () hm O
   ·clear hm;rintro _ base h hm O
    refine gX ?_
    exact fe hm O
def probecardlaw22_lives_wp  (K:Bool->Prop):Prop :=
 suspects_Dictionary_wp (⟨([(⟨0,([]:(List Nat)),0,0⟩:Node),(⟨0,([]:(List Nat)),0,0⟩:Node),(⟨5,([0,1]:(List Nat)),0,0⟩:Node)]:(List Node)),([(⟨#[97]⟩:ByteArray),(⟨#[98]⟩:ByteArray),(⟨#[121]⟩:ByteArray)]:(List ByteArray)),([]:(List Memo)),([2]:(List Nat))⟩:Circ) ([(⟨0,(⟨0,(Int.negSucc 0)⟩:LnZ),0,0⟩:Flt),(⟨0,(⟨0,(Int.negSucc 0)⟩:LnZ),1,0⟩:Flt),(⟨0,(⟨2,(Int.negSucc 0)⟩:LnZ),1,0⟩:Flt)]:(List Flt)) ([(⟨([1,1]:(List Nat)),([]:(List Nat))⟩:Pat),(⟨([0,1]:(List Nat)),([]:(List Nat))⟩:Pat),(⟨([0,0]:(List Nat)),([]:(List Nat))⟩:Pat)]:(List Pat)) (fun r3=>joinW (α:=Bool) (fun k5=>((neN r3.2 0)=true->k5 true)/\((neN r3.2 0)=false->((neN r3.1.length 3)=true->k5 true)/\((neN r3.1.length 3)=false->∃ x6,r3.1[0]?=some x6/\((neN x6.length 1)=true->k5 true)/\((neN x6.length 1)=false->∃ x7,r3.1[1]?=some x7/\((neN x7.length 1)=true->k5 true)/\((neN x7.length 1)=false->∃ x8,r3.1[2]?=some x8/\k5 (neN x8.length 2)))))) (fun v4=>(v4=true->K false)/\(v4=false->∃ x9,r3.1[1]?=some x9/\suspects_RankM_wp r3.1 x9 (fun r10=>∃ x11,r3.1[1]?=some x11/\suspects_Exact_wp r3.1 x11 (fun r12=>∃ x13,r3.1[1]?=some x13/\suspects_Back_wp (⟨([(⟨0,([]:(List Nat)),0,0⟩:Node),(⟨0,([]:(List Nat)),0,0⟩:Node),(⟨5,([0,1]:(List Nat)),0,0⟩:Node)]:(List Node)),([(⟨#[97]⟩:ByteArray),(⟨#[98]⟩:ByteArray),(⟨#[121]⟩:ByteArray)]:(List ByteArray)),([]:(List Memo)),([2]:(List Nat))⟩:Circ) x13 (fun r14=>((eqN r14.2 0)=true->((eqN r10.length 3)=true->((eqN r12.length 1)=true->((eqN r14.1.length 3)=true->∃ x15,r12[0]?=some x15/\((eqN x15 1)=true->∃ x16,r3.1[2]?=some x16/\∃ x17,x16[1]?=some x17/\(((eqZ x17.test (Int.ofNat 2))&&((x17.next==false)&&((eqZ x17.index (Int.ofNat 0))&&true)))=true->∃ x18,r10[0]?=some x18/\(((eqN x18.fault 1)&&((eqN x18.both 1)&&((eqN x18.missed 0)&&((eqN x18.extra 0)&&true))))=true->∃ x19,r10[1]?=some x19/\(((eqN x19.fault 2)&&((eqN x19.both 1)&&((eqN x19.missed 0)&&((eqN x19.extra 1)&&true))))=true->∃ x20,r10[2]?=some x20/\K ((eqN x20.fault 0)&&((eqN x20.both 0)&&((eqN x20.missed 1)&&((eqN x20.extra 1)&&true)))))/\(((eqN x19.fault 2)&&((eqN x19.both 1)&&((eqN x19.missed 0)&&((eqN x19.extra 1)&&true))))=false->K false))/\(((eqN x18.fault 1)&&((eqN x18.both 1)&&((eqN x18.missed 0)&&((eqN x18.extra 0)&&true))))=false->K false))/\(((eqZ x17.test (Int.ofNat 2))&&((x17.next==false)&&((eqZ x17.index (Int.ofNat 0))&&true)))=false->K false))/\((eqN x15 1)=false->K false))/\((eqN r14.1.length 3)=false->K false))/\((eqN r12.length 1)=false->K false))/\((eqN r10.length 3)=false->K false))/\((eqN r14.2 0)=false->K false)))))))
theorem probecardlaw22_lives_walk  {K:Bool->Prop} (hm:probecardlaw22_lives_wp  K) {h0:Heap} (hB:HasB vars h0):∃ r,K r/\CallD Tryz.prog NG 9 ⟨[]⟩ h0 (Value.bool r) h0:=by
 unfold probecardlaw22_lives_wp at hm
 refine fw Tryz.func9 hB (enc:=Value.bool) (fun r=>PureV.flat rfl) fun O=>?_;conv=>whnf
 refine gX ?_
 refine fz ?_;refine gH ?_
 refine NewG.frzW rfl (VLe.els (s:=4) (es':=([(⟨0,([]:(List Nat)),0,0⟩:Node),(⟨0,([]:(List Nat)),0,0⟩:Node),(⟨5,([0,1]:(List Nat)),0,0⟩:Node)]).map encNode) rfl (map_size (enc:=encNode) (s:=4) (fun _=>rfl) _) (LLe.cons (VLe.refl _ _) (LLe.cons (VLe.nil _ _) (LLe.cons (VLe.refl _ _) (LLe.cons (VLe.refl _ _) (LLe.cons (VLe.refl _ _) (LLe.cons (VLe.nil _ _) (LLe.cons (VLe.refl _ _) (LLe.cons (VLe.refl _ _) (LLe.cons (VLe.refl _ _) (LLe.cons (VLe.refl _ _) (LLe.cons (VLe.refl _ _) (LLe.cons (VLe.refl _ _) (LLe.nil _)))))))))))))) ?_;refine gH ?_
 refine fz ?_;refine gH ?_
 refine fz ?_;refine gH ?_
 (first|refine O.new (anew_alloc (l:=[(.slice none 0 0),(.slice none 0 0),(.slice none 0 0),(.slice none 0 0)]) rfl rfl rfl) fun g1 h O=>?_|refine O.newX (anew_alloc (l:=[(.slice none 0 0),(.slice none 0 0),(.slice none 0 0),(.slice none 0 0)]) rfl rfl rfl) fun g1 h O=>?_);refine gH ?_
 refine O.stC 4 (.head _) [((encL 4 encNode) ([(⟨0,([]:(List Nat)),0,0⟩:Node),(⟨0,([]:(List Nat)),0,0⟩:Node),(⟨5,([0,1]:(List Nat)),0,0⟩:Node)]:(List Node))),((encL 1 Value.string) ([(⟨#[97]⟩:ByteArray),(⟨#[98]⟩:ByteArray),(⟨#[121]⟩:ByteArray)]:(List ByteArray))),(.slice none 0 0),((encL 1 i64) ([2]:(List Nat)))] fun h O=>?_;refine gX ?_
 refine fz ?_;refine gX ?_
 refine fz ?_;refine gH ?_
 refine fz ?_;refine gH ?_
 refine fz ?_;refine gH ?_
 refine NewG.frzW rfl (VLe.els (s:=2) (es':=([(⟨([1,1]:(List Nat)),([]:(List Nat))⟩:Pat),(⟨([0,1]:(List Nat)),([]:(List Nat))⟩:Pat),(⟨([0,0]:(List Nat)),([]:(List Nat))⟩:Pat)]).map encPat) rfl (map_size (enc:=encPat) (s:=2) (fun _=>rfl) _) (LLe.cons (VLe.refl _ _) (LLe.cons (VLe.nil _ _) (LLe.cons (VLe.refl _ _) (LLe.cons (VLe.nil _ _) (LLe.cons (VLe.refl _ _) (LLe.cons (VLe.nil _ _) (LLe.nil _)))))))) ?_;refine gX ?_
 refine ldA (O.at (.head _)) ?_;refine gH ?_
 refine caW (suspects_Dictionary_walk hm O.has) (LLe.cons (VLe.agg (LLe.cons (VLe.refl _ _) (LLe.cons (VLe.refl _ _) (LLe.cons (VLe.nil _ _) (LLe.cons (VLe.refl _ _) (LLe.nil _)))))) (LLe.cons (VLe.refl _ _) (LLe.cons (VLe.refl _ _) (LLe.nil _)))) fun r3 hm=>?_;refine gH ?_
 apply Cs;conv=>whnf
 refine jn hm 138 [1,4] (fun s=>s) (fun v4 h=>Own vars h0 [((some g1),.cells [((encL 4 encNode) ([(⟨0,([]:(List Nat)),0,0⟩:Node),(⟨0,([]:(List Nat)),0,0⟩:Node),(⟨5,([0,1]:(List Nat)),0,0⟩:Node)]:(List Node))),((encL 1 Value.string) ([(⟨#[97]⟩:ByteArray),(⟨#[98]⟩:ByteArray),(⟨#[121]⟩:ByteArray)]:(List ByteArray))),(.slice none 0 0),((encL 1 i64) ([2]:(List Nat)))] false)] h) (fun v4=>[(66,(.bool v4))]) (fun hm=>?_) ?_
 ·refine gX ?_
  refine br hm (fun hm=>?_) fun hm=>?_
  ·refine gX ?_
   refine bt ?_;refine gH ?_
   refine bt ?_;refine gH ?_
   refine bt ?_;refine gH ?_
   exact jx true hm O
  ·refine gX ?_
   refine br hm (fun hm=>?_) fun hm=>?_
   ·refine gX ?_
    refine bt ?_;refine gH ?_
    refine bt ?_;refine gH ?_
    exact jx true hm O
   ·refine gX ?_
    refine atF hm fun x6 hx6 hm=>?_;refine gH ?_
    refine br hm (fun hm=>?_) fun hm=>?_
    ·refine gX ?_
     refine bt ?_;refine gH ?_
     exact jx true hm O
    ·refine gX ?_
     refine atF hm fun x7 hx7 hm=>?_;refine gH ?_
     refine br hm (fun hm=>?_) fun hm=>?_
     ·refine gX ?_
      exact jx true hm O
     ·refine gX ?_
      refine atF hm fun x8 hx8 hm=>?_;refine gH ?_
      exact jx (neN x8.length 2) hm O
 ·clear hm;rintro v4 base h hm O
  refine gX ?_
  refine br hm (fun hm=>?_) fun hm=>?_
  ·refine gX ?_
   exact fe hm O
  ·refine gX ?_
   refine atF hm fun x9 hx9 hm=>?_;refine gH ?_
   refine ca (suspects_RankM_walk hm O.has) fun r10 hm=>?_;refine gX ?_
   refine atF hm fun x11 hx11 hm=>?_;refine gH ?_
   refine ca (suspects_Exact_walk hm O.has) fun r12 hm=>?_;refine gX ?_
   refine ldA (O.at (.head _)) ?_;refine gH ?_
   first|refine⟨.inr (.inr (loadAggK rfl (O.at (.head _)) rfl rfl (lbE rfl) rfl)),?_⟩|refine⟨.inr (.inl (by kernel_rfl)),?_⟩
   refine gX ?_
   refine atF hm fun x13 hx13 hm=>?_;refine gH ?_
   first|refine⟨.inr (.inr (rfl)),?_⟩|refine⟨.inr (.inl (by kernel_rfl)),?_⟩
   refine gX ?_
   refine caW (suspects_Back_walk hm O.has) (LLe.cons (VLe.agg (LLe.cons (VLe.refl _ _) (LLe.cons (VLe.refl _ _) (LLe.cons (VLe.nil _ _) (LLe.cons (VLe.refl _ _) (LLe.nil _)))))) (LLe.cons (VLe.refl _ _) (LLe.nil _))) fun r14 hm=>?_;refine gH ?_
   (first|refine⟨.inr (.inr (loadK rfl (O.at (.head _)) rfl rfl)),?_⟩|refine⟨.inr (.inr (loadK rfl (O.at (.tail _ (.head _))) rfl rfl)),?_⟩|refine⟨.inr (.inr (loadK rfl (O.at (.tail _ (.tail _ (.head _)))) rfl rfl)),?_⟩|refine⟨.inr (.inr (loadK rfl (O.at (.tail _ (.tail _ (.tail _ (.head _))))) rfl rfl)),?_⟩|refine⟨.inr (.inr (loadK rfl (O.at (.tail _ (.tail _ (.tail _ (.tail _ (.head _)))))) rfl rfl)),?_⟩|refine⟨.inr (.inr (loadK rfl (O.at (.tail _ (.tail _ (.tail _ (.tail _ (.tail _ (.head _))))))) rfl rfl)),?_⟩|refine⟨.inr (.inr (loadK rfl (O.at (.tail _ (.tail _ (.tail _ (.tail _ (.tail _ (.tail _ (.head _)))))))) rfl rfl)),?_⟩|refine⟨.inl (Ext.refl _),?_⟩|refine⟨.inr (.inr rfl),?_⟩|refine⟨.inr (by kernel_rfl),?_⟩|refine⟨.inl (by kernel_rfl),?_⟩|refine id ?_);refine gH ?_
   refine gX ?_
   refine br hm (fun hm=>?_) fun hm=>?_
   ·refine gX ?_
    refine lmC ?_;refine gH ?_
    refine br hm (fun hm=>?_) fun hm=>?_
    ·refine gX ?_
     refine lmC ?_;refine gH ?_
     refine br hm (fun hm=>?_) fun hm=>?_
     ·refine gX ?_
      refine lmC ?_;refine gH ?_
      refine br hm (fun hm=>?_) fun hm=>?_
      ·refine gX ?_
       refine atC hm fun x15 hx15 hm=>?_;refine gH ?_
       refine br hm (fun hm=>?_) fun hm=>?_
       ·refine gX ?_
        refine atF hm fun x16 hx16 hm=>?_;refine gH ?_
        refine atF hm fun x17 hx17 hm=>?_;refine gH ?_
        refine⟨.bool ((eqZ x17.test (Int.ofNat 2))&&((x17.next==false)&&((eqZ x17.index (Int.ofNat 0))&&true))),by kernel_rfl,?_⟩;refine gH ?_
        refine br hm (fun hm=>?_) fun hm=>?_
        ·refine gX ?_
         refine atC hm fun x18 hx18 hm=>?_;refine gH ?_
         refine⟨.bool ((eqN x18.fault 1)&&((eqN x18.both 1)&&((eqN x18.missed 0)&&((eqN x18.extra 0)&&true)))),by kernel_rfl,?_⟩;refine gH ?_
         refine br hm (fun hm=>?_) fun hm=>?_
         ·refine gX ?_
          refine atC hm fun x19 hx19 hm=>?_;refine gH ?_
          refine⟨.bool ((eqN x19.fault 2)&&((eqN x19.both 1)&&((eqN x19.missed 0)&&((eqN x19.extra 1)&&true)))),by kernel_rfl,?_⟩;refine gH ?_
          refine br hm (fun hm=>?_) fun hm=>?_
          ·refine gX ?_
           refine atC hm fun x20 hx20 hm=>?_;refine gH ?_
           refine⟨.bool ((eqN x20.fault 0)&&((eqN x20.both 0)&&((eqN x20.missed 1)&&((eqN x20.extra 1)&&true)))),by kernel_rfl,?_⟩;refine gX ?_
           exact fe hm O
          ·refine gX ?_
           exact fe hm O
         ·refine gX ?_
          refine bf ?_;refine gX ?_
          exact fe hm O
        ·refine gX ?_
         refine bf ?_;refine gH ?_
         refine bf ?_;refine gX ?_
         exact fe hm O
       ·refine gX ?_
        refine bf ?_;refine gH ?_
        refine bf ?_;refine gH ?_
        refine bf ?_;refine gX ?_
        exact fe hm O
      ·refine gX ?_
       refine bf ?_;refine gH ?_
       refine bf ?_;refine gH ?_
       refine bf ?_;refine gH ?_
       refine bf ?_;refine gX ?_
       exact fe hm O
     ·refine gX ?_
      refine bf ?_;refine gH ?_
      refine bf ?_;refine gH ?_
      refine bf ?_;refine gH ?_
      refine bf ?_;refine gH ?_
      refine bf ?_;refine gX ?_
      exact fe hm O
    ·refine gX ?_
     refine bf ?_;refine gH ?_
     refine bf ?_;refine gH ?_
     refine bf ?_;refine gH ?_
     refine bf ?_;refine gH ?_
     refine bf ?_;refine gH ?_
     refine bf ?_;refine gX ?_
     exact fe hm O
   ·refine gX ?_
    refine bf ?_;refine gH ?_
    refine bf ?_;refine gH ?_
    refine bf ?_;refine gH ?_
    refine bf ?_;refine gH ?_
    refine bf ?_;refine gH ?_
    refine bf ?_;refine gH ?_
    refine bf ?_;refine gX ?_
    exact fe hm O
def probecardlaw22_SuspectsExact_wp (p0:(List (List FailZ))) (p1:(List FailZ)) (p2:Nat) (K:Bool->Prop):Prop :=
 probecardlaw22_few_wp p0 p1 (fun r1=>((!r1)=true->probecardlaw22_lives_wp  (fun r2=>K r2))/\((!r1)=false->joinW (α:=Bool) (fun k4=>((ltN 0 p0.length)=true->0<2/\k4 (eqN (p2%2) 0))/\((ltN 0 p0.length)=false->k4 false)) (fun v3=>(v3=true->0<2/\p2<256/\(p2/2)<256/\0<p0.length/\∃ x5,p0[((p2/2)%p0.length)]?=some x5/\(([]:List FailZ).length+x5.length)*24<=2 ^ 47/\((([]:List FailZ)++x5).length+x5.length)*24<=2 ^ 47/\suspects_Exact_wp p0 ((([]:List FailZ)++x5)++x5) (fun r16=>joinW (α:=Nat) (fun k18=>loopW (S:=(Nat×Nat)) (fun (v19,v20) nx21=>((ltN v20 p0.length)=true->joinW (α:=Nat) (fun k23=>joinW (α:=Bool) (fun k25=>∃ x26,p0[v20]?=some x26/\probecardlaw22_distinct_wp x26 ((([]:List FailZ)++x5)++x5) (fun r27=>((eqN r27.length 0)=true->∃ x28,p0[v20]?=some x28/\probecardlaw22_distinct_wp ((([]:List FailZ)++x5)++x5) x28 (fun r29=>k25 (eqN r29.length 0)))/\((eqN r27.length 0)=false->k25 false))) (fun v24=>(v24=true->joinW (α:=Bool) (fun k31=>((!ltN v19 r16.length)=true->k31 true)/\((!ltN v19 r16.length)=false->∃ x32,r16[v19]?=some x32/\k31 (neN x32 v20))) (fun v30=>(v30=true->K false)/\(v30=false->v19+1<2 ^ 63/\k23 (v19+1))))/\(v24=false->k23 v19))) (fun v22=>v20+1<2 ^ 63/\nx21 (v22,(v20+1))))/\((ltN v20 p0.length)=false->k18 v19)) (0,0)) (fun v17=>suspects_RankM_wp p0 ((([]:List FailZ)++x5)++x5) (fun r33=>joinW (α:=Bool) (fun k35=>((neN r33.length p0.length)=true->k35 true)/\((neN r33.length p0.length)=false->((neN v17 r16.length)=true->k35 true)/\((neN v17 r16.length)=false->k35 (neN r16.length r16.length)))) (fun v34=>(v34=true->K false)/\(v34=false->joinW (α:=Unit) (fun k36=>loopW (S:=Nat) (fun v37 nx38=>((ltN v37 v17)=true->joinW (α:=Bool) (fun k40=>∃ x41,r33[v37]?=some x41/\∃ x42,r16[v37]?=some x42/\((neN x41.fault x42)=true->k40 true)/\((neN x41.fault x42)=false->∃ x43,r33[v37]?=some x43/\((neN x43.missed 0)=true->k40 true)/\((neN x43.missed 0)=false->∃ x44,r33[v37]?=some x44/\k40 (neN x44.extra 0)))) (fun v39=>(v39=true->K false)/\(v39=false->v37+1<2 ^ 63/\nx38 (v37+1))))/\((ltN v37 v17)=false->k36 ())) 0) (fun _=>probecardlaw22_lives_wp  (fun r45=>K r45))))))))/\(v3=false->suspects_Exact_wp p0 p1 (fun r46=>joinW (α:=Nat) (fun k48=>loopW (S:=(Nat×Nat)) (fun (v49,v50) nx51=>((ltN v50 p0.length)=true->joinW (α:=Nat) (fun k53=>joinW (α:=Bool) (fun k55=>∃ x56,p0[v50]?=some x56/\probecardlaw22_distinct_wp x56 p1 (fun r57=>((eqN r57.length 0)=true->∃ x58,p0[v50]?=some x58/\probecardlaw22_distinct_wp p1 x58 (fun r59=>k55 (eqN r59.length 0)))/\((eqN r57.length 0)=false->k55 false))) (fun v54=>(v54=true->joinW (α:=Bool) (fun k61=>((!ltN v49 r46.length)=true->k61 true)/\((!ltN v49 r46.length)=false->∃ x62,r46[v49]?=some x62/\k61 (neN x62 v50))) (fun v60=>(v60=true->K false)/\(v60=false->v49+1<2 ^ 63/\k53 (v49+1))))/\(v54=false->k53 v49))) (fun v52=>v50+1<2 ^ 63/\nx51 (v52,(v50+1))))/\((ltN v50 p0.length)=false->k48 v49)) (0,0)) (fun v47=>suspects_RankM_wp p0 p1 (fun r63=>joinW (α:=Bool) (fun k65=>((neN r63.length p0.length)=true->k65 true)/\((neN r63.length p0.length)=false->((neN v47 r46.length)=true->k65 true)/\((neN v47 r46.length)=false->k65 (neN r46.length r46.length)))) (fun v64=>(v64=true->K false)/\(v64=false->joinW (α:=Unit) (fun k66=>loopW (S:=Nat) (fun v67 nx68=>((ltN v67 v47)=true->joinW (α:=Bool) (fun k70=>∃ x71,r63[v67]?=some x71/\∃ x72,r46[v67]?=some x72/\((neN x71.fault x72)=true->k70 true)/\((neN x71.fault x72)=false->∃ x73,r63[v67]?=some x73/\((neN x73.missed 0)=true->k70 true)/\((neN x73.missed 0)=false->∃ x74,r63[v67]?=some x74/\k70 (neN x74.extra 0)))) (fun v69=>(v69=true->K false)/\(v69=false->v67+1<2 ^ 63/\nx68 (v67+1))))/\((ltN v67 v47)=false->k66 ())) 0) (fun _=>probecardlaw22_lives_wp  (fun r75=>K r75)))))))))))
theorem probecardlaw22_SuspectsExact_walk {p0:(List (List FailZ))}{p1:(List FailZ)}{p2:Nat}{K:Bool->Prop} (hm:probecardlaw22_SuspectsExact_wp p0 p1 p2 K) {h0:Heap} (hB:HasB vars h0):∃ r,K r/\CallD Tryz.prog NG 4 ⟨[(encL 1 (encL 3 encFail)) p0,(encL 3 encFail) p1,n8 p2]⟩ h0 (Value.bool r) h0:=by
 unfold probecardlaw22_SuspectsExact_wp at hm
 refine fw Tryz.func4 hB (enc:=Value.bool) (fun r=>PureV.flat rfl) fun O=>?_;conv=>whnf
 refine gX ?_
 refine ca (probecardlaw22_few_walk hm O.has) fun r1 hm=>?_;refine gX ?_
 refine br hm (fun hm=>?_) fun hm=>?_
 ·refine gX ?_
  refine ca (probecardlaw22_lives_walk hm O.has) fun r2 hm=>?_;refine gX ?_
  exact fe hm O
 ·apply Cs;conv=>whnf
  apply Cs;conv=>whnf
  refine jn hm 134 [0,1,2] (fun s=>s) (fun v3 h=>Own vars h0 [] h) (fun v3=>[(25,(.bool v3))]) (fun hm=>?_) ?_
  ·refine gX ?_
   refine br hm (fun hm=>?_) fun hm=>?_
   ·refine gX ?_
    refine aRem hm fun hm=>?_;refine gH ?_
    exact jx (eqN (p2%2) 0) hm O
   ·refine gX ?_
    exact jx false hm O
  ·clear hm;rintro v3 base h hm O
   refine gX ?_
   refine br hm (fun hm=>?_) fun hm=>?_
   ·refine gX ?_
    refine⟨_,quo8K (a:=p2) (b:=2) rfl rfl hm.1 hm.2.1,?_⟩;refine gH ?_
    replace hm:=hm.2.2
    refine aCv hm wI8 fun hm=>?_;refine gH ?_
    refine aRem hm fun hm=>?_;refine gH ?_
    refine atF hm fun x5 hx5 hm=>?_;refine gX ?_
    refine O.buildE rfl rfl rfl fun g6 h O=>?_;refine gH ?_
    refine O.apS (enc:=encFail) (l:=([]:List FailZ)) (new:=x5) 3 (.head _) rfl hm fun g10 a11 h O hm=>?_;refine gH ?_
    refine O.apS (enc:=encFail) (l:=(([]:List FailZ)++x5)) (new:=x5) 3 (.head _) rfl hm fun g14 a15 h O hm=>?_;refine gX ?_
    refine O.useL (fun _ hb=>suspects_Exact_walk hm hb) (.head _) ((rfl:_=_).trans (List.length_map ..)) (fun _=>rfl) (i:=1) rfl (by kernel_rfl) (fun h2 q=>(LLe.cons (VLe.refl _ _) (LLe.cons (q) (LLe.nil _)))) (fun r16 h hm' O=>?_);replace hm:=hm';refine gH ?_
    apply Cs;conv=>whnf
    apply Cs;refine gH ?_
    refine jn hm 134 [0,1,8] (fun s=>s) (fun v17 h=>Own vars h0 [((some g14),.cells (flatC (((([]:List FailZ)++x5)++x5).map encFail)) true)] h) (fun v17=>[(9,(i64 v17))]) (fun hm=>?_) ?_
    ·refine gX ?_
     refine lw 134 [0,1,8] (σ:=(Nat×Nat)) (fun s=>s) (fun (v19,v20) h=>Own vars h0 [((some g14),.cells (flatC (((([]:List FailZ)++x5)++x5).map encFail)) true)] h) (fun (v19,v20)=>[(9,(i64 v19)),(10,(i64 v20))]) (0,0) hm O ?_
     clear hm;rintro⟨v19,v20⟩ nx21 base h hm O
     refine gX ?_
     refine br hm (fun hm=>?_) fun hm=>?_
     ·apply Cs;conv=>whnf
      refine jn hm 134 [0,1,8,10] (fun s=>s) (fun v22 h=>Own vars h0 [((some g14),.cells (flatC (((([]:List FailZ)++x5)++x5).map encFail)) true)] h) (fun v22=>[(9,(i64 v22))]) (fun hm=>?_) ?_
      ·apply Cs;conv=>whnf
       refine jn hm 134 [0,1,8,9,10] (fun s=>s) (fun v24 h=>Own vars h0 [((some g14),.cells (flatC (((([]:List FailZ)++x5)++x5).map encFail)) true)] h) (fun v24=>[(66,(.bool v24))]) (fun hm=>?_) ?_
       ·refine gX ?_
        refine atF hm fun x26 hx26 hm=>?_;refine gH ?_
        refine O.useL (fun _ hb=>probecardlaw22_distinct_walk hm hb) (.head _) ((rfl:_=_).trans (List.length_map ..)) (fun _=>rfl) (i:=1) rfl (by kernel_rfl) (fun h2 q=>(LLe.cons (VLe.refl _ _) (LLe.cons (q) (LLe.nil _)))) (fun r27 h hm' O=>?_);replace hm:=hm';refine gH ?_
        refine br hm (fun hm=>?_) fun hm=>?_
        ·refine gX ?_
         refine atF hm fun x28 hx28 hm=>?_;refine gH ?_
         refine O.useL (fun _ hb=>probecardlaw22_distinct_walk hm hb) (.head _) ((rfl:_=_).trans (List.length_map ..)) (fun _=>rfl) (i:=0) rfl (by kernel_rfl) (fun h2 q=>(LLe.cons (q) (LLe.cons (VLe.refl _ _) (LLe.nil _)))) (fun r29 h hm' O=>?_);replace hm:=hm';refine gH ?_
         exact jx (eqN r29.length 0) hm O
        ·refine gX ?_
         exact jx false hm O
       ·clear hm;rintro v24 base h hm O
        refine gX ?_
        refine br hm (fun hm=>?_) fun hm=>?_
        ·apply Cs;conv=>whnf
         refine jn hm 134 [0,1,8,9,10] (fun s=>s) (fun v30 h=>Own vars h0 [((some g14),.cells (flatC (((([]:List FailZ)++x5)++x5).map encFail)) true)] h) (fun v30=>[(78,(.bool v30))]) (fun hm=>?_) ?_
         ·refine gX ?_
          refine lmC ?_;refine gH ?_
          refine br hm (fun hm=>?_) fun hm=>?_
          ·refine gX ?_
           exact jx true hm O
          ·refine gX ?_
           refine atC hm fun x32 hx32 hm=>?_;refine gH ?_
           exact jx (neN x32 v20) hm O
         ·clear hm;rintro v30 base h hm O
          refine gX ?_
          refine br hm (fun hm=>?_) fun hm=>?_
          ·refine gX ?_
           exact fe hm O
          ·refine gX ?_
           refine aAdd hm fun hm=>?_;refine gH ?_
           exact jx (v19+1) hm O
        ·refine gX ?_
         exact jx v19 hm O
      ·clear hm;rintro v22 base h hm O
       refine gX ?_
       refine aAdd hm fun hm=>?_;refine gH ?_
       exact jx (v22,(v20+1)) hm O
     ·refine gX ?_
      exact jx v19 hm O
    ·clear hm;rintro v17 base h hm O
     refine gX ?_
     refine O.useL (fun _ hb=>suspects_RankM_walk hm hb) (.head _) ((rfl:_=_).trans (List.length_map ..)) (fun _=>rfl) (i:=1) rfl (by kernel_rfl) (fun h2 q=>(LLe.cons (VLe.refl _ _) (LLe.cons (q) (LLe.nil _)))) (fun r33 h hm' O=>?_);replace hm:=hm';refine gH ?_
     apply Cs;conv=>whnf
     refine jn hm 134 [8,9,11] (fun s=>s) (fun v34 h=>Own vars h0 [] h) (fun v34=>[(101,(.bool v34))]) (fun hm=>?_) ?_
     ·refine gX ?_
      refine lmC ?_;refine gH ?_
      refine br hm (fun hm=>?_) fun hm=>?_
      ·refine gX ?_
       refine bt ?_;refine gH ?_
       exact jx true hm (O.sel [] (by decide))
      ·refine gX ?_
       refine lmC ?_;refine gH ?_
       refine br hm (fun hm=>?_) fun hm=>?_
       ·refine gX ?_
        exact jx true hm (O.sel [] (by decide))
       ·refine gX ?_
        refine cpC ?_;refine gH ?_
        refine lmC ?_;refine gH ?_
        exact jx (neN r16.length r16.length) hm (O.sel [] (by decide))
     ·clear hm;rintro v34 base h hm O
      refine gX ?_
      refine br hm (fun hm=>?_) fun hm=>?_
      ·refine gX ?_
       exact fe hm O
      ·apply Cs;conv=>whnf
       refine jn hm 134 [] (fun s=>s) (fun _ h=>Own vars h0 [] h) (fun _=>[]) (fun hm=>?_) ?_
       ·refine gX ?_
        refine lw 134 [8,9,11] (σ:=Nat) (fun s=>s) (fun v37 h=>Own vars h0 [] h) (fun v37=>[(12,(i64 v37))]) 0 hm O ?_
        clear hm;rintro v37 nx38 base h hm O
        refine gX ?_
        refine br hm (fun hm=>?_) fun hm=>?_
        ·apply Cs;conv=>whnf
         apply Cs;conv=>whnf
         apply Cs;conv=>whnf
         refine jn hm 134 [8,9,11,12] (fun s=>s) (fun v39 h=>Own vars h0 [] h) (fun v39=>[(132,(.bool v39))]) (fun hm=>?_) ?_
         ·refine gX ?_
          refine atC hm fun x41 hx41 hm=>?_;refine gH ?_
          refine atC hm fun x42 hx42 hm=>?_;refine gH ?_
          refine br hm (fun hm=>?_) fun hm=>?_
          ·refine gX ?_
           refine bt ?_;refine gH ?_
           exact jx true hm O
          ·refine gX ?_
           refine atC hm fun x43 hx43 hm=>?_;refine gH ?_
           refine br hm (fun hm=>?_) fun hm=>?_
           ·refine gX ?_
            exact jx true hm O
           ·refine gX ?_
            refine atC hm fun x44 hx44 hm=>?_;refine gH ?_
            exact jx (neN x44.extra 0) hm O
         ·clear hm;rintro v39 base h hm O
          refine gX ?_
          refine br hm (fun hm=>?_) fun hm=>?_
          ·refine gX ?_
           exact fe hm O
          ·refine gX ?_
           refine aAdd hm fun hm=>?_;refine gH ?_
           exact jx (v37+1) hm O
        ·refine gX ?_
         exact jx () hm O
       ·clear hm;rintro _ base h hm O
        refine gX ?_
        refine ca (probecardlaw22_lives_walk hm O.has) fun r45 hm=>?_;refine gX ?_
        exact fe hm O
   ·refine gX ?_
    refine ca (suspects_Exact_walk hm O.has) fun r46 hm=>?_;refine gH ?_
    apply Cs;conv=>whnf
    apply Cs;refine gH ?_
    refine jn hm 134 [0,1,8] (fun s=>s) (fun v47 h=>Own vars h0 [] h) (fun v47=>[(9,(i64 v47))]) (fun hm=>?_) ?_
    ·refine gX ?_
     refine lw 134 [0,1,8] (σ:=(Nat×Nat)) (fun s=>s) (fun (v49,v50) h=>Own vars h0 [] h) (fun (v49,v50)=>[(9,(i64 v49)),(10,(i64 v50))]) (0,0) hm O ?_
     clear hm;rintro⟨v49,v50⟩ nx51 base h hm O
     refine gX ?_
     refine br hm (fun hm=>?_) fun hm=>?_
     ·apply Cs;conv=>whnf
      refine jn hm 134 [0,1,8,10] (fun s=>s) (fun v52 h=>Own vars h0 [] h) (fun v52=>[(9,(i64 v52))]) (fun hm=>?_) ?_
      ·apply Cs;conv=>whnf
       refine jn hm 134 [0,1,8,9,10] (fun s=>s) (fun v54 h=>Own vars h0 [] h) (fun v54=>[(66,(.bool v54))]) (fun hm=>?_) ?_
       ·refine gX ?_
        refine atF hm fun x56 hx56 hm=>?_;refine gH ?_
        refine ca (probecardlaw22_distinct_walk hm O.has) fun r57 hm=>?_;refine gH ?_
        refine br hm (fun hm=>?_) fun hm=>?_
        ·refine gX ?_
         refine atF hm fun x58 hx58 hm=>?_;refine gH ?_
         refine ca (probecardlaw22_distinct_walk hm O.has) fun r59 hm=>?_;refine gH ?_
         exact jx (eqN r59.length 0) hm O
        ·refine gX ?_
         exact jx false hm O
       ·clear hm;rintro v54 base h hm O
        refine gX ?_
        refine br hm (fun hm=>?_) fun hm=>?_
        ·apply Cs;conv=>whnf
         refine jn hm 134 [0,1,8,9,10] (fun s=>s) (fun v60 h=>Own vars h0 [] h) (fun v60=>[(78,(.bool v60))]) (fun hm=>?_) ?_
         ·refine gX ?_
          refine lmC ?_;refine gH ?_
          refine br hm (fun hm=>?_) fun hm=>?_
          ·refine gX ?_
           exact jx true hm O
          ·refine gX ?_
           refine atC hm fun x62 hx62 hm=>?_;refine gH ?_
           exact jx (neN x62 v50) hm O
         ·clear hm;rintro v60 base h hm O
          refine gX ?_
          refine br hm (fun hm=>?_) fun hm=>?_
          ·refine gX ?_
           exact fe hm O
          ·refine gX ?_
           refine aAdd hm fun hm=>?_;refine gH ?_
           exact jx (v49+1) hm O
        ·refine gX ?_
         exact jx v49 hm O
      ·clear hm;rintro v52 base h hm O
       refine gX ?_
       refine aAdd hm fun hm=>?_;refine gH ?_
       exact jx (v52,(v50+1)) hm O
     ·refine gX ?_
      exact jx v49 hm O
    ·clear hm;rintro v47 base h hm O
     refine gX ?_
     refine ca (suspects_RankM_walk hm O.has) fun r63 hm=>?_;refine gH ?_
     apply Cs;conv=>whnf
     refine jn hm 134 [8,9,11] (fun s=>s) (fun v64 h=>Own vars h0 [] h) (fun v64=>[(101,(.bool v64))]) (fun hm=>?_) ?_
     ·refine gX ?_
      refine lmC ?_;refine gH ?_
      refine br hm (fun hm=>?_) fun hm=>?_
      ·refine gX ?_
       refine bt ?_;refine gH ?_
       exact jx true hm O
      ·refine gX ?_
       refine lmC ?_;refine gH ?_
       refine br hm (fun hm=>?_) fun hm=>?_
       ·refine gX ?_
        exact jx true hm O
       ·refine gX ?_
        refine cpC ?_;refine gH ?_
        refine lmC ?_;refine gH ?_
        exact jx (neN r46.length r46.length) hm O
     ·clear hm;rintro v64 base h hm O
      refine gX ?_
      refine br hm (fun hm=>?_) fun hm=>?_
      ·refine gX ?_
       exact fe hm O
      ·apply Cs;conv=>whnf
       refine jn hm 134 [] (fun s=>s) (fun _ h=>Own vars h0 [] h) (fun _=>[]) (fun hm=>?_) ?_
       ·refine gX ?_
        refine lw 134 [8,9,11] (σ:=Nat) (fun s=>s) (fun v67 h=>Own vars h0 [] h) (fun v67=>[(12,(i64 v67))]) 0 hm O ?_
        clear hm;rintro v67 nx68 base h hm O
        refine gX ?_
        refine br hm (fun hm=>?_) fun hm=>?_
        ·apply Cs;conv=>whnf
         apply Cs;conv=>whnf
         apply Cs;conv=>whnf
         refine jn hm 134 [8,9,11,12] (fun s=>s) (fun v69 h=>Own vars h0 [] h) (fun v69=>[(132,(.bool v69))]) (fun hm=>?_) ?_
         ·refine gX ?_
          refine atC hm fun x71 hx71 hm=>?_;refine gH ?_
          refine atC hm fun x72 hx72 hm=>?_;refine gH ?_
          refine br hm (fun hm=>?_) fun hm=>?_
          ·refine gX ?_
           refine bt ?_;refine gH ?_
           exact jx true hm O
          ·refine gX ?_
           refine atC hm fun x73 hx73 hm=>?_;refine gH ?_
           refine br hm (fun hm=>?_) fun hm=>?_
           ·refine gX ?_
            exact jx true hm O
           ·refine gX ?_
            refine atC hm fun x74 hx74 hm=>?_;refine gH ?_
            exact jx (neN x74.extra 0) hm O
         ·clear hm;rintro v69 base h hm O
          refine gX ?_
          refine br hm (fun hm=>?_) fun hm=>?_
          ·refine gX ?_
           exact fe hm O
          ·refine gX ?_
           refine aAdd hm fun hm=>?_;refine gH ?_
           exact jx (v67+1) hm O
        ·refine gX ?_
         exact jx () hm O
       ·clear hm;rintro _ base h hm O
        refine gX ?_
        refine ca (probecardlaw22_lives_walk hm O.has) fun r75 hm=>?_;refine gX ?_
        exact fe hm O
end Go.Proofs.YteceaohcjmbfbaaGreatDoor
