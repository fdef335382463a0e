/-
  SoN, Ln2, N2, Orz, SrtN, V1, U6: parts of the proof.
-/
import Derived.Test.YtmhbhclfojmjdaaGreatDoorTh50
namespace Go.Proofs.YtmhbhclfojmjdaaGreatDoor
open Go.Abs
set_option maxRecDepth 100000
def renN:Go.Shelf.Ren where
 f n:=match n with
  |6=>57
  |14=>88
  |15=>89
  |20=>107
  |21=>108
  |22=>109
  |23=>110
  |24=>111
  |25=>112
  |26=>113
  |27=>114
  |28=>115
  |29=>116
  |46=>129
  |47=>130
  |48=>131
  |49=>132
  |50=>133
  |57=>140
  |n=>n
 t n:=match n with
  |0=>0
  |3=>3
  |4=>4
  |5=>5
  |22=>40
  |24=>52
  |25=>112
  |39=>82
  |45=>160
  |46=>161
  |50=>165
  |53=>168
  |55=>28
  |66=>176
  |70=>180
  |76=>186
  |77=>97
  |n=>n
 g n:=n
theorem sortN:Go.Proofs.SlLaysF0.n6 Tryz.prog renN where
 mixed:=by kernel_rfl
 f6:=⟨Tryz.f57.name,by kernel_rfl,by kernel_rfl⟩
 f14:=⟨Tryz.f88.name,by kernel_rfl,by kernel_rfl⟩
 f15:=by kernel_rfl
 f20:=⟨Tryz.f107.name,by kernel_rfl,by kernel_rfl⟩
 f21:=⟨Tryz.f108.name,by kernel_rfl,by kernel_rfl⟩
 f22:=⟨Tryz.f109.name,by kernel_rfl,by kernel_rfl⟩
 f23:=⟨Tryz.f110.name,by kernel_rfl,by kernel_rfl⟩
 f24:=⟨Tryz.f111.name,by kernel_rfl,by kernel_rfl⟩
 f25:=⟨Tryz.f112.name,by kernel_rfl,by kernel_rfl⟩
 f26:=⟨Tryz.f113.name,by kernel_rfl,by kernel_rfl⟩
 f27:=⟨Tryz.f114.name,by kernel_rfl,by kernel_rfl⟩
 f28:=by kernel_rfl
 f29:=by kernel_rfl
 f46:=⟨Tryz.f129.name,by kernel_rfl,by kernel_rfl⟩
 f47:=by kernel_rfl
 f48:=by kernel_rfl
 f49:=⟨Tryz.f132.name,by kernel_rfl,by kernel_rfl⟩
 f50:=⟨Tryz.f133.name,by kernel_rfl,by kernel_rfl⟩
 f57:=⟨Tryz.f140.name,by kernel_rfl,by kernel_rfl⟩
 t0:=by kernel_rfl
 a0:=fun w=>by kernel_rfl
 z0:=fun w=>by kernel_rfl
 v0:=fun w=>by kernel_rfl
 t3:=by kernel_rfl
 a3:=fun w=>by kernel_rfl
 z3:=fun w=>by kernel_rfl
 v3:=fun w=>by kernel_rfl
 t4:=by kernel_rfl
 a4:=fun w=>by kernel_rfl
 z4:=fun w=>by kernel_rfl
 v4:=fun w=>by kernel_rfl
 t5:=by kernel_rfl
 a5:=fun w=>by kernel_rfl
 z5:=fun w=>by kernel_rfl
 v5:=fun w=>by kernel_rfl
 t9:=by kernel_rfl
 a9:=fun w=>by kernel_rfl
 z9:=fun w=>by kernel_rfl
 v9:=fun w=>by kernel_rfl
 t22:=by kernel_rfl
 a22:=fun w=>by kernel_rfl
 z22:=fun w=>by kernel_rfl
 v22:=fun w=>by kernel_rfl
 t25:=by kernel_rfl
 a25:=fun w=>by kernel_rfl
 z25:=fun w=>by kernel_rfl
 v25:=fun w=>by kernel_rfl
 t39:=by kernel_rfl
 a39:=fun w=>by kernel_rfl
 z39:=fun w=>by kernel_rfl
 v39:=fun w=>by kernel_rfl
 t45:=by kernel_rfl
 a45:=fun w=>by kernel_rfl
 z45:=fun w=>by kernel_rfl
 v45:=fun w=>by kernel_rfl
 t46:=by kernel_rfl
 a46:=fun w=>by kernel_rfl
 z46:=fun w=>by kernel_rfl
 v46:=fun w=>by kernel_rfl
 t50:=by kernel_rfl
 a50:=fun w=>by kernel_rfl
 z50:=fun w=>by kernel_rfl
 v50:=fun w=>by kernel_rfl
 t53:=by kernel_rfl
 a53:=fun w=>by kernel_rfl
 z53:=fun w=>by kernel_rfl
 v53:=fun w=>by kernel_rfl
 t55:=by kernel_rfl
 a55:=fun w=>by kernel_rfl
 z55:=fun w=>by kernel_rfl
 v55:=fun w=>by kernel_rfl
 t66:=by kernel_rfl
 a66:=fun w=>by kernel_rfl
 z66:=fun w=>by kernel_rfl
 v66:=fun w=>by kernel_rfl
 t70:=by kernel_rfl
 a70:=fun w=>by kernel_rfl
 z70:=fun w=>by kernel_rfl
 v70:=fun w=>by kernel_rfl
 t76:=by kernel_rfl
 a76:=fun w=>by kernel_rfl
 z76:=fun w=>by kernel_rfl
 v76:=fun w=>by kernel_rfl
 t77:=by kernel_rfl
 a77:=fun w=>by kernel_rfl
 z77:=fun w=>by kernel_rfl
 v77:=fun w=>by kernel_rfl
theorem sortN_a:∀ w,(isAgg (renN.t 24)).run Tryz.prog w=.ok true w:=fun w=>by kernel_rfl
theorem sortN_z:∀ w,(Go.sizeOf (renN.t 24)).run Tryz.prog w=.ok 2 w:=fun w=>by kernel_rfl
structure N2 where
 a:Nat
 b:Nat
deriving DecidableEq
structure Rul where
 pin:Nat
 out:Nat
structure Sus where
 fault:Nat
 both:Nat
 missed:Nat
 extra:Nat
deriving DecidableEq
set_option maxHeartbeats 8000000
def cmp_Or_int__wp (p0:(List Int)) (K:Int->Prop):Prop :=
 joinW (α:=Unit) (fun k1=>loopW (S:=Nat) (fun v2 nx3=>((ltN v2 p0.length)=true->∃ x4,p0[v2]?=some x4/\((neZ x4 (Int.ofNat 0))=true->K x4)/\((neZ x4 (Int.ofNat 0))=false->v2+1<2 ^ 63/\nx3 (v2+1)))/\((ltN v2 p0.length)=false->k1 ())) 0) (fun _=>K (Int.ofNat 0))
theorem cmp_Or_int__walk {p0:(List Int)}{K:Int->Prop} (hm:cmp_Or_int__wp p0 K) {h0:Heap} (hB:HasB vars h0):∃ r,K r/\CallD Tryz.prog NG 59 ⟨[(encL 1 z64) p0]⟩ h0 (z64 r) h0:=by
 unfold cmp_Or_int__wp at hm
 refine fw Tryz.func59 hB (enc:=z64) (fun r=>PureV.flat rfl) fun O=>?_;conv=>whnf
 apply Cs;conv=>whnf
 apply Cs;refine gH ?_
 apply Cs;conv=>whnf
 apply Cs;refine gH ?_
 refine jn hm 18 [3] (fun s=>s) (fun _ h=>Own vars h0 [] h) (fun _=>[]) (fun hm=>?_) ?_
 ·refine gX ?_
  refine lw 18 [3,6,7] (σ:=Nat) (fun s=>s) (fun v2 h=>Own vars h0 [] h) (fun v2=>[(8,(i64 v2))]) 0 hm O ?_
  clear hm;rintro v2 nx3 base h hm O
  refine gX ?_
  refine br hm (fun hm=>?_) fun hm=>?_
  ·refine gX ?_
   refine atF hm fun x4 hx4 hm=>?_;refine gX ?_
   refine br hm (fun hm=>?_) fun hm=>?_
   ·refine gX ?_
    exact fe hm O
   ·refine gX ?_
    refine aAdd hm fun hm=>?_;refine gH ?_
    exact jx (v2+1) hm O
  ·refine gX ?_
   exact jx () hm O
 ·clear hm;rintro _ base h hm O
  refine gX ?_
  exact fe hm O
def traces_order_wp (p0:LnZ) (p1:LnZ) (K:Int->Prop):Prop :=
 -(2 ^ 63)<=((Int.ofNat p0.node)-(Int.ofNat p1.node))/\((Int.ofNat p0.node)-(Int.ofNat p1.node))<2 ^ 63 /\ -(2 ^ 63)<=(p0.pin-p1.pin)/\(p0.pin-p1.pin)<2 ^ 63/\cmp_Or_int__wp ([((Int.ofNat p0.node)-(Int.ofNat p1.node)),(p0.pin-p1.pin)]:(List Int)) (fun r1=>K r1)
theorem traces_order_walk {p0:LnZ}{p1:LnZ}{K:Int->Prop} (hm:traces_order_wp p0 p1 K) {h0:Heap} (hB:HasB vars h0):∃ r,K r/\CallD Tryz.prog NG 58 ⟨[encLnZ p0,encLnZ p1]⟩ h0 (z64 r) h0:=by
 unfold traces_order_wp at hm
 refine fw Tryz.func58 hB (enc:=z64) (fun r=>PureV.flat rfl) fun O=>?_;conv=>whnf
 refine gX ?_
 refine fz ?_;refine gH ?_
 refine fz ?_;refine gX ?_
 refine⟨_,subZK (a:=(Int.ofNat p0.node)) (b:=(Int.ofNat p1.node)) rfl rfl hm.1 hm.2.1,?_⟩;refine gH ?_
 replace hm:=hm.2.2
 refine⟨_,subZK (a:=p0.pin) (b:=p1.pin) rfl rfl hm.1 hm.2.1,?_⟩;refine gH ?_
 replace hm:=hm.2.2
 refine fz ?_;refine gH ?_
 refine ca (cmp_Or_int__walk hm O.has) fun r1 hm=>?_;refine gX ?_
 exact fe hm O
def orZ (a b:Int):Int:=if a≠0 then a else b
theorem nez_t {a b:Int}:neZ a b=true↔a≠b:=by rw[neZ_eq];simp
theorem nez_f {a b:Int}:neZ a b=false↔a=b:=by rw[neZ_eq];simp
theorem eqz_t {a b:Int}:eqZ a b=true↔a=b:=by rw[eqZ_eq];simp
theorem or_vc {a b:Int}{K:Int->Prop} (h:K (orZ a b)):cmp_Or_int__wp [a,b] K:=by
 unfold cmp_Or_int__wp
 refine (show loopW _ _ from⟨3,?_⟩)
 unfold orZ at h
 refine⟨fun _=>⟨a,rfl,fun q=>?_,fun q=>⟨by decide,?_⟩⟩,fun q=>absurd (lt_f.1 q) (by simp)⟩
 ·rw[if_pos (show a≠0 from nez_t.1 q)] at h;exact h
 rw[if_neg (fun e:a≠0=>e (nez_f.1 q))] at h
 refine⟨fun _=>⟨b,rfl,fun _=>h,fun q=>⟨by decide,?_⟩⟩,fun q=>absurd (lt_f.1 q) (by simp)⟩
 have e:b=0:=nez_f.1 q
 subst e
 exact⟨fun q=>absurd (lt_t.1 q) (by simp),fun _=>h⟩
theorem orZ_neg {a b:Int}:orZ a b<0↔a<0\/a=0/\b<0:=by
 unfold orZ
 split <;> omega
def lnB (x:LnZ):Prop:=x.node<2 ^ 62 /\ -(2 ^ 62)<=x.pin/\x.pin<2 ^ 62
def cfLn (x y:LnZ):Int:=orZ (Int.ofNat x.node-Int.ofNat y.node) (x.pin-y.pin)
def lnLe (x y:LnZ):Prop:=¬ cfLn y x<0
theorem order_ln {a b:LnZ} (ha:lnB a) (hb:lnB b) {K:Int->Prop} (h:K (cfLn a b)):traces_order_wp a b K:=by
 obtain⟨a1,a2,a3⟩:=ha
 obtain⟨b1,b2,b3⟩:=hb
 exact⟨by simp only[Int.ofNat_eq_natCast];omega,by simp only[Int.ofNat_eq_natCast];omega,by omega,by omega,or_vc h⟩
theorem cfLn_neg {x y:LnZ}:cfLn x y<0↔x.node<y.node\/x.node=y.node/\x.pin<y.pin:=by
 unfold cfLn;rw[orZ_neg];simp only[Int.ofNat_eq_natCast];omega
theorem lnLe_iff {x y:LnZ}:lnLe x y↔x.node<y.node\/x.node=y.node/\x.pin<=y.pin:=by
 unfold lnLe;rw[cfLn_neg];omega
theorem swoLn:Go.Sort.SWO (Go.Proofs.ltOf fun x y:{x:LnZ // lnB x}=>cfLn x.1 y.1) where
 irrefl x:=by unfold Go.Proofs.ltOf;rw[decide_eq_false_iff_not,cfLn_neg];omega
 trans x y z:=by unfold Go.Proofs.ltOf;simp only[decide_eq_true_eq,cfLn_neg];omega
 ntrans x y z:=by unfold Go.Proofs.ltOf;simp only[decide_eq_false_iff_not,cfLn_neg];omega
theorem sub_map {α:Type}{p:α->Prop}{β:Type} (f:α->β):∀ (l:List α) (h:∀ x∈l,p x),l.map f=(l.attachWith p h).map fun x=>f x.1
 |[],_=>rfl
 |a::l,h=>by
  show f a::l.map f=_::_
  rw[sub_map f l fun x m=>h x (List.mem_cons_of_mem _ m)]
  simp[List.attachWith]
theorem sortLn {h0 h:Heap}{L:List Slot}{la:List LnZ}{f:Slot->List Slot}{a:Option Nat} (O:Own vars h0 L h) (A:At (a,.cells (flatC (la.map encLnZ)) false) L f) (ha:a=none->la=[]) (hsz:la.length<4611686018427387904) (hb:∀ x∈la,lnB x) :
  ∃ (l':List LnZ) (h':Heap),l'.Perm la/\l'.Pairwise lnLe/\CallD Tryz.prog NG 57 ⟨[growV 2 a (la.map encLnZ),.func (.func 58) #[] #[]]⟩ h (.tuple #[]) h'/\Own vars h0 (f (a,.cells (flatC (l'.map encLnZ)) false)) h':=by
 have inh:Inhabited {x:LnZ // lnB x}:=⟨⟨⟨0,0⟩,by unfold lnB;decide⟩⟩
 have e:=sub_map encLnZ la hb
 have e1:(la.attachWith lnB hb).map Subtype.val=la:=by simp
 rw[e] at A ⊢
 obtain⟨l',h',p1,p2,p3,p4⟩:=O.sortG (ρ:=renN) (k:=2) (encC:=fun x:{x:LnZ // lnB x}=>[i64 x.1.node,z64 x.1.pin]) (enc:=fun x:{x:LnZ // lnB x}=>encLnZ x.1) (cf:=fun x y=>cfLn x.1 y.1) sortN sortN_a sortN_z (fun _=>rfl) (fun _=>rfl)
  (fun x v m=>by simp only[List.mem_cons,List.not_mem_nil,or_false] at m;rcases m with rfl|rfl <;> rfl) (fun x v m=>by simp only[List.mem_cons,List.not_mem_nil,or_false] at m;rcases m with rfl|rfl <;> rfl)
  swoLn (by kernel_rfl) (Go.Proofs.enters_of Tryz.func58 (by kernel_rfl) rfl) fzVars
  (fun x y h2 hb=>by obtain⟨r,rfl,c⟩:=traces_order_walk (p0:=x.1) (p1:=y.1) (K:=fun r=>r=cfLn x.1 y.1) (order_ln x.2 y.2 rfl) hb;exact c) A (fun q=>by have e2:=ha q;subst e2;rfl) (by rw[List.length_attachWith];exact hsz)
 refine⟨l'.map Subtype.val,h',?_,?_,p3,?_⟩
 ·have:=p1.map Subtype.val
  rw[e1] at this
  exact this
 ·exact List.pairwise_map.2 p2
 ·rw[List.map_map]
  exact p4
set_option maxHeartbeats 8000000
def sl_IndexI_wp (p0:(List Nat)) (p1:Nat) (K:Int->Prop):Prop :=
 joinW (α:=Unit) (fun k1=>loopW (S:=Nat) (fun v2 nx3=>((ltN v2 p0.length)=true->∃ x4,p0[v2]?=some x4/\((eqN p1 x4)=true->K (Int.ofNat v2))/\((eqN p1 x4)=false->v2+1<2 ^ 63/\nx3 (v2+1)))/\((ltN v2 p0.length)=false->k1 ())) 0) (fun _=>K (Int.negSucc 0))
theorem sl_IndexI_walk {p0:(List Nat)}{p1:Nat}{K:Int->Prop} (hm:sl_IndexI_wp p0 p1 K) {h0:Heap} (hB:HasB vars h0):∃ r,K r/\CallD Tryz.prog NG 90 ⟨[(encL 1 i64) p0,i64 p1]⟩ h0 (z64 r) h0:=by
 unfold sl_IndexI_wp at hm
 refine fw Tryz.func90 hB (enc:=z64) (fun r=>PureV.flat rfl) fun O=>?_;conv=>whnf
 apply Cs;conv=>whnf
 apply Cs;refine gH ?_
 refine jn hm 19 [] (fun s=>s) (fun _ h=>Own vars h0 [] h) (fun _=>[]) (fun hm=>?_) ?_
 ·refine gX ?_
  refine lw 19 [0,1,7] (σ:=Nat) (fun s=>s) (fun v2 h=>Own vars h0 [] h) (fun v2=>[(8,(i64 v2))]) 0 hm O ?_
  clear hm;rintro v2 nx3 base h hm O
  refine gX ?_
  refine br hm (fun hm=>?_) fun hm=>?_
  ·refine gX ?_
   refine atF hm fun x4 hx4 hm=>?_;refine gX ?_
   refine br hm (fun hm=>?_) fun hm=>?_
   ·refine gX ?_
    exact fe hm O
   ·refine gX ?_
    refine aAdd hm fun hm=>?_;refine gH ?_
    exact jx (v2+1) hm O
  ·refine gX ?_
   exact jx () hm O
 ·clear hm;rintro _ base h hm O
  refine gX ?_
  exact fe hm O
def sl_ContainsI_wp (p0:(List Nat)) (p1:Nat) (K:Bool->Prop):Prop :=
 sl_IndexI_wp p0 p1 (fun r1=>K (!ltI r1 (Int.ofNat 0)))
theorem sl_ContainsI_walk {p0:(List Nat)}{p1:Nat}{K:Bool->Prop} (hm:sl_ContainsI_wp p0 p1 K) {h0:Heap} (hB:HasB vars h0):∃ r,K r/\CallD Tryz.prog NG 60 ⟨[(encL 1 i64) p0,i64 p1]⟩ h0 (Value.bool r) h0:=by
 unfold sl_ContainsI_wp at hm
 refine fw Tryz.func60 hB (enc:=Value.bool) (fun r=>PureV.flat rfl) fun O=>?_;conv=>whnf
 refine gX ?_
 refine ca (sl_IndexI_walk hm O.has) fun r1 hm=>?_;refine gX ?_
 exact fe hm O
def traces_loads_wp (p0:Circ) (K:((List (List LnZ))×(List Nat))->Prop):Prop :=
 netlists_FanoutZ_wp p0 (fun r1=>8*p0.nodes.length<=2 ^ 48/\p0.nodes.length<2 ^ 63/\joinW (α:=(List Nat)) (fun k5=>loopW (S:=((List Nat)×Nat)) (fun (v6,v7) nx8=>((ltN v7 r1.length)=true->∃ x9,r1[v7]?=some x9/\v7<p0.nodes.length/\∃ x10,v6[v7]?=some x10/\v7+1<2 ^ 63/\nx8 ((v6.set v7 x9.length),(v7+1)))/\((ltN v7 r1.length)=false->k5 v6)) ((List.replicate p0.nodes.length (0:Nat)),0)) (fun v4=>joinW (α:=(List Nat)) (fun k12=>loopW (S:=((List Nat)×Nat)) (fun (v13,v14) nx15=>((ltN v14 p0.outs.length)=true->∃ x16,p0.outs[v14]?=some x16/\x16<p0.nodes.length/\∃ x17,v13[x16]?=some x17/\x17+1<2 ^ 63/\x16<p0.nodes.length/\∃ x18,v13[x16]?=some x18/\v14+1<2 ^ 63/\nx15 ((v13.set x16 (x17+1)),(v14+1)))/\((ltN v14 p0.outs.length)=false->k12 v13)) (v4,0)) (fun v11=>p0.nodes.length=v11.length/\K (r1,v11))))
theorem traces_loads_walk {p0:Circ}{K:((List (List LnZ))×(List Nat))->Prop} (hm:traces_loads_wp p0 K) {h0:Heap} (hB:HasB vars h0):∃ r,K r/\CallD Tryz.prog NG 48 ⟨[encCirc p0]⟩ h0 ((fun (r:((List (List LnZ))×(List Nat)))=>Value.tuple ⟨[(encL 1 (encL 2 encLnZ)) (r.1),(encL 1 i64) (r.2)]⟩) r) h0:=by
 unfold traces_loads_wp at hm
 refine fw Tryz.func48 hB (enc:=(fun (r:((List (List LnZ))×(List Nat)))=>Value.tuple ⟨[(encL 1 (encL 2 encLnZ)) (r.1),(encL 1 i64) (r.2)]⟩)) (fun r=>PureV.tup (AllPure.cons (pureL (fun _=>AllPure.cons (pureL (fun _=>pure_lnZC _)) AllPure.nil)) (AllPure.cons (pureL (fun _=>AllPure.cons (PureV.flat rfl) AllPure.nil)) (AllPure.nil)))) fun O=>?_;conv=>whnf
 refine gX ?_
 refine fz ?_;refine gX ?_
 refine ca (netlists_FanoutZ_walk hm O.has) fun r1 hm=>?_;refine gX ?_
 refine O.mkL (enc:=i64) 8 1 0 hm fun g2 h O hm=>?_;refine gH ?_
 refine jn hm 45 [1,4,5] (fun s=>s) (fun v4 h=>Own vars h0 [((some g2),.cells (flatC (v4.map i64)) false)] h) (fun v4=>[]) (fun hm=>?_) ?_
 ·refine gX ?_
  refine lw 45 [1,4,5,16,17] (σ:=((List Nat)×Nat)) (fun s=>s) (fun (v6,v7) h=>Own vars h0 [((some g2),.cells (flatC (v6.map i64)) false)] h) (fun (v6,v7)=>[(18,(i64 v7))]) ((List.replicate p0.nodes.length (0:Nat)),0) hm O ?_
  clear hm;rintro⟨v6,v7⟩ nx8 base h hm O
  refine gX ?_
  refine br hm (fun hm=>?_) fun hm=>?_
  ·refine gX ?_
   refine atF hm fun x9 hx9 hm=>?_;refine gX ?_
   refine ix 1 hm fun x10 hx10 hm=>?_;refine gH ?_
   refine O.stE 1 (.head _) hx10 x9.length fun h O=>?_;refine gX ?_
   refine aAdd hm fun hm=>?_;refine gH ?_
   exact jx ((v6.set v7 x9.length),(v7+1)) hm O
  ·refine gX ?_
   exact jx v6 hm O
 ·clear hm;rintro v4 base h hm O
  conv=>whnf
  refine jn hm 45 [4,5] (fun s=>s) (fun v11 h=>Own vars h0 [((some g2),.cells (flatC (v11.map i64)) false)] h) (fun v11=>[]) (fun hm=>?_) ?_
  ·refine gX ?_
   refine lw 45 [4,5,30,31] (σ:=((List Nat)×Nat)) (fun s=>s) (fun (v13,v14) h=>Own vars h0 [((some g2),.cells (flatC (v13.map i64)) false)] h) (fun (v13,v14)=>[(32,(i64 v14))]) (v4,0) hm O ?_
   clear hm;rintro⟨v13,v14⟩ nx15 base h hm O
   refine gX ?_
   refine br hm (fun hm=>?_) fun hm=>?_
   ·refine gX ?_
    refine atF hm fun x16 hx16 hm=>?_;refine gX ?_
    refine ix 1 hm fun x17 hx17 hm=>?_;refine gH ?_
    refine ldE (s:=1) (i:=0) (O.at (.head _)) hx17 ?_;refine gH ?_
    refine aAdd hm fun hm=>?_;refine gH ?_
    refine ix 1 hm fun x18 hx18 hm=>?_;refine gH ?_
    refine O.stE 1 (.head _) hx18 (x17+1) fun h O=>?_;refine gX ?_
    refine aAdd hm fun hm=>?_;refine gH ?_
    exact jx ((v13.set x16 (x17+1)),(v14+1)) hm O
   ·refine gX ?_
    exact jx v13 hm O
  ·clear hm;rintro v11 base h hm O
   refine gX ?_
   obtain⟨hn19,hm⟩:=hm
   exact⟨(r1,v11),hm,O.ext,fun h2 F=>VLe.tup (LLe.cons (VLe.refl _ _) (LLe.cons (O.flatL F (Nat.le_refl _) (.head _) (fun _=>rfl) hn19) (LLe.nil _)))⟩
def traces_plain_wp (p0:Circ) (K:Nat->Prop):Prop :=
 faults_Lines_wp p0 (fun r1=>((neN r1.2 0)=true->K r1.2)/\((neN r1.2 0)=false->netlists_Of_wp p0 ([12,13]:(List Nat)) (fun r2=>((ltN 0 r2.length)=true->K 7)/\((ltN 0 r2.length)=false->K 0))))
theorem traces_plain_walk {p0:Circ}{K:Nat->Prop} (hm:traces_plain_wp p0 K) {h0:Heap} (hB:HasB vars h0):∃ r,K r/\CallD Tryz.prog NG 24 ⟨[encCirc p0]⟩ h0 (i64 r) h0:=by
 unfold traces_plain_wp at hm
 refine fw Tryz.func24 hB (enc:=i64) (fun r=>PureV.flat rfl) fun O=>?_;conv=>whnf
 refine gX ?_
 refine fz ?_;refine gX ?_
 refine ca (faults_Lines_walk hm O.has) fun r1 hm=>?_;refine gX ?_
 refine br hm (fun hm=>?_) fun hm=>?_
 ·refine gX ?_
  exact fe hm O
 ·refine gX ?_
  refine fz ?_;refine gH ?_
  refine ca (netlists_Of_walk hm O.has) fun r2 hm=>?_;refine gX ?_
  refine br hm (fun hm=>?_) fun hm=>?_
  ·refine gX ?_
   exact fe hm O
  ·refine gX ?_
   exact fe hm O
def cf_tracesFullI_wp (p0:(List Nat)) (K:Int->Prop):Prop :=
 joinW (α:=Unit) (fun k1=>loopW (S:=Nat) (fun v2 nx3=>((ltN v2 p0.length)=true->∃ x4,p0[v2]?=some x4/\logic_Known_wp x4 (fun r5=>((!r5)=true->K (Int.ofNat v2))/\((!r5)=false->v2+1<2 ^ 63/\nx3 (v2+1))))/\((ltN v2 p0.length)=false->k1 ())) 0) (fun _=>K (Int.negSucc 0))
theorem cf_tracesFullI_walk {p0:(List Nat)}{K:Int->Prop} (hm:cf_tracesFullI_wp p0 K) {h0:Heap} (hB:HasB vars h0):∃ r,K r/\CallD Tryz.prog NG 78 ⟨[(encL 1 n8) p0,(.func (.func 55) ⟨[]⟩ ⟨[]⟩)]⟩ h0 (z64 r) h0:=by
 unfold cf_tracesFullI_wp at hm
 refine fw Tryz.func78 hB (enc:=z64) (fun r=>PureV.flat rfl) fun O=>?_;conv=>whnf
 apply Cs;conv=>whnf
 apply Cs;refine gH ?_
 refine jn hm 19 [] (fun s=>s) (fun _ h=>Own vars h0 [] h) (fun _=>[]) (fun hm=>?_) ?_
 ·refine gX ?_
  refine lw 19 [0,1,7] (σ:=Nat) (fun s=>s) (fun v2 h=>Own vars h0 [] h) (fun v2=>[(8,(i64 v2))]) 0 hm O ?_
  clear hm;rintro v2 nx3 base h hm O
  refine gX ?_
  refine br hm (fun hm=>?_) fun hm=>?_
  ·refine gX ?_
   refine atF hm fun x4 hx4 hm=>?_;refine gH ?_
   refine fg Tryz.func55 ?_;refine gX ?_
   refine ca (logic_Known_walk hm O.has) fun r5 hm=>?_;refine gX ?_
   refine br hm (fun hm=>?_) fun hm=>?_
   ·refine gX ?_
    exact fe hm O
   ·refine gX ?_
    refine aAdd hm fun hm=>?_;refine gH ?_
    exact jx (v2+1) hm O
  ·refine gX ?_
   exact jx () hm O
 ·clear hm;rintro _ base h hm O
  refine gX ?_
  exact fe hm O
def cf_tracesFull_wp (p0:(List Nat)) (K:Bool->Prop):Prop :=
 cf_tracesFullI_wp p0 (fun r1=>K (!ltI r1 (Int.ofNat 0)))
theorem cf_tracesFull_walk {p0:(List Nat)}{K:Bool->Prop} (hm:cf_tracesFull_wp p0 K) {h0:Heap} (hB:HasB vars h0):∃ r,K r/\CallD Tryz.prog NG 56 ⟨[(encL 1 n8) p0,(.func (.func 55) ⟨[]⟩ ⟨[]⟩)]⟩ h0 (Value.bool r) h0:=by
 unfold cf_tracesFull_wp at hm
 refine fw Tryz.func56 hB (enc:=Value.bool) (fun r=>PureV.flat rfl) fun O=>?_;conv=>whnf
 refine gX ?_
 refine ca (cf_tracesFullI_walk hm O.has) fun r1 hm=>?_;refine gX ?_
 exact fe hm O
def traces_full_wp (p0:Circ) (p1:Pat) (K:Nat->Prop):Prop :=
 sims_Check_wp p0 p1 (fun r1=>((neN r1 0)=true->K r1)/\((neN r1 0)=false->joinW (α:=Bool) (fun k3=>cf_tracesFull_wp p1.inp (fun r4=>(r4=true->k3 true)/\(r4=false->cf_tracesFull_wp p1.state (fun r5=>k3 r5)))) (fun v2=>(v2=true->K 1)/\(v2=false->K 0))))
theorem traces_full_walk {p0:Circ}{p1:Pat}{K:Nat->Prop} (hm:traces_full_wp p0 p1 K) {h0:Heap} (hB:HasB vars h0):∃ r,K r/\CallD Tryz.prog NG 25 ⟨[encCirc p0,encPat p1]⟩ h0 (i64 r) h0:=by
 unfold traces_full_wp at hm
 refine fw Tryz.func25 hB (enc:=i64) (fun r=>PureV.flat rfl) fun O=>?_;conv=>whnf
 refine gX ?_
 refine fz ?_;refine gH ?_
 refine fz ?_;refine gX ?_
 refine ca (sims_Check_walk hm O.has) fun r1 hm=>?_;refine gX ?_
 refine br hm (fun hm=>?_) fun hm=>?_
 ·refine gX ?_
  exact fe hm O
 ·apply Cs;conv=>whnf
  apply Cs;conv=>whnf
  apply Cs;refine gH ?_
  apply Cs;conv=>whnf
  refine jn hm 23 [] (fun s=>s) (fun v2 h=>Own vars h0 [] h) (fun v2=>[(22,(.bool v2))]) (fun hm=>?_) ?_
  ·refine gX ?_
   refine ca (cf_tracesFull_walk hm O.has) fun r4 hm=>?_;refine gH ?_
   refine br hm (fun hm=>?_) fun hm=>?_
   ·refine gX ?_
    exact jx true hm O
   ·refine gX ?_
    refine ca (cf_tracesFull_walk hm O.has) fun r5 hm=>?_;refine gH ?_
    exact jx r5 hm O
  ·clear hm;rintro v2 base h hm O
   refine gX ?_
   refine br hm (fun hm=>?_) fun hm=>?_
   ·refine gX ?_
    exact fe hm O
   ·refine gX ?_
    exact fe hm O
def traces_changes_wp (p0:Circ) (p1:(List Nat)) (p2:Nat) (p3:Nat) (K:Bool->Prop):Prop :=
 joinW (α:=(List Nat)) (fun k5=>∃ x6,p0.nodes[p2]?=some x6/\loopW (S:=((List Nat)×Nat)) (fun (v8,v9) nx11=>((ltN v9 x6.ins.length)=true->∃ x12,x6.ins[v9]?=some x12/\∃ x13,p1[x12]?=some x13/\joinW (α:=Nat) (fun k16=>((eqN v9 p3)=true->logic_Not_wp x13 (fun r17=>k16 r17))/\((eqN v9 p3)=false->k16 x13)) (fun v14=>(v8.length+([v14]:(List Nat)).length)*1<=2 ^ 47/\v9+1<2 ^ 63/\nx11 ((v8++([v14]:(List Nat))),(v9+1))))/\((ltN v9 x6.ins.length)=false->k5 v8)) (([]:List Nat),0)) (fun v3=>∃ x20,p0.nodes[p2]?=some x20/\logic_Eval_wp x20.kind v3 (fun r21=>∃ x22,p1[p2]?=some x22/\K (neN r21 x22)))
theorem traces_changes_walk {p0:Circ}{p1:(List Nat)}{p2:Nat}{p3:Nat}{K:Bool->Prop} (hm:traces_changes_wp p0 p1 p2 p3 K) {h0:Heap} (hB:HasB vars h0):∃ r,K r/\CallD Tryz.prog NG 83 ⟨[encCirc p0,(encL 1 n8) p1,i64 p2,i64 p3]⟩ h0 (Value.bool r) h0:=by
 unfold traces_changes_wp at hm
 refine fw Tryz.func83 hB (enc:=Value.bool) (fun r=>PureV.flat rfl) fun O=>?_;conv=>whnf
 refine gX ?_
 refine fz ?_;refine gH ?_
 apply Cs;conv=>whnf
 apply Cs;refine gH ?_
 have O:=O.addNil (.cells (flatC ((([]:List Nat)).map n8)) false)
 refine jn (σ:=(List Nat)×Option Nat) hm 52 [1,2,4] (fun s=>s.1) (fun (v3,a2) h=>(a2=none->v3=[])/\Own vars h0 [(a2,.cells (flatC (v3.map n8)) false)] h) (fun (v3,a2)=>[(9,(growV 1 a2 (v3.map n8)))]) (fun hm=>?_) ?_
 ·refine gX ?_
  refine atF hm fun x6 hx6 hm=>?_;refine gX ?_
  refine lw 52 [1,2,3,4,18,19] (σ:=((List Nat)×Nat)×Option Nat) (fun s=>s.1) (fun ((v8,v9),a7) h=>(a7=none->v8=[])/\Own vars h0 [(a7,.cells (flatC (v8.map n8)) false)] h) (fun ((v8,v9),a7)=>[(9,(growV 1 a7 (v8.map n8))),(20,(i64 v9))]) ((([]:List Nat),0),none) hm ⟨(fun _=>rfl),O⟩ ?_
  clear hm;rintro⟨⟨v8,v9⟩,a7⟩ nx11 base h hm ⟨ha10,O⟩
  refine gX ?_
  refine br hm (fun hm=>?_) fun hm=>?_
  ·refine gX ?_
   refine atF hm fun x12 hx12 hm=>?_;refine gX ?_
   refine atF hm fun x13 hx13 hm=>?_;refine gH ?_
   refine jn hm 52 [1,2,3,4,9,18,19,20] (fun s=>s) (fun v14 h=>(a7=none->v8=[])/\Own vars h0 [(a7,.cells (flatC (v8.map n8)) false)] h) (fun v14=>[(12,(n8 v14))]) (fun hm=>?_) ?_
   ·refine gX ?_
    refine br hm (fun hm=>?_) fun hm=>?_
    ·refine gX ?_
     refine ca (logic_Not_walk hm O.has) fun r17 hm=>?_;refine gH ?_
     exact jx r17 hm ⟨ha10,O⟩
    ·refine gX ?_
     exact jx x13 hm ⟨ha10,O⟩
   ·clear hm;rintro v14 base h hm ⟨ha15,O⟩
    refine gX ?_
    refine fz ?_;refine gH ?_
    refine O.apL (enc:=n8) (l:=v8) (new:=([v14]:(List Nat))) 1 (.head _) ha15 hm fun a18 h ha19 O hm=>?_;refine gX ?_
    refine aAdd hm fun hm=>?_;refine gH ?_
    exact jx (((v8++([v14]:(List Nat))),(v9+1)),a18) hm ⟨ha19,O⟩
  ·refine gX ?_
   exact jx (v8,a7) hm ⟨ha10,O⟩
 ·clear hm;rintro⟨v3,a2⟩ base h hm ⟨ha4,O⟩
  refine gX ?_
  first|refine⟨.inr (.inr (rfl)),?_⟩|refine⟨.inr (.inl (by kernel_rfl)),?_⟩
  refine gX ?_
  refine atF hm fun x20 hx20 hm=>?_;refine gH ?_
  refine CallD.useB (fun _ hb=>logic_Eval_walk hm hb) (fun _=>flatB_ok rfl) fzVars O.has (fun h2 F=>(LLe.cons (VLe.refl _ _) (LLe.cons (O.grownL F (Nat.zero_le _) (.head _) ha4 (fun _=>rfl)) (LLe.nil _)))) (by kernel_rfl) (fun r21 hm'=>?_);replace hm:=hm';refine gH ?_
  (first|refine⟨.inr (.inr (loadK rfl (O.at (.head _)) rfl rfl)),?_⟩|refine⟨.inr (.inr (loadK rfl (O.at (.tail _ (.head _))) rfl rfl)),?_⟩|refine⟨.inr (.inr (loadK rfl (O.at (.tail _ (.tail _ (.head _)))) rfl rfl)),?_⟩|refine⟨.inr (.inr (loadK rfl (O.at (.tail _ (.tail _ (.tail _ (.head _))))) rfl rfl)),?_⟩|refine⟨.inr (.inr (loadK rfl (O.at (.tail _ (.tail _ (.tail _ (.tail _ (.head _)))))) rfl rfl)),?_⟩|refine⟨.inr (.inr (loadK rfl (O.at (.tail _ (.tail _ (.tail _ (.tail _ (.tail _ (.head _))))))) rfl rfl)),?_⟩|refine⟨.inr (.inr (loadK rfl (O.at (.tail _ (.tail _ (.tail _ (.tail _ (.tail _ (.tail _ (.head _)))))))) rfl rfl)),?_⟩|refine⟨.inl (Ext.refl _),?_⟩|refine⟨.inr (.inr rfl),?_⟩|refine⟨.inr (by kernel_rfl),?_⟩|refine⟨.inl (by kernel_rfl),?_⟩|refine id ?_);refine gH ?_
  refine atF hm fun x22 hx22 hm=>?_;refine gX ?_
  exact fe hm O
def traces_walk_wp (p0:Circ) (p1:(List Nat)) (p2:(List Nat)) (p3:Nat) (K:(List LnZ)->Prop):Prop :=
 joinW (α:=(List LnZ)) (fun k9=>loopW (S:=((List LnZ)×(List Nat))) (fun (v12,v16) nx19=>((ltN 0 v16.length)=true->1<=v16.length/\v16.length<2 ^ 63/\∃ x20,v16[(v16.length-1)]?=some x20/\1<=v16.length/\v16.length<2 ^ 63/\(v16.length-1)<=v16.length/\∃ x22,p0.nodes[x20]?=some x22/\((eqN x22.kind 14)=true->nx19 (v12,(v16.take (v16.length-1))))/\((eqN x22.kind 14)=false->∃ x23,p0.nodes[x20]?=some x23/\loopW (S:=((List LnZ)×(List Nat)×Nat)) (fun (v26,v30,v31) nx34=>((ltN v31 x23.ins.length)=true->joinW (α:=((List LnZ)×(List Nat))) (fun k44=>∃ x45,x23.ins[v31]?=some x45/\traces_changes_wp p0 p1 x20 v31 (fun r46=>((!r46)=true->k44 (v26,v30))/\((!r46)=false->(v26.length+([(⟨x20,(Int.ofNat v31)⟩:LnZ)]:(List LnZ)).length)*16<=2 ^ 47/\∃ x51,p2[x45]?=some x51/\((eqN x51 1)=true->((v26++([(⟨x20,(Int.ofNat v31)⟩:LnZ)]:(List LnZ))).length+([(⟨x45,(Int.negSucc 0)⟩:LnZ)]:(List LnZ)).length)*16<=2 ^ 47/\(v30.length+([x45]:(List Nat)).length)*8<=2 ^ 47/\k44 (((v26++([(⟨x20,(Int.ofNat v31)⟩:LnZ)]:(List LnZ)))++([(⟨x45,(Int.negSucc 0)⟩:LnZ)]:(List LnZ))),(v30++([x45]:(List Nat)))))/\((eqN x51 1)=false->k44 ((v26++([(⟨x20,(Int.ofNat v31)⟩:LnZ)]:(List LnZ))),v30))))) (fun (v37,v41)=>v31+1<2 ^ 63/\nx34 (v37,v41,(v31+1))))/\((ltN v31 x23.ins.length)=false->nx19 (v26,v30))) (v12,(v16.take (v16.length-1)),0)))/\((ltN 0 v16.length)=false->k9 v12)) (([(⟨p3,(Int.negSucc 0)⟩:LnZ)]:(List LnZ)),([p3]:(List Nat)))) (fun v8=>0<v8.length/\K v8)
theorem traces_walk_walkO {p0:Circ}{p1:(List Nat)}{p2:(List Nat)}{p3:Nat}{K:(List LnZ)->Prop} (hm:traces_walk_wp p0 p1 p2 p3 K) {h0:Heap} (hB:HasB vars h0):∃ v h',CallD Tryz.prog NG 50 ⟨[encCirc p0,(encL 1 n8) p1,(encL 1 i64) p2,i64 p3]⟩ h0 v h'/\OwnRes vars h0 K (fun (r:(List LnZ)) a=>growV 2 a (r.map encLnZ)) (fun (r:(List LnZ))=>r) encLnZ false v h':=by
 unfold traces_walk_wp at hm
 refine fg Tryz.func50 (Q:=OwnRes vars h0 K (fun (r:(List LnZ)) a=>growV 2 a (r.map encLnZ)) (fun (r:(List LnZ))=>r) encLnZ false) ?_;have O:=Own.start hB;conv=>whnf
 refine gX ?_
 refine fz ?_;refine gX ?_
 have O:=O.addNil (.cells (flatC ((([]:List LnZ)).map encLnZ)) false)
 refine O.buildL (l:=([(⟨p3,(Int.negSucc 0)⟩:LnZ)]:(List LnZ))) (enc:=encLnZ) (s:=2) (z:=(.agg ⟨[(i64 0),(i64 0)]⟩)) rfl rfl (by kernel_rfl) (by kernel_rfl) rfl rfl rfl rfl (fun _=>rfl) fun g2 h O=>?_;refine gX ?_
 refine O.buildL (l:=([p3]:(List Nat))) (enc:=i64) (s:=1) (z:=(i64 0)) rfl rfl (by kernel_rfl) (by kernel_rfl) rfl rfl rfl rfl (fun _=>rfl) fun g4 h O=>?_;refine gH ?_
 apply Cs;conv=>whnf
 apply Cs;conv=>whnf
 refine jn (σ:=(List LnZ)×(Nat×Bool)) hm 80 [] (fun s=>s.1) (fun (v8,(a6,a7)) h=>Own vars h0 [((some a6),.cells (flatC (v8.map encLnZ)) false)] h) (fun (v8,(a6,a7))=>[(9,(growS 2 a7 a6 ((v8.map encLnZ).length)))]) (fun hm=>?_) ?_
 ·refine gX ?_
  refine lw 80 [1,2,4] (σ:=((List LnZ)×(List Nat))×(Nat×Bool×Option Nat×Option Nat×(List Nat))) (fun s=>s.1) (fun ((v12,v16),(a10,a11,a13,a14,a15)) h=>(a13=none->v16++a15=[])/\(a14=none\/a14=some 1)/\Own vars h0 [((some a10),.cells (flatC (v12.map encLnZ)) false),(a13,.cells (flatC ((v16++a15).map i64)) false)] h) (fun ((v12,v16),(a10,a11,a13,a14,a15))=>[(9,(growS 2 a11 a10 ((v12.map encLnZ).length))),(10,(stV i64 a13 a14 v16 a15))]) ((([(⟨p3,(Int.negSucc 0)⟩:LnZ)]:(List LnZ)),([p3]:(List Nat))),(g2,false,(some g4),none,([]:(List Nat)))) hm ⟨someNone,(.inl rfl),(O.sel [1,0] (by decide))⟩ ?_
  clear hm;rintro⟨⟨v12,v16⟩,⟨a10,a11,a13,a14,a15⟩⟩ nx19 base h hm ⟨ha17,ht18,O⟩
  refine gX ?_
  refine br hm (fun hm=>?_) fun hm=>?_
  ·refine gX ?_
   refine aSub hm fun hm=>?_;refine gH ?_
   obtain⟨x20,hx20,hm⟩:=hm
   have h9:=hm
   obtain⟨g21,rfl⟩:=stSome ha17 hx20
   replace hm:=h9
   refine indexK (s:=1) (j:=(v16.length-1)) rfl rfl rfl rfl (lt_of_get hx20) ?_;refine gH ?_
   replace hx20:=stGet (J:=a15) hx20
   refine ldE (s:=1) (i:=0) (O.at (.tail _ (.head _))) hx20 ?_;refine gX ?_
   refine aSub hm fun hm=>?_;refine gH ?_
   refine stCut (enc:=i64) (l:=v16) (J:=a15) (s:=1) (k:=(v16.length-1)) rfl rfl rfl ht18 rfl hm.1 ?_;refine gX ?_
   rw[stRe (enc:=i64) v16 a15 (v16.length-1)] at O
   replace hm:=hm.2
   refine atF hm fun x22 hx22 hm=>?_;refine gX ?_
   refine br hm (fun hm=>?_) fun hm=>?_
   ·refine gX ?_
    exact jx ((v12,(v16.take (v16.length-1))),(a10,a11,(some g21),a14,(v16.drop (v16.length-1)++a15))) hm ⟨someNone,ht18,O⟩
   ·refine gX ?_
    refine atF hm fun x23 hx23 hm=>?_;refine gX ?_
    refine lw 80 [1,2,4,11,45,46] (σ:=((List LnZ)×(List Nat)×Nat)×(Nat×Bool×Option Nat×Option Nat×(List Nat))) (fun s=>s.1) (fun ((v26,v30,v31),(a24,a25,a27,a28,a29)) h=>(a27=none->v30++a29=[])/\(a28=none\/a28=some 1)/\Own vars h0 [((some a24),.cells (flatC (v26.map encLnZ)) false),(a27,.cells (flatC ((v30++a29).map i64)) false)] h) (fun ((v26,v30,v31),(a24,a25,a27,a28,a29))=>[(9,(growS 2 a25 a24 ((v26.map encLnZ).length))),(10,(stV i64 a27 a28 v30 a29)),(47,(i64 v31))]) ((v12,(v16.take (v16.length-1)),0),(a10,a11,(some g21),a14,(v16.drop (v16.length-1)++a15))) hm ⟨someNone,ht18,O⟩ ?_
    clear hm;rintro⟨⟨v26,v30,v31⟩,⟨a24,a25,a27,a28,a29⟩⟩ nx34 base h hm ⟨ha32,ht33,O⟩
    refine gX ?_
    refine br hm (fun hm=>?_) fun hm=>?_
    ·apply Cs;conv=>whnf
     refine jn (σ:=((List LnZ)×(List Nat))×(Nat×Bool×Option Nat×Option Nat×(List Nat))) hm 80 [1,2,4,11,45,46,47] (fun s=>s.1) (fun ((v37,v41),(a35,a36,a38,a39,a40)) h=>(a38=none->v41++a40=[])/\(a39=none\/a39=some 1)/\Own vars h0 [((some a35),.cells (flatC (v37.map encLnZ)) false),(a38,.cells (flatC ((v41++a40).map i64)) false)] h) (fun ((v37,v41),(a35,a36,a38,a39,a40))=>[(9,(growS 2 a36 a35 ((v37.map encLnZ).length))),(10,(stV i64 a38 a39 v41 a40))]) (fun hm=>?_) ?_
     ·refine gX ?_
      refine atF hm fun x45 hx45 hm=>?_;refine gX ?_
      refine ca (traces_changes_walk hm O.has) fun r46 hm=>?_;refine gX ?_
      refine br hm (fun hm=>?_) fun hm=>?_
      ·refine gX ?_
       exact jx ((v26,v30),(a24,a25,a27,a28,a29)) hm ⟨ha32,ht33,O⟩
      ·refine gX ?_
       refine fz ?_;refine gH ?_
       refine O.apS (enc:=encLnZ) (l:=v26) (new:=([(⟨x20,(Int.ofNat v31)⟩:LnZ)]:(List LnZ))) 2 (.head _) rfl hm fun g49 a50 h O hm=>?_;refine gX ?_
       refine atF hm fun x51 hx51 hm=>?_;refine gX ?_
       refine br hm (fun hm=>?_) fun hm=>?_
       ·refine gX ?_
        refine fz ?_;refine gH ?_
        refine O.apS (enc:=encLnZ) (l:=(v26++([(⟨x20,(Int.ofNat v31)⟩:LnZ)]:(List LnZ)))) (new:=([(⟨x45,(Int.negSucc 0)⟩:LnZ)]:(List LnZ))) 2 (.head _) rfl hm fun g54 a55 h O hm=>?_;refine gH ?_
        refine fz ?_;refine gH ?_
        refine O.stPush (enc:=i64) (l:=v30) (J:=a29) (new:=([x45]:(List Nat))) (s:=1) (b:=8) (.tail _ (.head _)) ha32 ht33 rfl rfl rfl rfl rfl rfl rfl rfl (YOk.fl rfl) (fun _=>rfl) (fun _=>rfl) (by decide) hm.1 fun a56 a57 a58 h ha59 ht60 O=>?_;refine gH ?_
        replace hm:=hm.2
        exact jx ((((v26++([(⟨x20,(Int.ofNat v31)⟩:LnZ)]:(List LnZ)))++([(⟨x45,(Int.negSucc 0)⟩:LnZ)]:(List LnZ))),(v30++([x45]:(List Nat)))),(g54,a55,a56,a57,a58)) hm ⟨ha59,ht60,O⟩
       ·refine gX ?_
        exact jx (((v26++([(⟨x20,(Int.ofNat v31)⟩:LnZ)]:(List LnZ))),v30),(g49,a50,a27,a28,a29)) hm ⟨ha32,ht33,O⟩
     ·clear hm;rintro⟨⟨v37,v41⟩,⟨a35,a36,a38,a39,a40⟩⟩ base h hm ⟨ha42,ht43,O⟩
      refine gX ?_
      refine aAdd hm fun hm=>?_;refine gH ?_
      exact jx ((v37,v41,(v31+1)),(a35,a36,a38,a39,a40)) hm ⟨ha42,ht43,O⟩
    ·refine gX ?_
     exact jx ((v26,v30),(a24,a25,a27,a28,a29)) hm ⟨ha32,ht33,O⟩
  ·refine gX ?_
   exact jx (v12,(a10,a11)) hm (O.sel [0] (by decide))
 ·clear hm;rintro⟨v8,⟨a6,a7⟩⟩ base h hm O
  refine gX ?_
  obtain⟨hp61,hm⟩:=hm
  exact⟨v8,some a6,hm,O.asGrowS (.head _) (fun _=>rfl) rfl hp61,(fun e=>nomatch e),someIff hp61,O.sel [0] (by decide)⟩
theorem traces_walk_walk {p0:Circ}{p1:(List Nat)}{p2:(List Nat)}{p3:Nat}{K:(List LnZ)->Prop} (hm:traces_walk_wp p0 p1 p2 p3 K) {h0:Heap} (hB:HasB vars h0):∃ r,K r/\CallD Tryz.prog NG 50 ⟨[encCirc p0,(encL 1 n8) p1,(encL 1 i64) p2,i64 p3]⟩ h0 ((encL 2 encLnZ) r) h0 :=
 valO (traces_walk_walkO hm hB) (fk Tryz.func50) (fun r=>pureL (fun _=>pure_lnZC _)) (fun r a h1 h3 O F ha h2=>O.grownL F (Nat.le_refl _) (.head _) ha (fun _=>rfl))
def traces_critical_wp (p0:Circ) (p1:Pat) (K:(List LnZ)->Prop):Prop :=
 sims_Run_wp p0 p1 (fun r2=>traces_loads_wp p0 (fun r5=>joinW (α:=(List LnZ)) (fun k10=>loopW (S:=((List LnZ)×Nat)) (fun (v12,v13) nx15=>((ltN v13 p0.nodes.length)=true->joinW (α:=(List LnZ)) (fun k19=>sl_ContainsI_wp p0.outs v13 (fun r20=>joinW (α:=Bool) (fun k23=>joinW (α:=Bool) (fun k26=>((!r20)=true->∃ x27,r5.2[v13]?=some x27/\k26 (ltN 1 x27))/\((!r20)=false->k26 false)) (fun v24=>(v24=true->∃ x28,r2.2.1[v13]?=some x28/\logic_Not_wp x28 (fun r29=>inject_Detects_wp p0 (⟨0,(⟨v13,(Int.negSucc 0)⟩:LnZ),r29,0⟩:Flt) p1 (fun r30=>k23 r30.1)))/\(v24=false->k23 r20))) (fun v21=>joinW (α:=((List LnZ)×Bool)) (fun k35=>∃ x36,r5.1[v13]?=some x36/\loopW (S:=((List LnZ)×Bool×Nat)) (fun (v38,v39,v40) nx42=>((ltN v40 x36.length)=true->joinW (α:=((List LnZ)×Bool)) (fun k47=>∃ x48,x36[v40]?=some x48/\∃ x51,p0.nodes[x48.node]?=some x51/\((eqN x51.kind 14)=true->(v38.length+([x48]:(List LnZ)).length)*16<=2 ^ 47/\k47 ((v38++([x48]:(List LnZ))),true))/\((eqN x51.kind 14)=false->k47 (v38,v39))) (fun (v44,v45)=>v40+1<2 ^ 63/\nx42 (v44,v45,(v40+1))))/\((ltN v40 x36.length)=false->k35 (v38,v39))) (v12,v21,0)) (fun (v32,v33)=>(v33=true->traces_walk_wp p0 r2.2.1 r5.2 v13 (fun r54=>(v32.length+r54.length)*16<=2 ^ 47/\k19 (v32++r54)))/\(v33=false->k19 v32))))) (fun v17=>v13+1<2 ^ 63/\nx15 (v17,(v13+1))))/\((ltN v13 p0.nodes.length)=false->k10 v12)) (([]:List LnZ),0)) (fun v8=>K v8)))
theorem traces_critical_walkO {p0:Circ}{p1:Pat}{K:(List LnZ)->Prop} (hm:traces_critical_wp p0 p1 K) {h0:Heap} (hB:HasB vars h0):∃ v h',CallD Tryz.prog NG 27 ⟨[encCirc p0,encPat p1]⟩ h0 v h'/\OwnRes vars h0 K (fun (r:(List LnZ)) a=>growV 2 a (r.map encLnZ)) (fun (r:(List LnZ))=>r) encLnZ false v h':=by
 unfold traces_critical_wp at hm
 refine fg Tryz.func27 (Q:=OwnRes vars h0 K (fun (r:(List LnZ)) a=>growV 2 a (r.map encLnZ)) (fun (r:(List LnZ))=>r) encLnZ false) ?_;have O:=Own.start hB;conv=>whnf
 refine gX ?_
 refine fz ?_;refine gH ?_
 refine fz ?_;refine gX ?_
 have O:=O.addNil (.cells (flatC ((([]:List LnZ)).map encLnZ)) false)
 refine ca (sims_Run_walk hm O.has) fun r2 hm=>?_;refine gH ?_
 (first|refine O.new (anew_alloc (l:=[(.slice none 0 0),(.slice none 0 0)]) rfl rfl rfl) fun g3 h O=>?_|refine O.newX (anew_alloc (l:=[(.slice none 0 0),(.slice none 0 0)]) rfl rfl rfl) fun g3 h O=>?_);refine gH ?_
 refine O.stC 2 (.head _) [((encL 1 n8) r2.1.out),((encL 1 n8) r2.1.next)] fun h O=>?_;refine gX ?_
 refine ca (traces_loads_walk hm O.has) fun r5 hm=>?_;refine gH ?_
 apply Cs;conv=>whnf
 apply Cs;refine gH ?_
 have O:=O.addNil (.cells (flatC ((([]:List LnZ)).map encLnZ)) false)
 refine jn (σ:=(List LnZ)×Option Nat) hm 92 [] (fun s=>s.1) (fun (v8,a7) h=>(a7=none->v8=[])/\Own vars h0 [(a7,.cells (flatC (v8.map encLnZ)) false)] h) (fun (v8,a7)=>[(10,(growV 2 a7 (v8.map encLnZ)))]) (fun hm=>?_) ?_
 ·refine gX ?_
  refine lw 92 [2,3,6,8,9,29] (σ:=((List LnZ)×Nat)×Option Nat) (fun s=>s.1) (fun ((v12,v13),a11) h=>(a11=none->v12=[])/\Own vars h0 [(a11,.cells (flatC (v12.map encLnZ)) false)] h) (fun ((v12,v13),a11)=>[(10,(growV 2 a11 (v12.map encLnZ))),(30,(i64 v13))]) ((([]:List LnZ),0),none) hm ⟨(fun _=>rfl),(O.sel [0] (by decide))⟩ ?_
  clear hm;rintro⟨⟨v12,v13⟩,a11⟩ nx15 base h hm ⟨ha14,O⟩
  refine gX ?_
  refine br hm (fun hm=>?_) fun hm=>?_
  ·apply Cs;conv=>whnf
   refine jn (σ:=(List LnZ)×Option Nat) hm 92 [2,3,6,8,9,29,30] (fun s=>s.1) (fun (v17,a16) h=>(a16=none->v17=[])/\Own vars h0 [(a16,.cells (flatC (v17.map encLnZ)) false)] h) (fun (v17,a16)=>[(10,(growV 2 a16 (v17.map encLnZ)))]) (fun hm=>?_) ?_
   ·refine gX ?_
    refine ca (sl_ContainsI_walk hm O.has) fun r20 hm=>?_;refine gH ?_
    refine jn hm 92 [2,3,6,8,9,10,11,29,30] (fun s=>s) (fun v21 h=>(a11=none->v12=[])/\Own vars h0 [(a11,.cells (flatC (v12.map encLnZ)) false)] h) (fun v21=>[(12,(.bool v21))]) (fun hm=>?_) ?_
    ·refine jn hm 92 [2,3,6,8,9,10,11,12,29,30] (fun s=>s) (fun v24 h=>(a11=none->v12=[])/\Own vars h0 [(a11,.cells (flatC (v12.map encLnZ)) false)] h) (fun v24=>[(45,(.bool v24))]) (fun hm=>?_) ?_
     ·refine gX ?_
      refine br hm (fun hm=>?_) fun hm=>?_
      ·refine gX ?_
       refine atF hm fun x27 hx27 hm=>?_;refine gH ?_
       exact jx (ltN 1 x27) hm ⟨ha14,O⟩
      ·refine gX ?_
       exact jx false hm ⟨ha14,O⟩
     ·clear hm;rintro v24 base h hm ⟨ha25,O⟩
      refine gX ?_
      refine br hm (fun hm=>?_) fun hm=>?_
      ·refine gX ?_
       first|refine⟨.inr (.inr (rfl)),?_⟩|refine⟨.inr (.inl (by kernel_rfl)),?_⟩
       refine gX ?_
       refine atF hm fun x28 hx28 hm=>?_;refine gH ?_
       refine ca (logic_Not_walk hm O.has) fun r29 hm=>?_;refine gH ?_
       (first|refine⟨.inr (.inr (loadK rfl (O.at (.head _)) rfl rfl)),?_⟩|refine⟨.inr (.inr (loadK rfl (O.at (.tail _ (.head _))) rfl rfl)),?_⟩|refine⟨.inr (.inr (loadK rfl (O.at (.tail _ (.tail _ (.head _)))) rfl rfl)),?_⟩|refine⟨.inr (.inr (loadK rfl (O.at (.tail _ (.tail _ (.tail _ (.head _))))) rfl rfl)),?_⟩|refine⟨.inr (.inr (loadK rfl (O.at (.tail _ (.tail _ (.tail _ (.tail _ (.head _)))))) rfl rfl)),?_⟩|refine⟨.inr (.inr (loadK rfl (O.at (.tail _ (.tail _ (.tail _ (.tail _ (.tail _ (.head _))))))) rfl rfl)),?_⟩|refine⟨.inr (.inr (loadK rfl (O.at (.tail _ (.tail _ (.tail _ (.tail _ (.tail _ (.tail _ (.head _)))))))) rfl rfl)),?_⟩|refine⟨.inl (Ext.refl _),?_⟩|refine⟨.inr (.inr rfl),?_⟩|refine⟨.inr (by kernel_rfl),?_⟩|refine⟨.inl (by kernel_rfl),?_⟩|refine id ?_);refine gH ?_
       first|refine⟨.inr (.inr (rfl)),?_⟩|refine⟨.inr (.inl (by kernel_rfl)),?_⟩
       refine gX ?_
       refine ca (inject_Detects_walk hm O.has) fun r30 hm=>?_;refine gH ?_
       (first|refine⟨.inr (.inr (loadK rfl (O.at (.head _)) rfl rfl)),?_⟩|refine⟨.inr (.inr (loadK rfl (O.at (.tail _ (.head _))) rfl rfl)),?_⟩|refine⟨.inr (.inr (loadK rfl (O.at (.tail _ (.tail _ (.head _)))) rfl rfl)),?_⟩|refine⟨.inr (.inr (loadK rfl (O.at (.tail _ (.tail _ (.tail _ (.head _))))) rfl rfl)),?_⟩|refine⟨.inr (.inr (loadK rfl (O.at (.tail _ (.tail _ (.tail _ (.tail _ (.head _)))))) rfl rfl)),?_⟩|refine⟨.inr (.inr (loadK rfl (O.at (.tail _ (.tail _ (.tail _ (.tail _ (.tail _ (.head _))))))) rfl rfl)),?_⟩|refine⟨.inr (.inr (loadK rfl (O.at (.tail _ (.tail _ (.tail _ (.tail _ (.tail _ (.tail _ (.head _)))))))) rfl rfl)),?_⟩|refine⟨.inl (Ext.refl _),?_⟩|refine⟨.inr (.inr rfl),?_⟩|refine⟨.inr (by kernel_rfl),?_⟩|refine⟨.inl (by kernel_rfl),?_⟩|refine id ?_);refine gH ?_
       exact jx r30.1 hm ⟨ha25,O⟩
      ·refine gX ?_
       exact jx r20 hm ⟨ha25,O⟩
    ·clear hm;rintro v21 base h hm ⟨ha22,O⟩
     conv=>whnf
     refine jn (σ:=((List LnZ)×Bool)×Option Nat) hm 92 [2,3,6,8,9,11,29,30] (fun s=>s.1) (fun ((v32,v33),a31) h=>(a31=none->v32=[])/\Own vars h0 [(a31,.cells (flatC (v32.map encLnZ)) false)] h) (fun ((v32,v33),a31)=>[(10,(growV 2 a31 (v32.map encLnZ))),(12,(.bool v33))]) (fun hm=>?_) ?_
     ·refine gX ?_
      refine atF hm fun x36 hx36 hm=>?_;refine gX ?_
      refine lw 92 [2,3,6,8,9,11,29,30,63,64] (σ:=((List LnZ)×Bool×Nat)×Option Nat) (fun s=>s.1) (fun ((v38,v39,v40),a37) h=>(a37=none->v38=[])/\Own vars h0 [(a37,.cells (flatC (v38.map encLnZ)) false)] h) (fun ((v38,v39,v40),a37)=>[(10,(growV 2 a37 (v38.map encLnZ))),(12,(.bool v39)),(65,(i64 v40))]) ((v12,v21,0),a11) hm ⟨ha22,O⟩ ?_
      clear hm;rintro⟨⟨v38,v39,v40⟩,a37⟩ nx42 base h hm ⟨ha41,O⟩
      refine gX ?_
      refine br hm (fun hm=>?_) fun hm=>?_
      ·apply Cs;conv=>whnf
       refine jn (σ:=((List LnZ)×Bool)×Option Nat) hm 92 [2,3,6,8,9,11,29,30,63,64,65] (fun s=>s.1) (fun ((v44,v45),a43) h=>(a43=none->v44=[])/\Own vars h0 [(a43,.cells (flatC (v44.map encLnZ)) false)] h) (fun ((v44,v45),a43)=>[(10,(growV 2 a43 (v44.map encLnZ))),(12,(.bool v45))]) (fun hm=>?_) ?_
       ·refine gX ?_
        refine atF hm fun x48 hx48 hm=>?_;refine gH ?_
        (first|refine O.new (anew_alloc (l:=[(i64 0),(i64 0)]) rfl rfl rfl) fun g49 h O=>?_|refine O.newX (anew_alloc (l:=[(i64 0),(i64 0)]) rfl rfl rfl) fun g49 h O=>?_);refine gH ?_
        refine O.stC 2 (.head _) [(i64 x48.node),(z64 x48.pin)] fun h O=>?_;refine gX ?_
        refine atF hm fun x51 hx51 hm=>?_;refine gX ?_
        refine br hm (fun hm=>?_) fun hm=>?_
        ·refine gX ?_
         refine ldA (O.at (.head _)) ?_;refine gH ?_
         refine fz ?_;refine gH ?_
         refine O.apL (enc:=encLnZ) (l:=v38) (new:=([x48]:(List LnZ))) 2 (.tail _ (.head _)) ha41 hm fun a52 h ha53 O hm=>?_;refine gX ?_
         exact jx (((v38++([x48]:(List LnZ))),true),a52) hm ⟨ha53,(O.sel [1] (by decide))⟩
        ·refine gX ?_
         exact jx ((v38,v39),a37) hm ⟨ha41,(O.sel [1] (by decide))⟩
       ·clear hm;rintro⟨⟨v44,v45⟩,a43⟩ base h hm ⟨ha46,O⟩
        refine gX ?_
        refine aAdd hm fun hm=>?_;refine gH ?_
        exact jx ((v44,v45,(v40+1)),a43) hm ⟨ha46,O⟩
      ·refine gX ?_
       exact jx ((v38,v39),a37) hm ⟨ha41,O⟩
     ·clear hm;rintro⟨⟨v32,v33⟩,a31⟩ base h hm ⟨ha34,O⟩
      refine gX ?_
      refine br hm (fun hm=>?_) fun hm=>?_
      ·refine gX ?_
       refine ca (traces_walk_walk hm O.has) fun r54 hm=>?_;refine gH ?_
       refine O.apL (enc:=encLnZ) (l:=v32) (new:=r54) 2 (.head _) ha34 hm fun a55 h ha56 O hm=>?_;refine gH ?_
       exact jx ((v32++r54),a55) hm ⟨ha56,O⟩
      ·refine gX ?_
       exact jx (v32,a31) hm ⟨ha34,O⟩
   ·clear hm;rintro⟨v17,a16⟩ base h hm ⟨ha18,O⟩
    refine gX ?_
    refine aAdd hm fun hm=>?_;refine gH ?_
    exact jx ((v17,(v13+1)),a16) hm ⟨ha18,O⟩
  ·refine gX ?_
   exact jx (v12,a11) hm ⟨ha14,O⟩
 ·clear hm;rintro⟨v8,a7⟩ base h hm ⟨ha9,O⟩
  refine gX ?_
  exact⟨v8,a7,hm,VLe.refl _ _,ha9,(fun e=>nomatch e),O.sel [0] (by decide)⟩
def traces_Walk_wp (p0:Circ) (p1:Pat) (p2:Nat) (K:((List LnZ)×Nat)->Prop):Prop :=
 traces_plain_wp p0 (fun r1=>((neN r1 0)=true->K ([],r1))/\((neN r1 0)=false->joinW (α:=Bool) (fun k3=>((ltN p2 0)=true->k3 true)/\((ltN p2 0)=false->k3 (!ltN p2 p0.nodes.length))) (fun v2=>(v2=true->K ([],1))/\(v2=false->traces_full_wp p0 p1 (fun r4=>((neN r4 0)=true->K ([],r4))/\((neN r4 0)=false->sims_Run_wp p0 p1 (fun r5=>traces_loads_wp p0 (fun r8=>traces_walk_wp p0 r5.2.1 r8.2 p2 (fun r9=>r9.length<4611686018427387904/\(∀ x∈r9,lnB x)/\∀ x14:List LnZ,x14.Perm r9->x14.Pairwise lnLe->K (x14,0))))))))))
theorem traces_Walk_walkO {p0:Circ}{p1:Pat}{p2:Nat}{K:((List LnZ)×Nat)->Prop} (hm:traces_Walk_wp p0 p1 p2 K) {h0:Heap} (hB:HasB vars h0):∃ v h',CallD Tryz.prog NG 21 ⟨[encCirc p0,encPat p1,i64 p2]⟩ h0 v h'/\OwnRes vars h0 K (fun (r:((List LnZ)×Nat)) a=>Value.tuple ⟨[clipV a (r.1.map encLnZ),i64 (r.2)]⟩) (fun (r:((List LnZ)×Nat))=>r.1) encLnZ false v h':=by
 unfold traces_Walk_wp at hm
 refine fg Tryz.func21 (Q:=OwnRes vars h0 K (fun (r:((List LnZ)×Nat)) a=>Value.tuple ⟨[clipV a (r.1.map encLnZ),i64 (r.2)]⟩) (fun (r:((List LnZ)×Nat))=>r.1) encLnZ false) ?_;have O:=Own.start hB;conv=>whnf
 refine gX ?_
 refine fz ?_;refine gH ?_
 refine fz ?_;refine gX ?_
 refine ca (traces_plain_walk hm O.has) fun r1 hm=>?_;refine gX ?_
 refine br hm (fun hm=>?_) fun hm=>?_
 ·refine gX ?_
  have O:=O.addNil (.cells (flatC (([]:(List LnZ)).map encLnZ)) false)
  exact⟨([],r1),none,hm,VLe.refl _ _,(fun _=>rfl),(fun _ _=>rfl),O.sel [0] (by decide)⟩
 ·apply Cs;conv=>whnf
  apply Cs;conv=>whnf
  refine jn hm 53 [2,3,4] (fun s=>s) (fun v2 h=>Own vars h0 [] h) (fun v2=>[(28,(.bool v2))]) (fun hm=>?_) ?_
  ·refine gX ?_
   refine br hm (fun hm=>?_) fun hm=>?_
   ·refine gX ?_
    exact jx true hm O
   ·refine gX ?_
    exact jx (!ltN p2 p0.nodes.length) hm O
  ·clear hm;rintro v2 base h hm O
   refine gX ?_
   refine br hm (fun hm=>?_) fun hm=>?_
   ·refine gX ?_
    have O:=O.addNil (.cells (flatC (([]:(List LnZ)).map encLnZ)) false)
    exact⟨([],1),none,hm,VLe.refl _ _,(fun _=>rfl),(fun _ _=>rfl),O.sel [0] (by decide)⟩
   ·refine gX ?_
    refine ca (traces_full_walk hm O.has) fun r4 hm=>?_;refine gX ?_
    refine br hm (fun hm=>?_) fun hm=>?_
    ·refine gX ?_
     have O:=O.addNil (.cells (flatC (([]:(List LnZ)).map encLnZ)) false)
     exact⟨([],r4),none,hm,VLe.refl _ _,(fun _=>rfl),(fun _ _=>rfl),O.sel [0] (by decide)⟩
    ·refine gX ?_
     refine ca (sims_Run_walk hm O.has) fun r5 hm=>?_;refine gH ?_
     (first|refine O.new (anew_alloc (l:=[(.slice none 0 0),(.slice none 0 0)]) rfl rfl rfl) fun g6 h O=>?_|refine O.newX (anew_alloc (l:=[(.slice none 0 0),(.slice none 0 0)]) rfl rfl rfl) fun g6 h O=>?_);refine gH ?_
     refine O.stC 2 (.head _) [((encL 1 n8) r5.1.out),((encL 1 n8) r5.1.next)] fun h O=>?_;refine gX ?_
     refine ca (traces_loads_walk hm O.has) fun r8 hm=>?_;refine gX ?_
     refine caO (traces_walk_walkO hm O.has) O fun r9 a10 h hx ha12 hn13 O hm=>?_;refine gH ?_
     refine fg Tryz.func26 ?_;refine gX ?_
     obtain⟨x14,h,hp15,hs16,hcall,O⟩:=sortLn O (.head _) ha12 hm.1 hm.2.1
     refine⟨_,_,hcall,?_⟩;refine gH ?_
     replace hm:=hm.2.2 x14 hp15 hs16
     have ha17:a10=none->x14=[]:=fun e=>by have:=ha12 e;rw[this] at hp15;exact hp15.eq_nil
     have he:(x14.map encLnZ).length=(r9.map encLnZ).length:=by simp[hp15.length_eq]
     (try rw[<- growVe (s:=2) (a:=a10) he]);(try rw[<- he])
     refine gX ?_
     refine fg Tryz.func29 ?_;refine gX ?_
     refine clipK (s:=2) (enc:=encLnZ) (l:=x14) (n:=x14.length) (m:=x14.length) rfl rfl rfl rfl rfl rfl rfl ?_;refine gX ?_
     exact⟨(x14,0),a10,hm,VLe.refl _ _,ha17,(fun e=>nomatch e),O.sel [0] (by decide)⟩
def traces_Critical_wp (p0:Circ) (p1:Pat) (K:((List LnZ)×Nat)->Prop):Prop :=
 traces_plain_wp p0 (fun r1=>((neN r1 0)=true->K ([],r1))/\((neN r1 0)=false->traces_full_wp p0 p1 (fun r2=>((neN r2 0)=true->K ([],r2))/\((neN r2 0)=false->traces_critical_wp p0 p1 (fun r3=>r3.length<4611686018427387904/\(∀ x∈r3,lnB x)/\∀ x8:List LnZ,x8.Perm r3->x8.Pairwise lnLe->K (x8,0))))))
theorem traces_Critical_walkO {p0:Circ}{p1:Pat}{K:((List LnZ)×Nat)->Prop} (hm:traces_Critical_wp p0 p1 K) {h0:Heap} (hB:HasB vars h0):∃ v h',CallD Tryz.prog NG 10 ⟨[encCirc p0,encPat p1]⟩ h0 v h'/\OwnRes vars h0 K (fun (r:((List LnZ)×Nat)) a=>Value.tuple ⟨[clipV a (r.1.map encLnZ),i64 (r.2)]⟩) (fun (r:((List LnZ)×Nat))=>r.1) encLnZ false v h':=by
 unfold traces_Critical_wp at hm
 refine fg Tryz.func10 (Q:=OwnRes vars h0 K (fun (r:((List LnZ)×Nat)) a=>Value.tuple ⟨[clipV a (r.1.map encLnZ),i64 (r.2)]⟩) (fun (r:((List LnZ)×Nat))=>r.1) encLnZ false) ?_;have O:=Own.start hB;conv=>whnf
 refine gX ?_
 refine fz ?_;refine gH ?_
 refine fz ?_;refine gX ?_
 refine ca (traces_plain_walk hm O.has) fun r1 hm=>?_;refine gX ?_
 refine br hm (fun hm=>?_) fun hm=>?_
 ·refine gX ?_
  have O:=O.addNil (.cells (flatC (([]:(List LnZ)).map encLnZ)) false)
  exact⟨([],r1),none,hm,VLe.refl _ _,(fun _=>rfl),(fun _ _=>rfl),O.sel [0] (by decide)⟩
 ·refine gX ?_
  refine ca (traces_full_walk hm O.has) fun r2 hm=>?_;refine gX ?_
  refine br hm (fun hm=>?_) fun hm=>?_
  ·refine gX ?_
   have O:=O.addNil (.cells (flatC (([]:(List LnZ)).map encLnZ)) false)
   exact⟨([],r2),none,hm,VLe.refl _ _,(fun _=>rfl),(fun _ _=>rfl),O.sel [0] (by decide)⟩
  ·refine gX ?_
   refine caO (traces_critical_walkO hm O.has) O fun r3 a4 h hx ha6 hn7 O hm=>?_;refine gH ?_
   refine fg Tryz.func26 ?_;refine gX ?_
   obtain⟨x8,h,hp9,hs10,hcall,O⟩:=sortLn O (.head _) ha6 hm.1 hm.2.1
   refine⟨_,_,hcall,?_⟩;refine gH ?_
   replace hm:=hm.2.2 x8 hp9 hs10
   have ha11:a4=none->x8=[]:=fun e=>by have:=ha6 e;rw[this] at hp9;exact hp9.eq_nil
   have he:(x8.map encLnZ).length=(r3.map encLnZ).length:=by simp[hp9.length_eq]
   (try rw[<- growVe (s:=2) (a:=a4) he]);(try rw[<- he])
   refine gX ?_
   refine fg Tryz.func29 ?_;refine gX ?_
   refine clipK (s:=2) (enc:=encLnZ) (l:=x8) (n:=x8.length) (m:=x8.length) rfl rfl rfl rfl rfl rfl rfl ?_;refine gX ?_
   exact⟨(x8,0),a4,hm,VLe.refl _ _,ha11,(fun e=>nomatch e),O.sel [0] (by decide)⟩
theorem traces_Critical_walk {p0:Circ}{p1:Pat}{K:((List LnZ)×Nat)->Prop} (hm:traces_Critical_wp p0 p1 K) {h0:Heap} (hB:HasB vars h0):∃ r,K r/\CallD Tryz.prog NG 10 ⟨[encCirc p0,encPat p1]⟩ h0 ((fun (r:((List LnZ)×Nat))=>Value.tuple ⟨[(encL 2 encLnZ) (r.1),i64 (r.2)]⟩) r) h0 :=
 valO (traces_Critical_walkO hm hB) (fk Tryz.func10) (fun r=>PureV.tup (AllPure.cons (pureL (fun _=>pure_lnZC _)) (AllPure.cons (PureV.flat rfl) (AllPure.nil)))) (fun r a h1 h3 O F ha h2=>VLe.tup (LLe.cons (O.clipL F (Nat.le_refl _) (.head _) ha (fun _=>rfl)) (LLe.cons (VLe.refl _ _) (LLe.nil _))))
def probecardlaw12_Full_wp (p0:Circ) (p1:Nat) (K:Pat->Prop):Prop :=
 joinW (α:=((List Nat)×Nat)) (fun k13=>loopW (S:=((List Nat)×Nat×Nat)) (fun (v15,v16,v17) nx19=>((ltN v17 p0.nodes.length)=true->joinW (α:=((List Nat)×Nat)) (fun k24=>∃ x25,p0.nodes[v17]?=some x25/\((eqN x25.kind 0)=true->0<64/\(v16%64)<=63/\(v15.length+([(((p1/2 ^ (v16%64))%2 ^ 1)%256)]:(List Nat)).length)*1<=2 ^ 47/\v16+1<2 ^ 64/\k24 ((v15++([(((p1/2 ^ (v16%64))%2 ^ 1)%256)]:(List Nat))),(v16+1)))/\((eqN x25.kind 0)=false->k24 (v15,v16))) (fun (v21,v22)=>v17+1<2 ^ 63/\nx19 (v21,v22,(v17+1))))/\((ltN v17 p0.nodes.length)=false->k13 (v15,v16))) (([]:List Nat),0,0)) (fun (v10,v11)=>joinW (α:=(List Nat)) (fun k32=>loopW (S:=((List Nat)×Nat×Nat)) (fun (v34,v35,v36) nx39=>((ltN v36 p0.nodes.length)=true->joinW (α:=((List Nat)×Nat)) (fun k45=>∃ x46,p0.nodes[v36]?=some x46/\((eqN x46.kind 14)=true->0<64/\(v35%64)<=63/\(v34.length+([(((p1/2 ^ (v35%64))%2 ^ 1)%256)]:(List Nat)).length)*1<=2 ^ 47/\v35+1<2 ^ 64/\k45 ((v34++([(((p1/2 ^ (v35%64))%2 ^ 1)%256)]:(List Nat))),(v35+1)))/\((eqN x46.kind 14)=false->k45 (v34,v35))) (fun (v41,v42)=>v36+1<2 ^ 63/\nx39 (v41,v42,(v36+1))))/\((ltN v36 p0.nodes.length)=false->k32 v34)) (([]:List Nat),v11,0)) (fun v29=>K (⟨v10,v29⟩:Pat)))
theorem probecardlaw12_Full_walk {p0:Circ}{p1:Nat}{K:Pat->Prop} (hm:probecardlaw12_Full_wp p0 p1 K) {h0:Heap} (hB:HasB vars h0):∃ r,K r/\CallD Tryz.prog NG 9 ⟨[encCirc p0,n64 p1]⟩ h0 (encPat r) h0:=by
 unfold probecardlaw12_Full_wp at hm
 refine fw Tryz.func9 hB (enc:=encPat) (fun r=>pure_pat _) fun O=>?_;conv=>whnf
 refine gX ?_
 refine fz ?_;refine gH ?_
 have O:=O.addNil (.cells (flatC ((([]:List Nat)).map n8)) false)
 have O:=O.addNil (.cells (flatC ((([]:List Nat)).map n8)) false)
 (first|refine O.new (anew_alloc (l:=[(.slice none 0 0),(.slice none 0 0)]) rfl rfl rfl) fun g1 h O=>?_|refine O.newX (anew_alloc (l:=[(.slice none 0 0),(.slice none 0 0)]) rfl rfl rfl) fun g1 h O=>?_);refine gH ?_
 refine gX ?_
 have O:=O.addNil (.cells (flatC ((([]:List Nat)).map n8)) false)
 have O:=O.addNil (.cells (flatC ((([]:List Nat)).map n8)) false)
 (first|refine O.new (anew_alloc (l:=[(.slice none 0 0),(.slice none 0 0)]) rfl rfl rfl) fun g5 h O=>?_|refine O.newX (anew_alloc (l:=[(.slice none 0 0),(.slice none 0 0)]) rfl rfl rfl) fun g5 h O=>?_);refine gH ?_
 apply Cs;conv=>whnf
 apply Cs;refine gH ?_
 refine jn (σ:=((List Nat)×Nat)×Option Nat) hm 64 [1,2,4,5] (fun s=>s.1) (fun ((v10,v11),a9) h=>(a9=none->v10=[])/\Own vars h0 [((some g1),.cells [(growV 1 none (([]:List Nat).map n8)),(growV 1 none (([]:List Nat).map n8))] false),(none,.cells (flatC (([]:List Nat).map n8)) false),(none,.cells (flatC (([]:List Nat).map n8)) false),((some g5),.cells [(growV 1 a9 (v10.map n8)),(growV 1 none (([]:List Nat).map n8))] false),(a9,.cells (flatC (v10.map n8)) false),(none,.cells (flatC (([]:List Nat).map n8)) false)] h) (fun ((v10,v11),a9)=>[(6,(n64 v11))]) (fun hm=>?_) ?_
 ·refine gX ?_
  refine lw 64 [1,2,4,5] (σ:=((List Nat)×Nat×Nat)×Option Nat) (fun s=>s.1) (fun ((v15,v16,v17),a14) h=>(a14=none->v15=[])/\Own vars h0 [((some g1),.cells [(growV 1 none (([]:List Nat).map n8)),(growV 1 none (([]:List Nat).map n8))] false),(none,.cells (flatC (([]:List Nat).map n8)) false),(none,.cells (flatC (([]:List Nat).map n8)) false),((some g5),.cells [(growV 1 a14 (v15.map n8)),(growV 1 none (([]:List Nat).map n8))] false),(a14,.cells (flatC (v15.map n8)) false),(none,.cells (flatC (([]:List Nat).map n8)) false)] h) (fun ((v15,v16,v17),a14)=>[(6,(n64 v16)),(7,(i64 v17))]) ((([]:List Nat),0,0),none) hm ⟨(fun _=>rfl),(O.sel [3,5,4,0,2,1] (by decide))⟩ ?_
  clear hm;rintro⟨⟨v15,v16,v17⟩,a14⟩ nx19 base h hm ⟨ha18,O⟩
  refine gX ?_
  refine br hm (fun hm=>?_) fun hm=>?_
  ·apply Cs;conv=>whnf
   refine jn (σ:=((List Nat)×Nat)×Option Nat) hm 64 [1,2,4,5,7] (fun s=>s.1) (fun ((v21,v22),a20) h=>(a20=none->v21=[])/\Own vars h0 [((some g1),.cells [(growV 1 none (([]:List Nat).map n8)),(growV 1 none (([]:List Nat).map n8))] false),(none,.cells (flatC (([]:List Nat).map n8)) false),(none,.cells (flatC (([]:List Nat).map n8)) false),((some g5),.cells [(growV 1 a20 (v21.map n8)),(growV 1 none (([]:List Nat).map n8))] false),(a20,.cells (flatC (v21.map n8)) false),(none,.cells (flatC (([]:List Nat).map n8)) false)] h) (fun ((v21,v22),a20)=>[(6,(n64 v22))]) (fun hm=>?_) ?_
   ·refine gX ?_
    refine atF hm fun x25 hx25 hm=>?_;refine gX ?_
    refine br hm (fun hm=>?_) fun hm=>?_
    ·refine gX ?_
     refine ldO (O.at (.tail _ (.tail _ (.tail _ (.head _))))) ?_;refine gH ?_
     refine aRem hm fun hm=>?_;refine gH ?_
     refine aShr64 hm fun hm=>?_;refine gH ?_
     refine aAnd64 1 1 ?_;refine gH ?_
     refine aCw ?_;refine gH ?_
     refine fz ?_;refine gH ?_
     refine O.apL (enc:=n8) (l:=v15) (new:=([(((p1/2 ^ (v16%64))%2 ^ 1)%256)]:(List Nat))) 1 (.tail _ (.tail _ (.tail _ (.tail _ (.head _))))) ha18 hm fun a26 h ha27 O hm=>?_;refine gH ?_
     refine O.stC 1 (.tail _ (.tail _ (.tail _ (.head _)))) [(growV 1 a26 ((v15++([(((p1/2 ^ (v16%64))%2 ^ 1)%256)]:(List Nat))).map n8)),(growV 1 none (([]:List Nat).map n8))] fun h O=>?_;refine gX ?_
     refine⟨_,addU64K (a:=v16) (b:=1) rfl rfl hm.1,?_⟩;refine gH ?_
     replace hm:=hm.2
     exact jx (((v15++([(((p1/2 ^ (v16%64))%2 ^ 1)%256)]:(List Nat))),(v16+1)),a26) hm ⟨ha27,O⟩
    ·refine gX ?_
     exact jx ((v15,v16),a14) hm ⟨ha18,O⟩
   ·clear hm;rintro⟨⟨v21,v22⟩,a20⟩ base h hm ⟨ha23,O⟩
    refine gX ?_
    refine aAdd hm fun hm=>?_;refine gH ?_
    exact jx ((v21,v22,(v17+1)),a20) hm ⟨ha23,O⟩
  ·refine gX ?_
   exact jx ((v15,v16),a14) hm ⟨ha18,O⟩
 ·clear hm;rintro⟨⟨v10,v11⟩,a9⟩ base h hm ⟨ha12,O⟩
  conv=>whnf
  refine jn (σ:=(List Nat)×Option Nat) hm 64 [4,5] (fun s=>s.1) (fun (v29,a28) h=>(a9=none->v10=[])/\(a28=none->v29=[])/\Own vars h0 [((some g1),.cells [(growV 1 none (([]:List Nat).map n8)),(growV 1 none (([]:List Nat).map n8))] false),(none,.cells (flatC (([]:List Nat).map n8)) false),(none,.cells (flatC (([]:List Nat).map n8)) false),((some g5),.cells [(growV 1 a9 (v10.map n8)),(growV 1 a28 (v29.map n8))] false),(a9,.cells (flatC (v10.map n8)) false),(a28,.cells (flatC (v29.map n8)) false)] h) (fun (v29,a28)=>[]) (fun hm=>?_) ?_
  ·refine gX ?_
   refine lw 64 [1,2,4,5] (σ:=((List Nat)×Nat×Nat)×Option Nat) (fun s=>s.1) (fun ((v34,v35,v36),a33) h=>(a9=none->v10=[])/\(a33=none->v34=[])/\Own vars h0 [((some g1),.cells [(growV 1 none (([]:List Nat).map n8)),(growV 1 none (([]:List Nat).map n8))] false),(none,.cells (flatC (([]:List Nat).map n8)) false),(none,.cells (flatC (([]:List Nat).map n8)) false),((some g5),.cells [(growV 1 a9 (v10.map n8)),(growV 1 a33 (v34.map n8))] false),(a9,.cells (flatC (v10.map n8)) false),(a33,.cells (flatC (v34.map n8)) false)] h) (fun ((v34,v35,v36),a33)=>[(6,(n64 v35)),(8,(i64 v36))]) ((([]:List Nat),v11,0),none) hm ⟨ha12,(fun _=>rfl),O⟩ ?_
   clear hm;rintro⟨⟨v34,v35,v36⟩,a33⟩ nx39 base h hm ⟨ha37,ha38,O⟩
   refine gX ?_
   refine br hm (fun hm=>?_) fun hm=>?_
   ·apply Cs;conv=>whnf
    refine jn (σ:=((List Nat)×Nat)×Option Nat) hm 64 [1,2,4,5,8] (fun s=>s.1) (fun ((v41,v42),a40) h=>(a9=none->v10=[])/\(a40=none->v41=[])/\Own vars h0 [((some g1),.cells [(growV 1 none (([]:List Nat).map n8)),(growV 1 none (([]:List Nat).map n8))] false),(none,.cells (flatC (([]:List Nat).map n8)) false),(none,.cells (flatC (([]:List Nat).map n8)) false),((some g5),.cells [(growV 1 a9 (v10.map n8)),(growV 1 a40 (v41.map n8))] false),(a9,.cells (flatC (v10.map n8)) false),(a40,.cells (flatC (v41.map n8)) false)] h) (fun ((v41,v42),a40)=>[(6,(n64 v42))]) (fun hm=>?_) ?_
    ·refine gX ?_
     refine atF hm fun x46 hx46 hm=>?_;refine gX ?_
     refine br hm (fun hm=>?_) fun hm=>?_
     ·refine gX ?_
      refine ldO (O.at (.tail _ (.tail _ (.tail _ (.head _))))) ?_;refine gH ?_
      refine aRem hm fun hm=>?_;refine gH ?_
      refine aShr64 hm fun hm=>?_;refine gH ?_
      refine aAnd64 1 1 ?_;refine gH ?_
      refine aCw ?_;refine gH ?_
      refine fz ?_;refine gH ?_
      refine O.apL (enc:=n8) (l:=v34) (new:=([(((p1/2 ^ (v35%64))%2 ^ 1)%256)]:(List Nat))) 1 (.tail _ (.tail _ (.tail _ (.tail _ (.tail _ (.head _)))))) ha38 hm fun a47 h ha48 O hm=>?_;refine gH ?_
      refine O.stC 1 (.tail _ (.tail _ (.tail _ (.head _)))) [(growV 1 a9 (v10.map n8)),(growV 1 a47 ((v34++([(((p1/2 ^ (v35%64))%2 ^ 1)%256)]:(List Nat))).map n8))] fun h O=>?_;refine gX ?_
      refine⟨_,addU64K (a:=v35) (b:=1) rfl rfl hm.1,?_⟩;refine gH ?_
      replace hm:=hm.2
      exact jx (((v34++([(((p1/2 ^ (v35%64))%2 ^ 1)%256)]:(List Nat))),(v35+1)),a47) hm ⟨ha37,ha48,O⟩
     ·refine gX ?_
      exact jx ((v34,v35),a33) hm ⟨ha37,ha38,O⟩
    ·clear hm;rintro⟨⟨v41,v42⟩,a40⟩ base h hm ⟨ha43,ha44,O⟩
     refine gX ?_
     refine aAdd hm fun hm=>?_;refine gH ?_
     exact jx ((v41,v42,(v36+1)),a40) hm ⟨ha43,ha44,O⟩
   ·refine gX ?_
    exact jx (v34,a33) hm ⟨ha37,ha38,O⟩
  ·clear hm;rintro⟨v29,a28⟩ base h hm ⟨ha30,ha31,O⟩
   refine gX ?_
   refine ldA (O.at (.tail _ (.tail _ (.tail _ (.head _))))) ?_;refine gH ?_
   refine O.stC 2 (.head _) [(growV 1 a9 (v10.map n8)),(growV 1 a28 (v29.map n8))] fun h O=>?_;refine gX ?_
   refine⟨_,resAggK rfl rfl (O.at (.head _)) rfl rfl (lbE rfl) rfl,?_⟩;conv=>whnf
   exact⟨(⟨v10,v29⟩:Pat),hm,O.ext,fun h2 F=>VLe.agg (LLe.cons (O.grownL F (Nat.le_refl _) (.tail _ (.tail _ (.tail _ (.tail _ (.head _))))) ha30 (fun _=>rfl)) (LLe.cons (O.grownL F (Nat.le_refl _) (.tail _ (.tail _ (.tail _ (.tail _ (.tail _ (.head _)))))) ha31 (fun _=>rfl)) (LLe.nil _)))⟩
def probecardlaw17_net_wp (p0:Circ) (p1:LnZ) (K:Nat->Prop):Prop :=
 ((ltI p1.pin (Int.ofNat 0))=true->K p1.node)/\((ltI p1.pin (Int.ofNat 0))=false->∃ x1,p0.nodes[p1.node]?=some x1/\∃ j3:Nat,p1.pin=Int.ofNat j3/\∃ x2,x1.ins[j3]?=some x2/\K x2)
theorem probecardlaw17_net_walk {p0:Circ}{p1:LnZ}{K:Nat->Prop} (hm:probecardlaw17_net_wp p0 p1 K) {h0:Heap} (hB:HasB vars h0):∃ r,K r/\CallD Tryz.prog NG 15 ⟨[encCirc p0,encLnZ p1]⟩ h0 (i64 r) h0:=by
 unfold probecardlaw17_net_wp at hm
 refine fw Tryz.func15 hB (enc:=i64) (fun r=>PureV.flat rfl) fun O=>?_;conv=>whnf
 refine gX ?_
 refine fz ?_;refine gH ?_
 refine fz ?_;refine gX ?_
 refine br hm (fun hm=>?_) fun hm=>?_
 ·refine gX ?_
  exact fe hm O
 ·refine gX ?_
  first|refine⟨.inr (.inr (rfl)),?_⟩|refine⟨.inr (.inl (by kernel_rfl)),?_⟩
  refine gX ?_
  refine atF hm fun x1 hx1 hm=>?_;refine gH ?_
  first|refine⟨.inr (.inr (rfl)),?_⟩|refine⟨.inr (.inl (by kernel_rfl)),?_⟩
  refine gX ?_
  obtain⟨j3,hz,x2,hx2,hm⟩:=hm
  refine flAtM (s:=1) (enc:=i64) (j:=j3) rfl rfl rfl (congrArg (Value.int .i64) hz) hx2 ?_;refine gX ?_
  exact fe hm O
def probecardlaw17_gate_wp  (K:Circ->Prop):Prop :=
 K (⟨([(⟨0,([]:(List Nat)),0,0⟩:Node),(⟨0,([]:(List Nat)),0,0⟩:Node),(⟨5,([0,1]:(List Nat)),0,0⟩:Node)]:(List Node)),([(⟨#[97]⟩:ByteArray),(⟨#[98]⟩:ByteArray),(⟨#[121]⟩:ByteArray)]:(List ByteArray)),[],([2]:(List Nat))⟩:Circ)
theorem probecardlaw17_gate_walk  {K:Circ->Prop} (hm:probecardlaw17_gate_wp  K) {h0:Heap} (hB:HasB vars h0):∃ r,K r/\CallD Tryz.prog NG 38 ⟨[]⟩ h0 (encCirc r) h0:=by
 unfold probecardlaw17_gate_wp at hm
 refine fw Tryz.func38 hB (enc:=encCirc) (fun r=>pure_circ _) fun O=>?_;conv=>whnf
 refine gX ?_
 (first|refine O.new (anew_alloc (l:=[(.slice none 0 0),(.slice none 0 0),(.slice none 0 0),(.slice none 0 0)]) rfl rfl rfl) fun g1 h O=>?_|refine O.newX (anew_alloc (l:=[(.slice none 0 0),(.slice none 0 0),(.slice none 0 0),(.slice none 0 0)]) rfl rfl rfl) fun g1 h O=>?_);refine gH ?_
 refine gX ?_
 refine fz ?_;refine gH ?_
 refine NewG.frzW rfl (VLe.els (s:=4) (es':=([(⟨0,([]:(List Nat)),0,0⟩:Node),(⟨0,([]:(List Nat)),0,0⟩:Node),(⟨5,([0,1]:(List Nat)),0,0⟩:Node)]).map encNode) rfl (map_size (enc:=encNode) (s:=4) (fun _=>rfl) _) (LLe.cons (VLe.refl _ _) (LLe.cons (VLe.nil _ _) (LLe.cons (VLe.refl _ _) (LLe.cons (VLe.refl _ _) (LLe.cons (VLe.refl _ _) (LLe.cons (VLe.nil _ _) (LLe.cons (VLe.refl _ _) (LLe.cons (VLe.refl _ _) (LLe.cons (VLe.refl _ _) (LLe.cons (VLe.refl _ _) (LLe.cons (VLe.refl _ _) (LLe.cons (VLe.refl _ _) (LLe.nil _)))))))))))))) ?_;refine gH ?_
 refine fz ?_;refine gH ?_
 refine fz ?_;refine gH ?_
 refine O.stC 4 (.head _) [((encL 4 encNode) ([(⟨0,([]:(List Nat)),0,0⟩:Node),(⟨0,([]:(List Nat)),0,0⟩:Node),(⟨5,([0,1]:(List Nat)),0,0⟩:Node)]:(List Node))),((encL 1 Value.string) ([(⟨#[97]⟩:ByteArray),(⟨#[98]⟩:ByteArray),(⟨#[121]⟩:ByteArray)]:(List ByteArray))),(.slice none 0 0),((encL 1 i64) ([2]:(List Nat)))] fun h O=>?_;refine gX ?_
 refine⟨_,resAggK rfl rfl (O.at (.head _)) rfl rfl (lbE rfl) rfl,?_⟩;conv=>whnf
 exact⟨(⟨([(⟨0,([]:(List Nat)),0,0⟩:Node),(⟨0,([]:(List Nat)),0,0⟩:Node),(⟨5,([0,1]:(List Nat)),0,0⟩:Node)]:(List Node)),([(⟨#[97]⟩:ByteArray),(⟨#[98]⟩:ByteArray),(⟨#[121]⟩:ByteArray)]:(List ByteArray)),[],([2]:(List Nat))⟩:Circ),hm,O.ext,fun h2 F=>VLe.agg (LLe.cons (VLe.refl _ _) (LLe.cons (VLe.refl _ _) (LLe.cons (VLe.nil _ _) (LLe.cons (VLe.refl _ _) (LLe.nil _)))))⟩
def probecardlaw17_lives_wp  (K:Bool->Prop):Prop :=
 probecardlaw17_gate_wp  (fun r1=>traces_Critical_wp r1 (⟨([1,1]:(List Nat)),([]:(List Nat))⟩:Pat) (fun r2=>probecardlaw17_gate_wp  (fun r3=>traces_Critical_wp r3 (⟨([0,1]:(List Nat)),([]:(List Nat))⟩:Pat) (fun r4=>probecardlaw17_gate_wp  (fun r5=>traces_Critical_wp r5 (⟨([0,0]:(List Nat)),([]:(List Nat))⟩:Pat) (fun r6=>joinW (α:=Bool) (fun k8=>((neN r2.2 0)=true->k8 true)/\((neN r2.2 0)=false->((neN r4.2 0)=true->k8 true)/\((neN r4.2 0)=false->((neN r6.2 0)=true->k8 true)/\((neN r6.2 0)=false->((neN r2.1.length 5)=true->k8 true)/\((neN r2.1.length 5)=false->((neN r4.1.length 3)=true->k8 true)/\((neN r4.1.length 3)=false->k8 (neN r6.1.length 1))))))) (fun v7=>(v7=true->K false)/\(v7=false->∃ x9,r4.1[0]?=some x9/\(((eqN x9.node 0)&&((eqZ x9.pin (Int.negSucc 0))&&true))=true->∃ x10,r4.1[1]?=some x10/\(((eqN x10.node 2)&&((eqZ x10.pin (Int.negSucc 0))&&true))=true->∃ x11,r4.1[2]?=some x11/\(((eqN x11.node 2)&&((eqZ x11.pin (Int.ofNat 0))&&true))=true->∃ x12,r6.1[0]?=some x12/\∃ x13,r4.1[1]?=some x13/\(((eqN x12.node x13.node)&&((eqZ x12.pin x13.pin)&&true))=true->∃ x14,r2.1[4]?=some x14/\K ((eqN x14.node 2)&&((eqZ x14.pin (Int.ofNat 1))&&true)))/\(((eqN x12.node x13.node)&&((eqZ x12.pin x13.pin)&&true))=false->K false))/\(((eqN x11.node 2)&&((eqZ x11.pin (Int.ofNat 0))&&true))=false->K false))/\(((eqN x10.node 2)&&((eqZ x10.pin (Int.negSucc 0))&&true))=false->K false))/\(((eqN x9.node 0)&&((eqZ x9.pin (Int.negSucc 0))&&true))=false->K false)))))))))
theorem probecardlaw17_lives_walk  {K:Bool->Prop} (hm:probecardlaw17_lives_wp  K) {h0:Heap} (hB:HasB vars h0):∃ r,K r/\CallD Tryz.prog NG 16 ⟨[]⟩ h0 (Value.bool r) h0:=by
 unfold probecardlaw17_lives_wp at hm
 refine fw Tryz.func16 hB (enc:=Value.bool) (fun r=>PureV.flat rfl) fun O=>?_;conv=>whnf
 refine gX ?_
 refine ca (probecardlaw17_gate_walk hm O.has) fun r1 hm=>?_;refine gH ?_
 refine fz ?_;refine gH ?_
 refine caW (traces_Critical_walk hm O.has) (LLe.cons (VLe.refl _ _) (LLe.cons (VLe.agg (LLe.cons (VLe.refl _ _) (LLe.cons (VLe.nil _ _) (LLe.nil _)))) (LLe.nil _))) fun r2 hm=>?_;refine gX ?_
 refine ca (probecardlaw17_gate_walk hm O.has) fun r3 hm=>?_;refine gH ?_
 refine fz ?_;refine gH ?_
 refine caW (traces_Critical_walk hm O.has) (LLe.cons (VLe.refl _ _) (LLe.cons (VLe.agg (LLe.cons (VLe.refl _ _) (LLe.cons (VLe.nil _ _) (LLe.nil _)))) (LLe.nil _))) fun r4 hm=>?_;refine gX ?_
 refine ca (probecardlaw17_gate_walk hm O.has) fun r5 hm=>?_;refine gH ?_
 refine fz ?_;refine gH ?_
 refine caW (traces_Critical_walk hm O.has) (LLe.cons (VLe.refl _ _) (LLe.cons (VLe.agg (LLe.cons (VLe.refl _ _) (LLe.cons (VLe.nil _ _) (LLe.nil _)))) (LLe.nil _))) fun r6 hm=>?_;refine gH ?_
 apply Cs;conv=>whnf
 refine jn hm 88 [1,3,5] (fun s=>s) (fun v7 h=>Own vars h0 [] h) (fun v7=>[(52,(.bool v7))]) (fun hm=>?_) ?_
 ·refine gX ?_
  refine br hm (fun hm=>?_) fun hm=>?_
  ·refine gX ?_
   refine bt ?_;refine gH ?_
   refine bt ?_;refine gH ?_
   refine bt ?_;refine gH ?_
   refine bt ?_;refine gH ?_
   exact jx true hm O
  ·refine gX ?_
   refine br hm (fun hm=>?_) fun hm=>?_
   ·refine gX ?_
    refine bt ?_;refine gH ?_
    refine bt ?_;refine gH ?_
    refine bt ?_;refine gH ?_
    exact jx true hm O
   ·refine gX ?_
    refine br hm (fun hm=>?_) fun hm=>?_
    ·refine gX ?_
     refine bt ?_;refine gH ?_
     refine bt ?_;refine gH ?_
     exact jx true hm O
    ·refine gX ?_
     refine br hm (fun hm=>?_) fun hm=>?_
     ·refine gX ?_
      refine bt ?_;refine gH ?_
      exact jx true hm O
     ·refine gX ?_
      refine br hm (fun hm=>?_) fun hm=>?_
      ·refine gX ?_
       exact jx true hm O
      ·refine gX ?_
       exact jx (neN r6.1.length 1) hm O
 ·clear hm;rintro v7 base h hm O
  refine gX ?_
  refine br hm (fun hm=>?_) fun hm=>?_
  ·refine gX ?_
   exact fe hm O
  ·refine gX ?_
   refine atF hm fun x9 hx9 hm=>?_;refine gH ?_
   first|refine⟨.inr (.inr (rfl)),?_⟩|refine⟨.inr (.inl (by kernel_rfl)),?_⟩
   refine gX ?_
   refine⟨.bool ((eqN x9.node 0)&&((eqZ x9.pin (Int.negSucc 0))&&true)),by kernel_rfl,?_⟩;refine gH ?_
   refine br hm (fun hm=>?_) fun hm=>?_
   ·refine gX ?_
    refine atF hm fun x10 hx10 hm=>?_;refine gH ?_
    first|refine⟨.inr (.inr (rfl)),?_⟩|refine⟨.inr (.inl (by kernel_rfl)),?_⟩
    refine gX ?_
    refine⟨.bool ((eqN x10.node 2)&&((eqZ x10.pin (Int.negSucc 0))&&true)),by kernel_rfl,?_⟩;refine gH ?_
    refine br hm (fun hm=>?_) fun hm=>?_
    ·refine gX ?_
     refine atF hm fun x11 hx11 hm=>?_;refine gH ?_
     first|refine⟨.inr (.inr (rfl)),?_⟩|refine⟨.inr (.inl (by kernel_rfl)),?_⟩
     refine gX ?_
     refine⟨.bool ((eqN x11.node 2)&&((eqZ x11.pin (Int.ofNat 0))&&true)),by kernel_rfl,?_⟩;refine gH ?_
     refine br hm (fun hm=>?_) fun hm=>?_
     ·refine gX ?_
      refine atF hm fun x12 hx12 hm=>?_;refine gH ?_
      first|refine⟨.inr (.inr (rfl)),?_⟩|refine⟨.inr (.inl (by kernel_rfl)),?_⟩
      refine gX ?_
      refine atF hm fun x13 hx13 hm=>?_;refine gH ?_
      first|refine⟨.inr (.inr (rfl)),?_⟩|refine⟨.inr (.inl (by kernel_rfl)),?_⟩
      refine gX ?_
      refine⟨.bool ((eqN x12.node x13.node)&&((eqZ x12.pin x13.pin)&&true)),by kernel_rfl,?_⟩;refine gH ?_
      refine br hm (fun hm=>?_) fun hm=>?_
      ·refine gX ?_
       refine atF hm fun x14 hx14 hm=>?_;refine gH ?_
       first|refine⟨.inr (.inr (rfl)),?_⟩|refine⟨.inr (.inl (by kernel_rfl)),?_⟩
       refine gX ?_
       refine⟨.bool ((eqN x14.node 2)&&((eqZ x14.pin (Int.ofNat 1))&&true)),by kernel_rfl,?_⟩;refine gX ?_
       exact fe hm O
      ·refine gX ?_
       exact fe hm O
     ·refine gX ?_
      refine bf ?_;refine gX ?_
      exact fe hm O
    ·refine gX ?_
     refine bf ?_;refine gH ?_
     refine bf ?_;refine gX ?_
     exact fe hm O
   ·refine gX ?_
    refine bf ?_;refine gH ?_
    refine bf ?_;refine gH ?_
    refine bf ?_;refine gX ?_
    exact fe hm O
def probecardlaw17_TracesWalk_wp (p0:CData) (p1:Nat) (p2:Nat) (K:Bool->Prop):Prop :=
 probecardlaw12_Plain_wp (⟨p0.inp,0,p0.data0,p0.data1,p0.bus,p0.mem,p0.port0,p0.port1,p0.port2,p0.port3,p0.gates,p0.outs⟩:CData) (fun r3=>((eqN r3.nodes.length 0)=true->K false)/\((eqN r3.nodes.length 0)=false->probecardlaw12_Full_wp r3 p1 (fun r6=>joinW (α:=Bool) (fun k10=>((ltN p2 0)=true->k10 true)/\((ltN p2 0)=false->k10 (!ltN p2 r3.nodes.length))) (fun v9=>(v9=true->traces_Walk_wp r3 r6 p2 (fun r11=>((eqN r11.2 1)=true->((eqN r11.1.length 0)=true->probecardlaw17_lives_wp  (fun r16=>K r16))/\((eqN r11.1.length 0)=false->K false))/\((eqN r11.2 1)=false->K false)))/\(v9=false->traces_Walk_wp r3 r6 p2 (fun r17=>sims_Run_wp r3 r6 (fun r22=>joinW (α:=Bool) (fun k29=>((neN r17.2 0)=true->k29 true)/\((neN r17.2 0)=false->((neN r22.2.2 0)=true->k29 true)/\((neN r22.2.2 0)=false->((neN r22.2.1.length r3.nodes.length)=true->k29 true)/\((neN r22.2.1.length r3.nodes.length)=false->k29 (neN r17.1.length r17.1.length))))) (fun v27=>(v27=true->K false)/\(v27=false->joinW (α:=(List (LnZ×Bool))) (fun k34=>loopW (S:=((List (LnZ×Bool))×Bool)) (fun (v35,v36) nx38=>(v36=true->loopW (S:=((List (LnZ×Bool))×Bool×Nat)) (fun (v39,v40,v41) nx43=>((ltN v41 r3.nodes.length)=true->joinW (α:=((List (LnZ×Bool))×Bool)) (fun k47=>loopW (S:=((List (LnZ×Bool))×Bool×Nat)) (fun (v48,v49,v50) nx52=>∃ x53,r3.nodes[v41]?=some x53/\((ltN v50 x53.ins.length)=true->joinW (α:=((List (LnZ×Bool))×Bool)) (fun k57=>joinW (α:=((List (LnZ×Bool))×Bool)) (fun k63=>joinW (α:=Bool) (fun k66=>((!((mget v48 (⟨v41,(Int.ofNat v50)⟩:LnZ)).getD false))=true->k66 ((mget v48 (⟨v41,(Int.negSucc 0)⟩:LnZ)).getD false))/\((!((mget v48 (⟨v41,(Int.ofNat v50)⟩:LnZ)).getD false))=false->k66 false)) (fun v64=>(v64=true->k63 ((mset v48 (⟨v41,(Int.ofNat v50)⟩:LnZ) true),true))/\(v64=false->k63 (v48,v49)))) (fun (v60,v61)=>∃ x67,r3.nodes[v41]?=some x67/\∃ x68,x67.ins[v50]?=some x68/\probecardlaw17_loads_wp r3 x68 (fun r69=>joinW (α:=Bool) (fun k74=>(((mget v60 (⟨v41,(Int.ofNat v50)⟩:LnZ)).getD false)=true->((eqN r69.1 1)=true->k74 (!((mget v60 (⟨x68,(Int.negSucc 0)⟩:LnZ)).getD false)))/\((eqN r69.1 1)=false->k74 false))/\(((mget v60 (⟨v41,(Int.ofNat v50)⟩:LnZ)).getD false)=false->k74 false)) (fun v72=>(v72=true->k57 ((mset v60 (⟨x68,(Int.negSucc 0)⟩:LnZ) true),true))/\(v72=false->k57 (v60,v61)))))) (fun (v54,v55)=>v50+1<2 ^ 63/\nx52 (v54,v55,(v50+1))))/\((ltN v50 x53.ins.length)=false->k47 (v48,v49))) (v39,v40,0)) (fun (v44,v45)=>v41+1<2 ^ 63/\nx43 (v44,v45,(v41+1))))/\((ltN v41 r3.nodes.length)=false->nx38 (v39,v40))) (v35,false,0))/\(v36=false->k34 v35)) ((mset ([]:List (LnZ×Bool)) (⟨p2,(Int.negSucc 0)⟩:LnZ) true),true)) (fun v32=>joinW (α:=Nat) (fun k78=>loopW (S:=(Nat×Nat)) (fun (v80,v81) nx83=>((ltN v81 r3.nodes.length)=true->joinW (α:=Nat) (fun k87=>loopW (S:=(Nat×Int)) (fun (v89,v90) nx92=>∃ x93,r3.nodes[v81]?=some x93/\((ltI v90 (Int.ofNat x93.ins.length))=true->joinW (α:=Nat) (fun k97=>((!((mget v32 (⟨v81,v90⟩:LnZ)).getD false))=true->k97 v89)/\((!((mget v32 (⟨v81,v90⟩:LnZ)).getD false))=false->probecardlaw17_net_wp r3 (⟨v81,v90⟩:LnZ) (fun r100=>∃ x101,r22.2.1[r100]?=some x101/\logic_Not_wp x101 (fun r102=>inject_Detects_wp (⟨r3.nodes,r3.names,r3.mems,([p2]:(List Nat))⟩:Circ) (⟨0,(⟨v81,v90⟩:LnZ),r102,0⟩:Flt) r6 (fun r103=>((neN r103.2 0)=true->K false)/\((neN r103.2 0)=false->(r103.1=true->joinW (α:=Bool) (fun k107=>((!ltN v89 r17.1.length)=true->k107 true)/\((!ltN v89 r17.1.length)=false->∃ x108,r17.1[v89]?=some x108/\k107 (!((eqN x108.node v81)&&((eqZ x108.pin v90)&&true))))) (fun v105=>(v105=true->K false)/\(v105=false->v89+1<2 ^ 63/\k97 (v89+1))))/\(r103.1=false->k97 v89))))))) (fun v95 => -(2 ^ 63)<=(v90+(Int.ofNat 1))/\(v90+(Int.ofNat 1))<2 ^ 63/\nx92 (v95,(v90+(Int.ofNat 1)))))/\((ltI v90 (Int.ofNat x93.ins.length))=false->k87 v89)) (v80,(Int.negSucc 0))) (fun v85=>v81+1<2 ^ 63/\nx83 (v85,(v81+1))))/\((ltN v81 r3.nodes.length)=false->k78 v80)) (0,0)) (fun v76=>((eqN v76 r17.1.length)=true->probecardlaw17_lives_wp  (fun r110=>K r110))/\((eqN v76 r17.1.length)=false->K false))))))))))))
theorem probecardlaw17_TracesWalk_walk {p0:CData}{p1:Nat}{p2:Nat}{K:Bool->Prop} (hm:probecardlaw17_TracesWalk_wp p0 p1 p2 K) {h0:Heap} (hB:HasB vars h0):∃ r,K r/\CallD Tryz.prog NG 6 ⟨[encC p0,n64 p1,i64 p2]⟩ h0 (Value.bool r) h0:=by
 unfold probecardlaw17_TracesWalk_wp at hm
 refine fw Tryz.func6 hB (enc:=Value.bool) (fun r=>PureV.flat rfl) fun O=>?_;conv=>whnf
 refine gX ?_
 (first|refine O.new (boxK rfl) fun g1 h O=>?_|refine O.newX (boxK rfl) fun g1 h O=>?_);refine gH ?_
 refine gX ?_
 refine O.stC 1 (.head _) [(n8 p0.inp),(n8 0),(n8 p0.data0),(n8 p0.data1),(.bool p0.bus),(.bool p0.mem),(n8 p0.port0),(n8 p0.port1),(n8 p0.port2),(n8 p0.port3),((encL 4 encG) p0.gates),((encL 1 n8) p0.outs)] fun h O=>?_;refine gX ?_
 refine ldA (O.at (.head _)) ?_;refine gH ?_
 refine ca (probecardlaw12_Plain_walk hm O.has) fun r3 hm=>?_;refine gH ?_
 (first|refine O.new (anew_alloc (l:=[(.slice none 0 0),(.slice none 0 0),(.slice none 0 0),(.slice none 0 0)]) rfl rfl rfl) fun g4 h O=>?_|refine O.newX (anew_alloc (l:=[(.slice none 0 0),(.slice none 0 0),(.slice none 0 0),(.slice none 0 0)]) rfl rfl rfl) fun g4 h O=>?_);refine gH ?_
 refine O.stC 4 (.head _) [((encL 4 encNode) r3.nodes),((encL 1 Value.string) r3.names),((encL 3 encMem) r3.mems),((encL 1 i64) r3.outs)] fun h O=>?_;refine gX ?_
 refine br hm (fun hm=>?_) fun hm=>?_
 ·refine gX ?_
  exact fe hm O
 ·refine gX ?_
  refine ldA (O.at (.head _)) ?_;refine gH ?_
  refine ca (probecardlaw12_Full_walk hm O.has) fun r6 hm=>?_;refine gH ?_
  (first|refine O.new (anew_alloc (l:=[(.slice none 0 0),(.slice none 0 0)]) rfl rfl rfl) fun g7 h O=>?_|refine O.newX (anew_alloc (l:=[(.slice none 0 0),(.slice none 0 0)]) rfl rfl rfl) fun g7 h O=>?_);refine gH ?_
  refine O.stC 2 (.head _) [((encL 1 n8) r6.inp),((encL 1 n8) r6.state)] fun h O=>?_;refine gH ?_
  apply Cs;conv=>whnf
  refine jn hm 240 [2,7,8] (fun s=>s) (fun v9 h=>Own vars h0 [((some g4),.cells [((encL 4 encNode) r3.nodes),((encL 1 Value.string) r3.names),((encL 3 encMem) r3.mems),((encL 1 i64) r3.outs)] false),((some g7),.cells [((encL 1 n8) r6.inp),((encL 1 n8) r6.state)] false)] h) (fun v9=>[(49,(.bool v9))]) (fun hm=>?_) ?_
  ·refine gX ?_
   refine br hm (fun hm=>?_) fun hm=>?_
   ·refine gX ?_
    exact jx true hm (O.sel [1,0] (by decide))
   ·refine gX ?_
    exact jx (!ltN p2 r3.nodes.length) hm (O.sel [1,0] (by decide))
  ·clear hm;rintro v9 base h hm O
   refine gX ?_
   refine br hm (fun hm=>?_) fun hm=>?_
   ·refine gX ?_
    refine ldA (O.at (.head _)) ?_;refine gH ?_
    refine ldA (O.at (.tail _ (.head _))) ?_;refine gH ?_
    refine caO (traces_Walk_walkO hm O.has) O fun r11 a12 h hx ha14 hn15 O hm=>?_;refine gX ?_
    refine br hm (fun hm=>?_) fun hm=>?_
    ·refine gX ?_
     refine br hm (fun hm=>?_) fun hm=>?_
     ·refine gX ?_
      refine ca (probecardlaw17_lives_walk hm O.has) fun r16 hm=>?_;refine gX ?_
      exact fe hm O
     ·refine gX ?_
      exact fe hm O
    ·refine gX ?_
     refine bf ?_;refine gX ?_
     exact fe hm O
   ·refine gX ?_
    refine ldA (O.at (.head _)) ?_;refine gH ?_
    refine ldA (O.at (.tail _ (.head _))) ?_;refine gH ?_
    refine caO (traces_Walk_walkO hm O.has) O fun r17 a18 h hx ha20 hn21 O hm=>?_;refine gX ?_
    refine ldA (O.at (.tail _ (.head _))) ?_;refine gH ?_
    refine ldA (O.at (.tail _ (.tail _ (.head _)))) ?_;refine gH ?_
    refine ca (sims_Run_walk hm O.has) fun r22 hm=>?_;refine gH ?_
    (first|refine O.new (anew_alloc (l:=[(.slice none 0 0),(.slice none 0 0)]) rfl rfl rfl) fun g23 h O=>?_|refine O.newX (anew_alloc (l:=[(.slice none 0 0),(.slice none 0 0)]) rfl rfl rfl) fun g23 h O=>?_);refine gH ?_
    refine O.stC 2 (.head _) [((encL 1 n8) r22.1.out),((encL 1 n8) r22.1.next)] fun h O=>?_;refine gX ?_
    refine ldA (O.at (.tail _ (.tail _ (.head _)))) ?_;refine gH ?_
    (first|refine O.new (anew_alloc (l:=[(.slice none 0 0),(.slice none 0 0),(.slice none 0 0),(.slice none 0 0)]) rfl rfl rfl) fun g25 h O=>?_|refine O.newX (anew_alloc (l:=[(.slice none 0 0),(.slice none 0 0),(.slice none 0 0),(.slice none 0 0)]) rfl rfl rfl) fun g25 h O=>?_);refine gH ?_
    refine O.stC 4 (.head _) [((encL 4 encNode) r3.nodes),((encL 1 Value.string) r3.names),((encL 3 encMem) r3.mems),((encL 1 i64) r3.outs)] fun h O=>?_;refine gX ?_
    refine fz ?_;refine gH ?_
    refine O.stC 1 (.head _) [((encL 4 encNode) r3.nodes),((encL 1 Value.string) r3.names),((encL 3 encMem) r3.mems),((encL 1 i64) ([p2]:(List Nat)))] fun h O=>?_;refine gH ?_
    apply Cs;conv=>whnf
    refine jn hm 240 [2,7,8,11,14,16] (fun s=>s) (fun v27 h=>(a18=none->r17.1=[])/\Own vars h0 [((some g4),.cells [((encL 4 encNode) r3.nodes),((encL 1 Value.string) r3.names),((encL 3 encMem) r3.mems),((encL 1 i64) r3.outs)] false),((some g7),.cells [((encL 1 n8) r6.inp),((encL 1 n8) r6.state)] false),(a18,.cells (flatC (r17.1.map encLnZ)) false),((some g25),.cells [((encL 4 encNode) r3.nodes),((encL 1 Value.string) r3.names),((encL 3 encMem) r3.mems),((encL 1 i64) ([p2]:(List Nat)))] false)] h) (fun v27=>[(105,(.bool v27))]) (fun hm=>?_) ?_
    ·refine gX ?_
     refine br hm (fun hm=>?_) fun hm=>?_
     ·refine gX ?_
      refine bt ?_;refine gH ?_
      refine bt ?_;refine gH ?_
      exact jx true hm ⟨ha20,(O.sel [3,4,2,0] (by decide))⟩
     ·refine gX ?_
      refine br hm (fun hm=>?_) fun hm=>?_
      ·refine gX ?_
       refine bt ?_;refine gH ?_
       exact jx true hm ⟨ha20,(O.sel [3,4,2,0] (by decide))⟩
      ·refine gX ?_
       refine ldO (O.at (.tail _ (.tail _ (.tail _ (.head _))))) ?_;refine gH ?_
       refine br hm (fun hm=>?_) fun hm=>?_
       ·refine gX ?_
        exact jx true hm ⟨ha20,(O.sel [3,4,2,0] (by decide))⟩
       ·refine gX ?_
        refine capC (enc:=encLnZ) (l:=r17.1) ?_;refine gH ?_
        exact jx (neN r17.1.length r17.1.length) hm ⟨ha20,(O.sel [3,4,2,0] (by decide))⟩
    ·clear hm;rintro v27 base h hm ⟨ha28,O⟩
     refine gX ?_
     refine br hm (fun hm=>?_) fun hm=>?_
     ·refine gX ?_
      exact fe hm O
     ·refine gX ?_
      (first|refine O.new ((rfl:anew _ _ _=some (.map (encM encLnZ Value.bool ([]:List (LnZ×Bool))),fun g=>.map (some g)))) fun g30 h O=>?_|refine O.newX ((rfl:anew _ _ _=some (.map (encM encLnZ Value.bool ([]:List (LnZ×Bool))),fun g=>.map (some g)))) fun g30 h O=>?_);refine gH ?_
      refine gX ?_
      refine O.mapSet (ek:=encLnZ) (ev:=Value.bool) (m:=([]:List (LnZ×Bool))) (k:=(⟨p2,(Int.negSucc 0)⟩:LnZ)) (v:=true) (.head _) rfl rfl (by kernel_rfl) (sameLnZ rfl) rfl rfl rfl fun h O=>?_;refine gH ?_
      refine jn hm 240 [7,8,11,14,16,17] (fun s=>s) (fun v32 h=>(a18=none->r17.1=[])/\Own vars h0 [((some g4),.cells [((encL 4 encNode) r3.nodes),((encL 1 Value.string) r3.names),((encL 3 encMem) r3.mems),((encL 1 i64) r3.outs)] false),((some g7),.cells [((encL 1 n8) r6.inp),((encL 1 n8) r6.state)] false),(a18,.cells (flatC (r17.1.map encLnZ)) false),((some g25),.cells [((encL 4 encNode) r3.nodes),((encL 1 Value.string) r3.names),((encL 3 encMem) r3.mems),((encL 1 i64) ([p2]:(List Nat)))] false),((some g30),.map (encM encLnZ Value.bool v32))] h) (fun v32=>[]) (fun hm=>?_) ?_
      ·refine gX ?_
       refine lw 240 [7,8,11,14,16,17] (σ:=((List (LnZ×Bool))×Bool)) (fun s=>s) (fun (v35,v36) h=>(a18=none->r17.1=[])/\Own vars h0 [((some g4),.cells [((encL 4 encNode) r3.nodes),((encL 1 Value.string) r3.names),((encL 3 encMem) r3.mems),((encL 1 i64) r3.outs)] false),((some g7),.cells [((encL 1 n8) r6.inp),((encL 1 n8) r6.state)] false),(a18,.cells (flatC (r17.1.map encLnZ)) false),((some g25),.cells [((encL 4 encNode) r3.nodes),((encL 1 Value.string) r3.names),((encL 3 encMem) r3.mems),((encL 1 i64) ([p2]:(List Nat)))] false),((some g30),.map (encM encLnZ Value.bool v35))] h) (fun (v35,v36)=>[(18,(.bool v36))]) ((mset ([]:List (LnZ×Bool)) (⟨p2,(Int.negSucc 0)⟩:LnZ) true),true) hm ⟨ha28,(O.sel [1,2,3,4,0] (by decide))⟩ ?_
       clear hm;rintro⟨v35,v36⟩ nx38 base h hm ⟨ha37,O⟩
       refine gX ?_
       refine br hm (fun hm=>?_) fun hm=>?_
       ·refine gX ?_
        refine lw 240 [7,8,11,14,16,17] (σ:=((List (LnZ×Bool))×Bool×Nat)) (fun s=>s) (fun (v39,v40,v41) h=>(a18=none->r17.1=[])/\Own vars h0 [((some g4),.cells [((encL 4 encNode) r3.nodes),((encL 1 Value.string) r3.names),((encL 3 encMem) r3.mems),((encL 1 i64) r3.outs)] false),((some g7),.cells [((encL 1 n8) r6.inp),((encL 1 n8) r6.state)] false),(a18,.cells (flatC (r17.1.map encLnZ)) false),((some g25),.cells [((encL 4 encNode) r3.nodes),((encL 1 Value.string) r3.names),((encL 3 encMem) r3.mems),((encL 1 i64) ([p2]:(List Nat)))] false),((some g30),.map (encM encLnZ Value.bool v39))] h) (fun (v39,v40,v41)=>[(18,(.bool v40)),(19,(i64 v41))]) (v35,false,0) hm ⟨ha37,O⟩ ?_
        clear hm;rintro⟨v39,v40,v41⟩ nx43 base h hm ⟨ha42,O⟩
        refine gX ?_
        refine br hm (fun hm=>?_) fun hm=>?_
        ·apply Cs;conv=>whnf
         refine jn hm 240 [7,8,11,14,16,17,19] (fun s=>s) (fun (v44,v45) h=>(a18=none->r17.1=[])/\Own vars h0 [((some g4),.cells [((encL 4 encNode) r3.nodes),((encL 1 Value.string) r3.names),((encL 3 encMem) r3.mems),((encL 1 i64) r3.outs)] false),((some g7),.cells [((encL 1 n8) r6.inp),((encL 1 n8) r6.state)] false),(a18,.cells (flatC (r17.1.map encLnZ)) false),((some g25),.cells [((encL 4 encNode) r3.nodes),((encL 1 Value.string) r3.names),((encL 3 encMem) r3.mems),((encL 1 i64) ([p2]:(List Nat)))] false),((some g30),.map (encM encLnZ Value.bool v44))] h) (fun (v44,v45)=>[(18,(.bool v45))]) (fun hm=>?_) ?_
         ·refine gX ?_
          refine lw 240 [7,8,11,14,16,17,19] (σ:=((List (LnZ×Bool))×Bool×Nat)) (fun s=>s) (fun (v48,v49,v50) h=>(a18=none->r17.1=[])/\Own vars h0 [((some g4),.cells [((encL 4 encNode) r3.nodes),((encL 1 Value.string) r3.names),((encL 3 encMem) r3.mems),((encL 1 i64) r3.outs)] false),((some g7),.cells [((encL 1 n8) r6.inp),((encL 1 n8) r6.state)] false),(a18,.cells (flatC (r17.1.map encLnZ)) false),((some g25),.cells [((encL 4 encNode) r3.nodes),((encL 1 Value.string) r3.names),((encL 3 encMem) r3.mems),((encL 1 i64) ([p2]:(List Nat)))] false),((some g30),.map (encM encLnZ Value.bool v48))] h) (fun (v48,v49,v50)=>[(18,(.bool v49)),(20,(i64 v50))]) (v39,v40,0) hm ⟨ha42,O⟩ ?_
          clear hm;rintro⟨v48,v49,v50⟩ nx52 base h hm ⟨ha51,O⟩
          refine gX ?_
          refine atF hm fun x53 hx53 hm=>?_;refine gX ?_
          refine br hm (fun hm=>?_) fun hm=>?_
          ·apply Cs;conv=>whnf
           refine jn hm 240 [7,8,11,14,16,17,19,20] (fun s=>s) (fun (v54,v55) h=>(a18=none->r17.1=[])/\Own vars h0 [((some g4),.cells [((encL 4 encNode) r3.nodes),((encL 1 Value.string) r3.names),((encL 3 encMem) r3.mems),((encL 1 i64) r3.outs)] false),((some g7),.cells [((encL 1 n8) r6.inp),((encL 1 n8) r6.state)] false),(a18,.cells (flatC (r17.1.map encLnZ)) false),((some g25),.cells [((encL 4 encNode) r3.nodes),((encL 1 Value.string) r3.names),((encL 3 encMem) r3.mems),((encL 1 i64) ([p2]:(List Nat)))] false),((some g30),.map (encM encLnZ Value.bool v54))] h) (fun (v54,v55)=>[(18,(.bool v55))]) (fun hm=>?_) ?_
           ·refine gX ?_
            (first|refine O.new (anew_alloc (l:=[(i64 0),(i64 0)]) rfl rfl rfl) fun g58 h O=>?_|refine O.newX (anew_alloc (l:=[(i64 0),(i64 0)]) rfl rfl rfl) fun g58 h O=>?_);refine gH ?_
            refine O.stC 2 (.head _) [(i64 v41),(z64 (Int.ofNat v50))] fun h O=>?_;refine gH ?_
            refine jn hm 240 [7,8,11,14,16,17,19,20,21] (fun s=>s) (fun (v60,v61) h=>(a18=none->r17.1=[])/\Own vars h0 [((some g4),.cells [((encL 4 encNode) r3.nodes),((encL 1 Value.string) r3.names),((encL 3 encMem) r3.mems),((encL 1 i64) r3.outs)] false),((some g7),.cells [((encL 1 n8) r6.inp),((encL 1 n8) r6.state)] false),(a18,.cells (flatC (r17.1.map encLnZ)) false),((some g25),.cells [((encL 4 encNode) r3.nodes),((encL 1 Value.string) r3.names),((encL 3 encMem) r3.mems),((encL 1 i64) ([p2]:(List Nat)))] false),((some g30),.map (encM encLnZ Value.bool v60)),((some g58),.cells [(i64 v41),(z64 (Int.ofNat v50))] false)] h) (fun (v60,v61)=>[(18,(.bool v61))]) (fun hm=>?_) ?_
            ·refine jn hm 240 [7,8,11,14,16,17,18,19,20,21] (fun s=>s) (fun v64 h=>(a18=none->r17.1=[])/\Own vars h0 [((some g4),.cells [((encL 4 encNode) r3.nodes),((encL 1 Value.string) r3.names),((encL 3 encMem) r3.mems),((encL 1 i64) r3.outs)] false),((some g7),.cells [((encL 1 n8) r6.inp),((encL 1 n8) r6.state)] false),(a18,.cells (flatC (r17.1.map encLnZ)) false),((some g25),.cells [((encL 4 encNode) r3.nodes),((encL 1 Value.string) r3.names),((encL 3 encMem) r3.mems),((encL 1 i64) ([p2]:(List Nat)))] false),((some g30),.map (encM encLnZ Value.bool v48)),((some g58),.cells [(i64 v41),(z64 (Int.ofNat v50))] false)] h) (fun v64=>[(141,(.bool v64))]) (fun hm=>?_) ?_
             ·refine gX ?_
              refine ldA (O.at (.head _)) ?_;refine gH ?_
              refine⟨_,lookupK (ek:=encLnZ) (ev:=Value.bool) (m:=v48) (k:=(⟨v41,(Int.ofNat v50)⟩:LnZ)) (z:=false) rfl rfl rfl (by kernel_rfl) (by kernel_rfl) (sameLnZ rfl) (O.at (.tail _ (.tail _ (.tail _ (.tail _ (.tail _ (.head _))))))) rfl rfl,?_⟩;refine gH ?_
              refine br hm (fun hm=>?_) fun hm=>?_
              ·refine gX ?_
               refine⟨_,lookupK (ek:=encLnZ) (ev:=Value.bool) (m:=v48) (k:=(⟨v41,(Int.negSucc 0)⟩:LnZ)) (z:=false) rfl rfl rfl (by kernel_rfl) (by kernel_rfl) (sameLnZ rfl) (O.at (.tail _ (.tail _ (.tail _ (.tail _ (.tail _ (.head _))))))) rfl rfl,?_⟩;refine gH ?_
               exact jx ((mget v48 (⟨v41,(Int.negSucc 0)⟩:LnZ)).getD false) hm ⟨ha51,(O.sel [1,2,3,4,5,0] (by decide))⟩
              ·refine gX ?_
               exact jx false hm ⟨ha51,(O.sel [1,2,3,4,5,0] (by decide))⟩
             ·clear hm;rintro v64 base h hm ⟨ha65,O⟩
              refine gX ?_
              refine br hm (fun hm=>?_) fun hm=>?_
              ·refine gX ?_
               refine ldA (O.at (.tail _ (.tail _ (.tail _ (.tail _ (.tail _ (.head _))))))) ?_;refine gH ?_
               refine O.mapSet (ek:=encLnZ) (ev:=Value.bool) (m:=v48) (k:=(⟨v41,(Int.ofNat v50)⟩:LnZ)) (v:=true) (.tail _ (.tail _ (.tail _ (.tail _ (.head _))))) rfl rfl (by kernel_rfl) (sameLnZ rfl) rfl rfl rfl fun h O=>?_;refine gX ?_
               exact jx ((mset v48 (⟨v41,(Int.ofNat v50)⟩:LnZ) true),true) hm ⟨ha65,O⟩
              ·refine gX ?_
               exact jx (v48,v49) hm ⟨ha65,O⟩
            ·clear hm;rintro⟨v60,v61⟩ base h hm ⟨ha62,O⟩
             refine gX ?_
             refine atF hm fun x67 hx67 hm=>?_;refine gH ?_
             refine atF hm fun x68 hx68 hm=>?_;refine gX ?_
             refine ldA (O.at (.head _)) ?_;refine gH ?_
             refine ca (probecardlaw17_loads_walk hm O.has) fun r69 hm=>?_;refine gH ?_
             (first|refine O.new (anew_alloc (l:=[(i64 0),(i64 0)]) rfl rfl rfl) fun g70 h O=>?_|refine O.newX (anew_alloc (l:=[(i64 0),(i64 0)]) rfl rfl rfl) fun g70 h O=>?_);refine gH ?_
             refine O.stC 2 (.head _) [(z64 r69.2.node),(z64 r69.2.pin)] fun h O=>?_;refine gH ?_
             refine jn hm 240 [7,8,11,14,16,17,18,19,20,22] (fun s=>s) (fun v72 h=>(a18=none->r17.1=[])/\Own vars h0 [((some g4),.cells [((encL 4 encNode) r3.nodes),((encL 1 Value.string) r3.names),((encL 3 encMem) r3.mems),((encL 1 i64) r3.outs)] false),((some g7),.cells [((encL 1 n8) r6.inp),((encL 1 n8) r6.state)] false),(a18,.cells (flatC (r17.1.map encLnZ)) false),((some g25),.cells [((encL 4 encNode) r3.nodes),((encL 1 Value.string) r3.names),((encL 3 encMem) r3.mems),((encL 1 i64) ([p2]:(List Nat)))] false),((some g30),.map (encM encLnZ Value.bool v60))] h) (fun v72=>[(172,(.bool v72))]) (fun hm=>?_) ?_
             ·refine gX ?_
              refine ldA (O.at (.tail _ (.tail _ (.tail _ (.tail _ (.tail _ (.tail _ (.head _)))))))) ?_;refine gH ?_
              refine⟨_,lookupK (ek:=encLnZ) (ev:=Value.bool) (m:=v60) (k:=(⟨v41,(Int.ofNat v50)⟩:LnZ)) (z:=false) rfl rfl rfl (by kernel_rfl) (by kernel_rfl) (sameLnZ rfl) (O.at (.tail _ (.tail _ (.tail _ (.tail _ (.tail _ (.head _))))))) rfl rfl,?_⟩;refine gH ?_
              refine br hm (fun hm=>?_) fun hm=>?_
              ·refine gX ?_
               refine br hm (fun hm=>?_) fun hm=>?_
               ·refine gX ?_
                refine⟨_,lookupK (ek:=encLnZ) (ev:=Value.bool) (m:=v60) (k:=(⟨x68,(Int.negSucc 0)⟩:LnZ)) (z:=false) rfl rfl rfl (by kernel_rfl) (by kernel_rfl) (sameLnZ rfl) (O.at (.tail _ (.tail _ (.tail _ (.tail _ (.tail _ (.head _))))))) rfl rfl,?_⟩;refine gH ?_
                exact jx (!((mget v60 (⟨x68,(Int.negSucc 0)⟩:LnZ)).getD false)) hm ⟨ha62,(O.sel [1,2,3,4,5] (by decide))⟩
               ·refine gX ?_
                exact jx false hm ⟨ha62,(O.sel [1,2,3,4,5] (by decide))⟩
              ·refine gX ?_
               refine bf ?_;refine gH ?_
               exact jx false hm ⟨ha62,(O.sel [1,2,3,4,5] (by decide))⟩
             ·clear hm;rintro v72 base h hm ⟨ha73,O⟩
              refine gX ?_
              refine br hm (fun hm=>?_) fun hm=>?_
              ·refine gX ?_
               refine O.mapSet (ek:=encLnZ) (ev:=Value.bool) (m:=v60) (k:=(⟨x68,(Int.negSucc 0)⟩:LnZ)) (v:=true) (.tail _ (.tail _ (.tail _ (.tail _ (.head _))))) rfl rfl (by kernel_rfl) (sameLnZ rfl) rfl rfl rfl fun h O=>?_;refine gX ?_
               exact jx ((mset v60 (⟨x68,(Int.negSucc 0)⟩:LnZ) true),true) hm ⟨ha73,O⟩
              ·refine gX ?_
               exact jx (v60,v61) hm ⟨ha73,O⟩
           ·clear hm;rintro⟨v54,v55⟩ base h hm ⟨ha56,O⟩
            refine gX ?_
            refine aAdd hm fun hm=>?_;refine gH ?_
            exact jx (v54,v55,(v50+1)) hm ⟨ha56,O⟩
          ·refine gX ?_
           exact jx (v48,v49) hm ⟨ha51,O⟩
         ·clear hm;rintro⟨v44,v45⟩ base h hm ⟨ha46,O⟩
          refine gX ?_
          refine aAdd hm fun hm=>?_;refine gH ?_
          exact jx (v44,v45,(v41+1)) hm ⟨ha46,O⟩
        ·refine gX ?_
         exact jx (v39,v40) hm ⟨ha42,O⟩
       ·refine gX ?_
        exact jx v35 hm ⟨ha37,O⟩
      ·clear hm;rintro v32 base h hm ⟨ha33,O⟩
       conv=>whnf
       apply Cs;conv=>whnf
       apply Cs;refine gH ?_
       refine jn (σ:=Nat×Option Nat) hm 240 [] (fun s=>s.1) (fun (v76,a75) h=>(a75=none->r17.1=[])/\Own vars h0 [(a75,.cells (flatC (r17.1.map encLnZ)) false)] h) (fun (v76,a75)=>[(11,(clipV a75 (r17.1.map encLnZ))),(25,(i64 v76))]) (fun hm=>?_) ?_
       ·refine gX ?_
        refine lw 240 [7,8,14,16,17] (σ:=(Nat×Nat)×Option Nat) (fun s=>s.1) (fun ((v80,v81),a79) h=>(a79=none->r17.1=[])/\Own vars h0 [((some g4),.cells [((encL 4 encNode) r3.nodes),((encL 1 Value.string) r3.names),((encL 3 encMem) r3.mems),((encL 1 i64) r3.outs)] false),((some g7),.cells [((encL 1 n8) r6.inp),((encL 1 n8) r6.state)] false),(a79,.cells (flatC (r17.1.map encLnZ)) false),((some g25),.cells [((encL 4 encNode) r3.nodes),((encL 1 Value.string) r3.names),((encL 3 encMem) r3.mems),((encL 1 i64) ([p2]:(List Nat)))] false),((some g30),.map (encM encLnZ Value.bool v32))] h) (fun ((v80,v81),a79)=>[(11,(clipV a79 (r17.1.map encLnZ))),(25,(i64 v80)),(26,(i64 v81))]) ((0,0),a18) hm ⟨ha33,O⟩ ?_
        clear hm;rintro⟨⟨v80,v81⟩,a79⟩ nx83 base h hm ⟨ha82,O⟩
        refine gX ?_
        refine br hm (fun hm=>?_) fun hm=>?_
        ·apply Cs;conv=>whnf
         refine jn (σ:=Nat×Option Nat) hm 240 [7,8,14,16,17,26] (fun s=>s.1) (fun (v85,a84) h=>(a84=none->r17.1=[])/\Own vars h0 [((some g4),.cells [((encL 4 encNode) r3.nodes),((encL 1 Value.string) r3.names),((encL 3 encMem) r3.mems),((encL 1 i64) r3.outs)] false),((some g7),.cells [((encL 1 n8) r6.inp),((encL 1 n8) r6.state)] false),(a84,.cells (flatC (r17.1.map encLnZ)) false),((some g25),.cells [((encL 4 encNode) r3.nodes),((encL 1 Value.string) r3.names),((encL 3 encMem) r3.mems),((encL 1 i64) ([p2]:(List Nat)))] false),((some g30),.map (encM encLnZ Value.bool v32))] h) (fun (v85,a84)=>[(11,(clipV a84 (r17.1.map encLnZ))),(25,(i64 v85))]) (fun hm=>?_) ?_
         ·refine gX ?_
          refine lw 240 [7,8,14,16,17,26] (σ:=(Nat×Int)×Option Nat) (fun s=>s.1) (fun ((v89,v90),a88) h=>(a88=none->r17.1=[])/\Own vars h0 [((some g4),.cells [((encL 4 encNode) r3.nodes),((encL 1 Value.string) r3.names),((encL 3 encMem) r3.mems),((encL 1 i64) r3.outs)] false),((some g7),.cells [((encL 1 n8) r6.inp),((encL 1 n8) r6.state)] false),(a88,.cells (flatC (r17.1.map encLnZ)) false),((some g25),.cells [((encL 4 encNode) r3.nodes),((encL 1 Value.string) r3.names),((encL 3 encMem) r3.mems),((encL 1 i64) ([p2]:(List Nat)))] false),((some g30),.map (encM encLnZ Value.bool v32))] h) (fun ((v89,v90),a88)=>[(11,(clipV a88 (r17.1.map encLnZ))),(25,(i64 v89)),(27,(z64 v90))]) ((v80,(Int.negSucc 0)),a79) hm ⟨ha82,O⟩ ?_
          clear hm;rintro⟨⟨v89,v90⟩,a88⟩ nx92 base h hm ⟨ha91,O⟩
          refine gX ?_
          refine atF hm fun x93 hx93 hm=>?_;refine gX ?_
          refine br hm (fun hm=>?_) fun hm=>?_
          ·apply Cs;conv=>whnf
           refine jn (σ:=Nat×Option Nat) hm 240 [7,8,14,16,17,26,27] (fun s=>s.1) (fun (v95,a94) h=>(a94=none->r17.1=[])/\Own vars h0 [((some g4),.cells [((encL 4 encNode) r3.nodes),((encL 1 Value.string) r3.names),((encL 3 encMem) r3.mems),((encL 1 i64) r3.outs)] false),((some g7),.cells [((encL 1 n8) r6.inp),((encL 1 n8) r6.state)] false),(a94,.cells (flatC (r17.1.map encLnZ)) false),((some g25),.cells [((encL 4 encNode) r3.nodes),((encL 1 Value.string) r3.names),((encL 3 encMem) r3.mems),((encL 1 i64) ([p2]:(List Nat)))] false),((some g30),.map (encM encLnZ Value.bool v32))] h) (fun (v95,a94)=>[(11,(clipV a94 (r17.1.map encLnZ))),(25,(i64 v95))]) (fun hm=>?_) ?_
           ·refine gX ?_
            (first|refine O.new (anew_alloc (l:=[(i64 0),(i64 0)]) rfl rfl rfl) fun g98 h O=>?_|refine O.newX (anew_alloc (l:=[(i64 0),(i64 0)]) rfl rfl rfl) fun g98 h O=>?_);refine gH ?_
            refine O.stC 2 (.head _) [(i64 v81),(z64 v90)] fun h O=>?_;refine gX ?_
            refine ldA (O.at (.head _)) ?_;refine gH ?_
            refine⟨_,lookupK (ek:=encLnZ) (ev:=Value.bool) (m:=v32) (k:=(⟨v81,v90⟩:LnZ)) (z:=false) rfl rfl rfl (by kernel_rfl) (by kernel_rfl) (sameLnZ rfl) (O.at (.tail _ (.tail _ (.tail _ (.tail _ (.tail _ (.head _))))))) rfl rfl,?_⟩;refine gX ?_
            refine br hm (fun hm=>?_) fun hm=>?_
            ·refine gX ?_
             exact jx (v89,a88) hm ⟨ha91,(O.sel [1,2,3,4,5] (by decide))⟩
            ·refine gX ?_
             refine ldA (O.at (.tail _ (.tail _ (.tail _ (.tail _ (.head _)))))) ?_;refine gH ?_
             first|refine⟨.inr (.inr (loadAggK rfl (O.at (.tail _ (.tail _ (.tail _ (.tail _ (.head _)))))) rfl rfl (lbE rfl) rfl)),?_⟩|refine⟨.inr (.inl (by kernel_rfl)),?_⟩
             refine gX ?_
             refine ldA (O.at (.head _)) ?_;refine gH ?_
             first|refine⟨.inr (.inr (loadAggK rfl (O.at (.head _)) rfl rfl (lbE rfl) rfl)),?_⟩|refine⟨.inr (.inl (by kernel_rfl)),?_⟩
             refine gX ?_
             refine ldA (O.at (.tail _ (.head _))) ?_;refine gH ?_
             first|refine⟨.inr (.inr (loadAggK rfl (O.at (.tail _ (.head _))) rfl rfl (lbE rfl) rfl)),?_⟩|refine⟨.inr (.inl (by kernel_rfl)),?_⟩
             refine gX ?_
             refine ldA (O.at (.head _)) ?_;refine gH ?_
             first|refine⟨.inr (.inr (loadAggK rfl (O.at (.head _)) rfl rfl (lbE rfl) rfl)),?_⟩|refine⟨.inr (.inl (by kernel_rfl)),?_⟩
             refine gX ?_
             refine ca (probecardlaw17_net_walk hm O.has) fun r100 hm=>?_;refine gH ?_
             (first|refine⟨.inr (.inr (loadK rfl (O.at (.head _)) rfl rfl)),?_⟩|refine⟨.inr (.inr (loadK rfl (O.at (.tail _ (.head _))) rfl rfl)),?_⟩|refine⟨.inr (.inr (loadK rfl (O.at (.tail _ (.tail _ (.head _)))) rfl rfl)),?_⟩|refine⟨.inr (.inr (loadK rfl (O.at (.tail _ (.tail _ (.tail _ (.head _))))) rfl rfl)),?_⟩|refine⟨.inr (.inr (loadK rfl (O.at (.tail _ (.tail _ (.tail _ (.tail _ (.head _)))))) rfl rfl)),?_⟩|refine⟨.inr (.inr (loadK rfl (O.at (.tail _ (.tail _ (.tail _ (.tail _ (.tail _ (.head _))))))) rfl rfl)),?_⟩|refine⟨.inr (.inr (loadK rfl (O.at (.tail _ (.tail _ (.tail _ (.tail _ (.tail _ (.tail _ (.head _)))))))) rfl rfl)),?_⟩|refine⟨.inl (Ext.refl _),?_⟩|refine⟨.inr (.inr rfl),?_⟩|refine⟨.inr (by kernel_rfl),?_⟩|refine⟨.inl (by kernel_rfl),?_⟩|refine id ?_);refine gH ?_
             refine atF hm fun x101 hx101 hm=>?_;refine gH ?_
             refine ca (logic_Not_walk hm O.has) fun r102 hm=>?_;refine gH ?_
             (first|refine⟨.inr (.inr (loadK rfl (O.at (.head _)) rfl rfl)),?_⟩|refine⟨.inr (.inr (loadK rfl (O.at (.tail _ (.head _))) rfl rfl)),?_⟩|refine⟨.inr (.inr (loadK rfl (O.at (.tail _ (.tail _ (.head _)))) rfl rfl)),?_⟩|refine⟨.inr (.inr (loadK rfl (O.at (.tail _ (.tail _ (.tail _ (.head _))))) rfl rfl)),?_⟩|refine⟨.inr (.inr (loadK rfl (O.at (.tail _ (.tail _ (.tail _ (.tail _ (.head _)))))) rfl rfl)),?_⟩|refine⟨.inr (.inr (loadK rfl (O.at (.tail _ (.tail _ (.tail _ (.tail _ (.tail _ (.head _))))))) rfl rfl)),?_⟩|refine⟨.inr (.inr (loadK rfl (O.at (.tail _ (.tail _ (.tail _ (.tail _ (.tail _ (.tail _ (.head _)))))))) rfl rfl)),?_⟩|refine⟨.inl (Ext.refl _),?_⟩|refine⟨.inr (.inr rfl),?_⟩|refine⟨.inr (by kernel_rfl),?_⟩|refine⟨.inl (by kernel_rfl),?_⟩|refine id ?_);refine gH ?_
             refine ldA (O.at (.tail _ (.tail _ (.head _)))) ?_;refine gH ?_
             first|refine⟨.inr (.inr (loadAggK rfl (O.at (.tail _ (.tail _ (.head _)))) rfl rfl (lbE rfl) rfl)),?_⟩|refine⟨.inr (.inl (by kernel_rfl)),?_⟩
             refine gX ?_
             refine ca (inject_Detects_walk hm O.has) fun r103 hm=>?_;refine gH ?_
             (first|refine⟨.inr (.inr (loadK rfl (O.at (.head _)) rfl rfl)),?_⟩|refine⟨.inr (.inr (loadK rfl (O.at (.tail _ (.head _))) rfl rfl)),?_⟩|refine⟨.inr (.inr (loadK rfl (O.at (.tail _ (.tail _ (.head _)))) rfl rfl)),?_⟩|refine⟨.inr (.inr (loadK rfl (O.at (.tail _ (.tail _ (.tail _ (.head _))))) rfl rfl)),?_⟩|refine⟨.inr (.inr (loadK rfl (O.at (.tail _ (.tail _ (.tail _ (.tail _ (.head _)))))) rfl rfl)),?_⟩|refine⟨.inr (.inr (loadK rfl (O.at (.tail _ (.tail _ (.tail _ (.tail _ (.tail _ (.head _))))))) rfl rfl)),?_⟩|refine⟨.inr (.inr (loadK rfl (O.at (.tail _ (.tail _ (.tail _ (.tail _ (.tail _ (.tail _ (.head _)))))))) rfl rfl)),?_⟩|refine⟨.inl (Ext.refl _),?_⟩|refine⟨.inr (.inr rfl),?_⟩|refine⟨.inr (by kernel_rfl),?_⟩|refine⟨.inl (by kernel_rfl),?_⟩|refine id ?_);refine gH ?_
             refine gX ?_
             refine br hm (fun hm=>?_) fun hm=>?_
             ·refine gX ?_
              exact fe hm O
             ·refine gX ?_
              refine br hm (fun hm=>?_) fun hm=>?_
              ·apply Cs;conv=>whnf
               refine jn (σ:=Bool×Option Nat) hm 240 [7,8,14,16,17,25,26,27] (fun s=>s.1) (fun (v105,a104) h=>(a104=none->r17.1=[])/\Own vars h0 [((some g4),.cells [((encL 4 encNode) r3.nodes),((encL 1 Value.string) r3.names),((encL 3 encMem) r3.mems),((encL 1 i64) r3.outs)] false),((some g7),.cells [((encL 1 n8) r6.inp),((encL 1 n8) r6.state)] false),(a104,.cells (flatC (r17.1.map encLnZ)) false),((some g25),.cells [((encL 4 encNode) r3.nodes),((encL 1 Value.string) r3.names),((encL 3 encMem) r3.mems),((encL 1 i64) ([p2]:(List Nat)))] false),((some g30),.map (encM encLnZ Value.bool v32))] h) (fun (v105,a104)=>[(11,(clipV a104 (r17.1.map encLnZ))),(230,(.bool v105))]) (fun hm=>?_) ?_
               ·refine gX ?_
                refine br hm (fun hm=>?_) fun hm=>?_
                ·refine gX ?_
                 exact jx (true,a88) hm ⟨ha91,(O.sel [1,2,3,4,5] (by decide))⟩
                ·refine gX ?_
                 obtain⟨x108,hx108,hm⟩:=hm
                 have h9:=hm
                 obtain⟨g109,rfl⟩:=addr_some ha91 hx108
                 replace hm:=h9
                 refine indexK (s:=2) (j:=v89) rfl rfl rfl rfl (by rw[List.length_map];exact lt_of_get hx108) ?_;refine gH ?_
                 refine⟨_,loadAggK (l:=cl (encLnZ x108)) rfl (O.at (.tail _ (.tail _ (.tail _ (.head _))))) rfl rfl (el_le (enc:=encLnZ) (s:=2) (k:=0) (fun _=>rfl) (lt_of_get hx108) (Nat.le_refl _)) (el_map (enc:=encLnZ) (s:=2) (fun _=>rfl) hx108),?_⟩;refine gH ?_
                 first|refine⟨.inr (.inr (loadAggK (l:=cl (encLnZ x108)) rfl (O.at (.tail _ (.tail _ (.tail _ (.head _))))) rfl rfl (el_le (enc:=encLnZ) (s:=2) (k:=0) (fun _=>rfl) (lt_of_get hx108) (Nat.le_refl _)) (el_map (enc:=encLnZ) (s:=2) (fun _=>rfl) hx108))),?_⟩|refine⟨.inr (.inl (by kernel_rfl)),?_⟩
                 refine gX ?_
                 refine ldA (O.at (.head _)) ?_;refine gH ?_
                 first|refine⟨.inr (.inr (loadAggK rfl (O.at (.head _)) rfl rfl (lbE rfl) rfl)),?_⟩|refine⟨.inr (.inl (by kernel_rfl)),?_⟩
                 refine gX ?_
                 refine⟨.bool (!((eqN x108.node v81)&&((eqZ x108.pin v90)&&true))),by kernel_rfl,?_⟩;refine gH ?_
                 exact jx ((!((eqN x108.node v81)&&((eqZ x108.pin v90)&&true))),(some g109)) hm ⟨someNone,(O.sel [1,2,3,4,5] (by decide))⟩
               ·clear hm;rintro⟨v105,a104⟩ base h hm ⟨ha106,O⟩
                refine gX ?_
                refine br hm (fun hm=>?_) fun hm=>?_
                ·refine gX ?_
                 exact fe hm O
                ·refine gX ?_
                 refine aAdd hm fun hm=>?_;refine gH ?_
                 exact jx ((v89+1),a104) hm ⟨ha106,O⟩
              ·refine gX ?_
               exact jx (v89,a88) hm ⟨ha91,(O.sel [1,2,3,4,5] (by decide))⟩
           ·clear hm;rintro⟨v95,a94⟩ base h hm ⟨ha96,O⟩
            refine gX ?_
            refine⟨_,addZK (a:=v90) (b:=(Int.ofNat 1)) rfl rfl hm.1 hm.2.1,?_⟩;refine gH ?_
            replace hm:=hm.2.2
            exact jx ((v95,(v90+(Int.ofNat 1))),a94) hm ⟨ha96,O⟩
          ·refine gX ?_
           exact jx (v89,a88) hm ⟨ha91,O⟩
         ·clear hm;rintro⟨v85,a84⟩ base h hm ⟨ha86,O⟩
          refine gX ?_
          refine aAdd hm fun hm=>?_;refine gH ?_
          exact jx ((v85,(v81+1)),a84) hm ⟨ha86,O⟩
        ·refine gX ?_
         exact jx (v80,a79) hm ⟨ha82,(O.sel [2] (by decide))⟩
       ·clear hm;rintro⟨v76,a75⟩ base h hm ⟨ha77,O⟩
        refine gX ?_
        refine br hm (fun hm=>?_) fun hm=>?_
        ·refine gX ?_
         refine ca (probecardlaw17_lives_walk hm O.has) fun r110 hm=>?_;refine gX ?_
         exact fe hm O
        ·refine gX ?_
         exact fe hm O
theorem containsI_vc {l:List Nat}{x:Nat}{K:Bool->Prop} (hl:l.length<2 ^ 60) (h:K (l.contains x)):sl_ContainsI_wp l x K:=by
 unfold sl_ContainsI_wp sl_IndexI_wp
 have hc:l.contains x=l.any fun v=>x==v:=by rw[List.contains_eq_any_beq]
 rw[hc] at h
 refine find_vc (l:=l) (p:=fun v=>x==v) (K:=fun r=>K (!ltI r (Int.ofNat 0))) hl ?_ ?_ (fun i e=>?_) (fun e=>?_)
 ·intro k i nx y hy a b
  exact⟨fun _=>⟨y,hy,fun e=>a (by simpa using eq_t.1 e),fun e=>b (by simpa using eq_f.1 e)⟩,fun e=>absurd (lt_of_get hy) (by have:=lt_f.1 e;omega)⟩
 ·intro k i nx hi hk
  exact⟨fun e=>absurd (lt_t.1 e) (by omega),fun _=>hk⟩
 ·rw[nonneg_t]
  rw[any_find.1 i e] at h;exact h
 ·rw[any_find.2 e] at h;exact h
theorem takeG {α:Type}{l:List α}{i:Nat}{x:α} (h:l[i]?=some x):l.take (i+1)=l.take i++[x]:=by
 obtain⟨h1,rfl⟩:=List.getElem?_eq_some_iff.1 h
 exact List.take_succ_eq_append_getElem h1
theorem fan_mem {c:Circ}{m k j:Nat}:(⟨k,j⟩:Ln)∈fanOf c m↔(insOf c k)[j]?=some m:=by
 unfold fanOf
 rw[List.mem_flatMap]
 constructor
 ·rintro⟨⟨y,i⟩,h1,h2⟩
  have h1:=List.mem_zipIdx_iff_getElem?.1 h1
  unfold fanNode at h2
  obtain⟨⟨a,b⟩,h3,h4⟩:=List.mem_map.1 h2
  obtain⟨h5,h6⟩:=List.mem_filter.1 h3
  have h7:=List.mem_zipIdx_iff_getElem?.1 h5
  clear h5
  dsimp only at h1 h4 h7 h6
  cases h4
  have h6:a=m:=by simpa using h6
  subst h6
  rw[insOf_eq h1]
  exact h7
 ·intro h
  obtain⟨x,hx,hj⟩:=insOf_node h
  refine⟨⟨x,k⟩,List.mem_zipIdx_iff_getElem?.2 hx,?_⟩
  unfold fanNode
  exact List.mem_map.2 ⟨⟨m,j⟩,List.mem_filter.2 ⟨List.mem_zipIdx_iff_getElem?.2 hj,by simp⟩,rfl⟩
theorem fan_nodup (c:Circ) (m:Nat):(fanOf c m).Nodup:=by
 unfold fanOf
 refine List.pairwise_flatMap.2 ⟨fun p _=>?_,?_⟩
 ·unfold fanNode
  refine List.pairwise_map.2 (List.Pairwise.filter _ ?_)
  refine List.pairwise_iff_getElem.2 fun i j h1 h2 h3=>?_
  simp only[List.getElem_zipIdx]
  intro e
  have:=congrArg Ln.pin e
  simp only at this
  omega
 ·refine List.pairwise_iff_getElem.2 fun i j h1 h2 h3=>?_
  simp only[List.getElem_zipIdx]
  intro x hx y hy e
  unfold fanNode at hx hy
  obtain⟨a,_,rfl⟩:=List.mem_map.1 hx
  obtain⟨b,_,rfl⟩:=List.mem_map.1 hy
  have:=congrArg Ln.node e
  simp only at this
  omega
def manyN (c:Circ) (m:Nat):Nat:=(fanOf c m).length+c.outs.count m
def manyL (c:Circ):List Nat:=(List.range c.nodes.length).map (manyN c)
theorem one_of {c:Circ}{m k j:Nat} (h:manyN c m=1) (hp:(insOf c k)[j]?=some m):One c m k j:=by
 have hm:=fan_mem.2 hp
 have hl:=List.length_pos_of_mem hm
 unfold manyN at h
 refine⟨hp,fun k' j' hp'=>?_,fun ho=>?_⟩
 ·obtain⟨a,ha⟩:=List.length_eq_one_iff.1 (show (fanOf c m).length=1 by omega)
  have h1:=fan_mem.2 hp'
  rw[ha,List.mem_singleton] at hm h1
  rw[<- hm] at h1
  exact⟨congrArg Ln.node h1,congrArg Ln.pin h1⟩
 ·have:=List.count_pos_iff.2 ho
  omega
theorem many_zero {c:Circ}{m:Nat} (h:manyN c m=0):(∀ k j:Nat,(insOf c k)[j]?≠some m)/\m ∉ c.outs:=by
 unfold manyN at h
 refine⟨fun k j q=>?_,fun q=>?_⟩
 ·have:=List.length_pos_of_mem (fan_mem.2 q);omega
 ·have:=List.count_pos_iff.2 q;omega
theorem fanZ_get {c:Circ}{x:Nat} (h:x<c.nodes.length):(fanZ c)[x]?=some ((fanOf c x).map Ln.toZ):=by
 unfold fanZ
 rw[List.getElem?_map,fanL_get h]
 rfl
theorem fanZ_len (c:Circ):(fanZ c).length=c.nodes.length:=by unfold fanZ fanL;simp
theorem manyL_get {c:Circ}{x:Nat} (h:x<c.nodes.length):(manyL c)[x]?=some (manyN c x):=by
 unfold manyL
 rw[List.getElem?_map,List.getElem?_range h]
 rfl
theorem ext_getD {l m:List Nat} (h1:l.length=m.length) (h:∀ i,i<l.length->l.getD i 0=m.getD i 0):l=m:=by
 refine List.ext_getElem h1 fun i a b=>?_
 have:=h i a
 rw[List.getD,List.getElem?_eq_getElem a,List.getD,List.getElem?_eq_getElem b] at this
 exact this
theorem loads_wp_vc {c:Circ} (C:Cir c) {K:List (List LnZ)×List Nat->Prop} (h:K (fanZ c,manyL c)):traces_loads_wp c K:=by
 have hlen:=C.len
 have hol:=C.good.outsLen
 unfold traces_loads_wp
 refine⟨C.good.fanOk,by omega,by omega,?_⟩
 refine joinLoop (fun s=>s.2<=c.nodes.length/\s.1.length=c.nodes.length/\∀ i,i<s.2->s.1.getD i 0=(fanOf c i).length) (fun s=>c.nodes.length-s.2) (fun t=>t.length=c.nodes.length/\∀ i,i<c.nodes.length->t.getD i 0=(fanOf c i).length) ?_ ⟨Nat.zero_le _,by simp,fun i hi=>absurd hi (Nat.not_lt_zero _)⟩ ?_
 ·rintro k ⟨t,i⟩ nx ⟨hi,hl,hv⟩ hnx hk
  dsimp only at hi hl hv
  refine⟨fun q=>?_,fun q=>hk _ ⟨hl,fun i' hi'=>hv i' ?_⟩⟩
  ·have q:i<c.nodes.length:=by have:=lt_t.1 q;rwa [fanZ_len] at this
   refine⟨_,fanZ_get q,q,_,getN hl q,by omega,hnx _ ⟨q,by simp[hl],fun i' hi'=>?_⟩ (by dsimp only;omega)⟩
   dsimp only
   rw[getD_set (by omega)]
   by_cases e:i=i'
   ·subst e;rw[if_pos rfl,List.length_map]
   ·rw[if_neg e];exact hv i' (by dsimp only at hi';omega)
  ·have q:c.nodes.length<=i:=by have:=lt_f.1 q;rwa [fanZ_len] at this
   omega
 rintro t ⟨hl,hv⟩
 refine joinLoop (fun s=>s.2<=c.outs.length/\s.1.length=c.nodes.length/\∀ i,i<c.nodes.length->s.1.getD i 0=(fanOf c i).length+(c.outs.take s.2).count i) (fun s=>c.outs.length-s.2) (fun t=>t=manyL c) ?_ ⟨Nat.zero_le _,hl,fun i hi=>by simpa using hv i hi⟩ ?_
 ·rintro k ⟨t,i⟩ nx ⟨hi,hl,hv⟩ hnx hk
  dsimp only at hi hl hv
  refine⟨fun q=>?_,fun q=>hk _ ?_⟩
  ·have q:i<c.outs.length:=lt_t.1 q
   obtain⟨o,ho⟩:=get_lt q
   have hon:o<c.nodes.length:=C.good.outs o (List.mem_of_getElem? ho)
   have b1:(fanOf c o).length<=1000:=fan_len C.good hon
   have b2:(c.outs.take i).count o<=16:=Nat.le_trans List.count_le_length (by rw[List.length_take];omega)
   have:=hv o hon
   refine⟨o,ho,hon,_,getN hl hon,by omega,hon,_,getN hl hon,by omega,hnx _ ⟨q,by simp[hl],fun i' hi'=>?_⟩ (by dsimp only;omega)⟩
   dsimp only
   rw[getD_set (by omega),takeG ho,List.count_append,List.count_singleton]
   by_cases e:o=i'
   ·subst e;rw[if_pos rfl,this];simp;omega
   ·rw[if_neg e,hv i' hi'];simp[e]
  ·have q:c.outs.length<=i:=lt_f.1 q
   refine ext_getD (by unfold manyL;simp[hl]) fun i' hi'=>?_
   rw[List.take_of_length_le q] at hv
   rw[hl] at hi'
   rw[hv i' hi',List.getD,manyL_get hi']
   rfl
 ·rintro _ rfl
  exact⟨by unfold manyL;simp,h⟩
def rowL (c:Circ) (i:Nat):List LnZ:=(List.range ((insOf c i).length+1)).map fun j=>⟨i,Int.ofNat j-Int.ofNat 1⟩
def linesTo (c:Circ) (i:Nat):List LnZ:=(List.range i).flatMap (rowL c)
def linesN (c:Circ):List LnZ:=linesTo c c.nodes.length
theorem linesTo_succ (c:Circ) (i:Nat):linesTo c (i+1)=linesTo c i++rowL c i:=by
 unfold linesTo
 rw[List.range_succ,List.flatMap_append]
 simp
theorem linesTo_len {c:Circ} (C:Cir c):∀ i,i<=c.nodes.length->(linesTo c i).length<=i*17
 |0,_=>by unfold linesTo;simp
 |i+1,h=>by
  have:=linesTo_len C i (by omega)
  obtain⟨x,hx⟩:=get_lt (show i<c.nodes.length from h)
  have:=(C.good.node i x hx).few
  rw[linesTo_succ,List.length_append]
  unfold rowL
  rw[List.length_map,List.length_range,insOf_eq hx]
  omega
theorem lines_vc {c:Circ} (C:Cir c) {K:List LnZ×Nat->Prop} (h:K (linesN c,0)):faults_Lines_wp c K:=by
 have hlen:=C.len
 unfold faults_Lines_wp
 refine valid_vc C ⟨(fun q=>absurd rfl (ne_t.1 q)),fun _=>?_⟩
 refine joinLoop (fun s=>s.2<=c.nodes.length/\s.1=linesTo c s.2) (fun s=>c.nodes.length-s.2) (fun l=>l=linesN c) ?_ ⟨Nat.zero_le _,rfl⟩ (fun _ e=>e ▸ h)
 rintro k ⟨l,i⟩ nx ⟨hi,hl⟩ hnx hk
 dsimp only at hi hl
 refine⟨fun q=>?_,fun q=>hk _ ?_⟩
 ·have q:i<c.nodes.length:=lt_t.1 q
  obtain⟨x,hx⟩:=get_lt q
  have hfew:=(C.good.node i x hx).few
  have hll:=linesTo_len C i hi
  refine joinP (fun r=>r=linesTo c (i+1)) (fun k2 hk2=>⟨x,hx,by omega,?_⟩) ?_
  ·refine loopW_intro (fun s=>s.2<=x.ins.length+1/\s.1=linesTo c i++(rowL c i).take s.2) (fun s=>x.ins.length+1-s.2) ?_ ⟨Nat.zero_le _,by simp[hl]⟩
   rintro⟨l,j⟩ nx ⟨hj,hl⟩ hnx
   dsimp only at hj hl
   refine⟨fun q=>?_,fun q=>hk2 _ ?_⟩
   ·have q:j<x.ins.length+1:=lt_t.1 q
    have hg:(rowL c i)[j]?=some ⟨i,Int.ofNat j-Int.ofNat 1⟩:=by
     unfold rowL
     rw[List.getElem?_map,insOf_eq hx,List.getElem?_range q]
     rfl
    have hb:((rowL c i).take j).length<=17:=by
     rw[List.length_take];omega
    refine⟨by simp only[Int.ofNat_eq_natCast];omega,by simp only[Int.ofNat_eq_natCast];omega,?_,by omega,hnx _ ⟨q,?_⟩ (by dsimp only;omega)⟩
    ·rw[hl,List.length_append,List.length_singleton];omega
    ·dsimp only
     rw[hl,List.append_assoc,takeG hg]
   ·have q:x.ins.length+1<=j:=lt_f.1 q
    rw[hl,linesTo_succ,List.take_of_length_le]
    unfold rowL
    rw[List.length_map,List.length_range,insOf_eq hx]
    exact q
  ·rintro _ rfl
   exact⟨by omega,hnx _ ⟨q,rfl⟩ (by dsimp only;omega)⟩
 ·have q:c.nodes.length<=i:=lt_f.1 q
  have e:i=c.nodes.length:=by omega
  subst e
  exact hl
structure Plz (c:Circ):Prop where
 cir:Cir c
 kinds:∀ (i:Nat) (x:Node),c.nodes[i]?=some x->x.kind≠12/\x.kind≠13
structure Full (c:Circ) (p:Pat):Prop where
 pat:PatOk c p
 inp:∀ v∈p.inp,v<=1
 state:∀ v∈p.state,v<=1
theorem tplain_vc {c:Circ} (P:Plz c) {K:Nat->Prop} (h:K 0):traces_plain_wp c K:=by
 have C:=P.cir
 have hlen:=C.len
 unfold traces_plain_wp
 refine lines_vc C ⟨(fun q=>absurd rfl (ne_t.1 q)),fun _=>of_vc (by omega) (by decide) ⟨fun q=>?_,fun _=>h⟩⟩
 have:ofN c [12,13]=[]:=by
  refine List.eq_nil_iff_forall_not_mem.2 fun i m=>?_
  unfold ofN at m
  obtain⟨h1,h2⟩:=List.mem_filter.1 m
  have h1:=List.mem_range.1 h1
  obtain⟨x,hx⟩:=get_lt h1
  have e:(c.nodes.map Node.kind).getD i 0=x.kind:=kd_eq hx
  rw[e] at h2
  have:=P.kinds i x hx
  simp at h2
  omega
 rw[this] at q
 exact absurd (lt_t.1 q) (Nat.not_lt_zero _)
theorem cfull_vc {l:List Nat}{K:Bool->Prop} (hl:l.length<2 ^ 60) (hv:∀ v∈l,v<=1) (h:K false):cf_tracesFull_wp l K:=by
 unfold cf_tracesFull_wp cf_tracesFullI_wp
 refine search_none (l:=l) ?_ ?_ h
 ·intro k i nx x hx hi hn
  have hv:=hv x (List.mem_of_getElem? hx)
  refine⟨fun _=>⟨x,hx,known_vc ?_⟩,fun q=>?_⟩
  ·rw[decide_eq_true hv]
   exact⟨(fun e=>by cases e),fun _=>⟨by omega,hn⟩⟩
  ·have:=lt_f.1 q;omega
 ·intro k i nx hi hk
  refine⟨fun q=>?_,fun _=>hk⟩
  have:=lt_t.1 q;omega
theorem simsCheck_vc {c:Circ} (C:Cir c) {p:Pat} (hp:PatOk c p) {K:Nat->Prop} (h:K 0):sims_Check_wp c p K:=by
 unfold sims_Check_wp
 exact check_vc C.good ⟨(fun q=>absurd rfl (ne_t.1 q)),fun _=>fits_vc C hp h⟩
theorem tfull_vc {c:Circ} (C:Cir c) {p:Pat} (F:Full c p) {K:Nat->Prop} (h:K 0):traces_full_wp c p K:=by
 have hlen:=C.len
 have l1:=ofN_len c [0]
 have l2:=ofN_len c [14]
 have h1:=F.pat.inp
 have h2:=F.pat.state
 unfold traces_full_wp
 refine simsCheck_vc C F.pat ⟨(fun q=>absurd rfl (ne_t.1 q)),fun _=>?_⟩
 exact joinB' (a:=false) (fun G=>cfull_vc (by omega) F.inp ⟨(fun e=>by cases e),fun _=>cfull_vc (by omega) F.state G⟩) ⟨(fun e=>by cases e),fun _=>h⟩
theorem evalN_bin {k:Nat}{l:List Nat} (hk0:1<=k) (hk:k<12) (h:∀ v∈l,v<=1):evalN k l<=1:=by
 have g:∀ i,l.getD i 0<=1:=by
  intro i
  by_cases q:i<l.length
  ·exact h _ (getD_mem q)
  ·rw[List.getD,List.getElem?_eq_none (by omega)];exact Nat.zero_le _
 have hn:∀ v,v<=1->notN v<=1:=fun v hv=>by unfold notN;split <;> omega
 have hd:∀ (low high:Nat) (l:List Nat),low+high=1->(∀ v∈l,v<=1)->∀ o,o<=1->decN low high l o<=1:=by
  intro low high l hs
  induction l with
  |nil=>intro _ o ho;exact ho
  |cons v r ih =>
   intro hv o ho
   have h1:=hv v (.head _)
   unfold decN
   split
   ·omega
   ·rw[if_pos (by omega)]
    exact ih (fun v m=>hv v (.tail _ m)) o ho
 have hx:∀ (l:List Nat),(∀ v∈l,v<=1)->∀ o,o<=1->xorN l o<=1:=by
  intro l
  induction l with
  |nil=>intro _ o ho;exact ho
  |cons v r ih =>
   intro hv o ho
   have h1:=hv v (.head _)
   unfold xorN
   rw[if_pos h1]
   refine ih (fun v m=>hv v (.tail _ m)) _ ?_
   have q1:o=0\/o=1:=by omega
   have q2:v=0\/v=1:=by omega
   rcases q1 with rfl|rfl <;> rcases q2 with rfl|rfl <;> decide
 have g0:=g 0
 have g1:=g 1
 have g2:=g 2
 unfold evalN
 split;· omega
 split;· omega
 split;· omega
 split;· exact hn _ g0
 split;· exact hd 0 1 l rfl h 1 (by decide)
 split;· exact hn _ (hd 0 1 l rfl h 1 (by decide))
 split;· exact hd 1 0 l rfl h 0 (by decide)
 split;· exact hn _ (hd 1 0 l rfl h 0 (by decide))
 split;· exact hx l h 0 (by decide)
 split;· exact hn _ (hx l h 0 (by decide))
 split
 ·unfold muxN
  repeat' split
  all_goals omega
 ·omega
theorem V_bin {c:Circ} (P:Plz c) {p:Pat} (F:Full c p):∀ i,(valV c p).getD i 0<=1:=by
 have C:=P.cir
 have V:=V_sol C F.pat
 have key:∀ n i,i<n->(valV c p).getD i 0<=1:=by
  intro n
  induction n with
  |zero=>intro i h;omega
  |succ n ih =>
   intro i hi
   by_cases q:i<c.nodes.length
   ·obtain⟨x,hx⟩:=get_lt q
    rw[V.val i x hx]
    unfold idN
    cases hc:combB x.kind with
    |true =>
     rw[comb_base hc]
     have hc':=of_decide_eq_true hc
     have:=P.kinds i x hx
     unfold evalG
     rw[if_neg (by omega),if_neg (by omega)]
     refine evalN_bin hc'.1 (by omega) fun v hv=>?_
     unfold readV idP at hv
     rw[List.mem_mapIdx] at hv
     obtain⟨a,ha,rfl⟩:=hv
     exact ih _ (by have:=ins_lt C hx hc (List.getElem_mem ha);omega)
    |false =>
     rw[noncomb_base hc]
     have k2:∀ (l:List Nat) (j:Nat),(∀ v∈l,v<=1)->l.getD j 0<=1:=by
      intro l j h
      by_cases q:j<l.length
      ·exact h _ (getD_mem q)
      ·rw[List.getD,List.getElem?_eq_none (by omega)];exact Nat.zero_le _
     unfold srcV
     split
     ·exact k2 _ _ F.inp
     split
     ·exact k2 _ _ F.state
     ·omega
   ·rw[List.getD,List.getElem?_eq_none (by rw[V.len];omega)];exact Nat.zero_le _
 exact fun i=>key (i+1) i (by omega)
end Go.Proofs.YtmhbhclfojmjdaaGreatDoor
