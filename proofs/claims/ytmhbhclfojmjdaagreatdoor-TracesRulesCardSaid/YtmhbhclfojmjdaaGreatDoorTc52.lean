/-
  SoN, Ln2, N2, Orz, SrtN, V1, U6, U7, U8, U9: parts of the proof.
-/
import Derived.Test.YtmhbhclfojmjdaaGreatDoorTc51
namespace Go.Proofs.YtmhbhclfojmjdaaGreatDoor
open Go.Abs
set_option maxRecDepth 100000
def renN:Go.Shelf.Ren where
 f n:=match n with
  |6=>57
  |14=>88
  |15=>89
  |20=>107
  |21=>108
  |22=>109
  |23=>110
  |24=>111
  |25=>112
  |26=>113
  |27=>114
  |28=>115
  |29=>116
  |46=>129
  |47=>130
  |48=>131
  |49=>132
  |50=>133
  |57=>140
  |n=>n
 t n:=match n with
  |0=>0
  |3=>3
  |4=>4
  |5=>5
  |22=>40
  |24=>52
  |25=>112
  |39=>82
  |45=>160
  |46=>161
  |50=>165
  |53=>168
  |55=>28
  |66=>176
  |70=>180
  |76=>186
  |77=>97
  |n=>n
 g n:=n
theorem sortN:Go.Proofs.SlLaysF0.n6 Tryz.prog renN where
 mixed:=by kernel_rfl
 f6:=⟨Tryz.f57.name,by kernel_rfl,by kernel_rfl⟩
 f14:=⟨Tryz.f88.name,by kernel_rfl,by kernel_rfl⟩
 f15:=by kernel_rfl
 f20:=⟨Tryz.f107.name,by kernel_rfl,by kernel_rfl⟩
 f21:=⟨Tryz.f108.name,by kernel_rfl,by kernel_rfl⟩
 f22:=⟨Tryz.f109.name,by kernel_rfl,by kernel_rfl⟩
 f23:=⟨Tryz.f110.name,by kernel_rfl,by kernel_rfl⟩
 f24:=⟨Tryz.f111.name,by kernel_rfl,by kernel_rfl⟩
 f25:=⟨Tryz.f112.name,by kernel_rfl,by kernel_rfl⟩
 f26:=⟨Tryz.f113.name,by kernel_rfl,by kernel_rfl⟩
 f27:=⟨Tryz.f114.name,by kernel_rfl,by kernel_rfl⟩
 f28:=by kernel_rfl
 f29:=by kernel_rfl
 f46:=⟨Tryz.f129.name,by kernel_rfl,by kernel_rfl⟩
 f47:=by kernel_rfl
 f48:=by kernel_rfl
 f49:=⟨Tryz.f132.name,by kernel_rfl,by kernel_rfl⟩
 f50:=⟨Tryz.f133.name,by kernel_rfl,by kernel_rfl⟩
 f57:=⟨Tryz.f140.name,by kernel_rfl,by kernel_rfl⟩
 t0:=by kernel_rfl
 a0:=fun w=>by kernel_rfl
 z0:=fun w=>by kernel_rfl
 v0:=fun w=>by kernel_rfl
 t3:=by kernel_rfl
 a3:=fun w=>by kernel_rfl
 z3:=fun w=>by kernel_rfl
 v3:=fun w=>by kernel_rfl
 t4:=by kernel_rfl
 a4:=fun w=>by kernel_rfl
 z4:=fun w=>by kernel_rfl
 v4:=fun w=>by kernel_rfl
 t5:=by kernel_rfl
 a5:=fun w=>by kernel_rfl
 z5:=fun w=>by kernel_rfl
 v5:=fun w=>by kernel_rfl
 t9:=by kernel_rfl
 a9:=fun w=>by kernel_rfl
 z9:=fun w=>by kernel_rfl
 v9:=fun w=>by kernel_rfl
 t22:=by kernel_rfl
 a22:=fun w=>by kernel_rfl
 z22:=fun w=>by kernel_rfl
 v22:=fun w=>by kernel_rfl
 t25:=by kernel_rfl
 a25:=fun w=>by kernel_rfl
 z25:=fun w=>by kernel_rfl
 v25:=fun w=>by kernel_rfl
 t39:=by kernel_rfl
 a39:=fun w=>by kernel_rfl
 z39:=fun w=>by kernel_rfl
 v39:=fun w=>by kernel_rfl
 t45:=by kernel_rfl
 a45:=fun w=>by kernel_rfl
 z45:=fun w=>by kernel_rfl
 v45:=fun w=>by kernel_rfl
 t46:=by kernel_rfl
 a46:=fun w=>by kernel_rfl
 z46:=fun w=>by kernel_rfl
 v46:=fun w=>by kernel_rfl
 t50:=by kernel_rfl
 a50:=fun w=>by kernel_rfl
 z50:=fun w=>by kernel_rfl
 v50:=fun w=>by kernel_rfl
 t53:=by kernel_rfl
 a53:=fun w=>by kernel_rfl
 z53:=fun w=>by kernel_rfl
 v53:=fun w=>by kernel_rfl
 t55:=by kernel_rfl
 a55:=fun w=>by kernel_rfl
 z55:=fun w=>by kernel_rfl
 v55:=fun w=>by kernel_rfl
 t66:=by kernel_rfl
 a66:=fun w=>by kernel_rfl
 z66:=fun w=>by kernel_rfl
 v66:=fun w=>by kernel_rfl
 t70:=by kernel_rfl
 a70:=fun w=>by kernel_rfl
 z70:=fun w=>by kernel_rfl
 v70:=fun w=>by kernel_rfl
 t76:=by kernel_rfl
 a76:=fun w=>by kernel_rfl
 z76:=fun w=>by kernel_rfl
 v76:=fun w=>by kernel_rfl
 t77:=by kernel_rfl
 a77:=fun w=>by kernel_rfl
 z77:=fun w=>by kernel_rfl
 v77:=fun w=>by kernel_rfl
theorem sortN_a:∀ w,(isAgg (renN.t 24)).run Tryz.prog w=.ok true w:=fun w=>by kernel_rfl
theorem sortN_z:∀ w,(Go.sizeOf (renN.t 24)).run Tryz.prog w=.ok 2 w:=fun w=>by kernel_rfl
structure N2 where
 a:Nat
 b:Nat
deriving DecidableEq
structure Rul where
 pin:Nat
 out:Nat
structure Sus where
 fault:Nat
 both:Nat
 missed:Nat
 extra:Nat
deriving DecidableEq
set_option maxHeartbeats 8000000
def cmp_Or_int__wp (p0:(List Int)) (K:Int→Prop):Prop :=
 joinW (α:=Unit) (fun k1=>loopW (S:=Nat) (fun v2 nx3=>((ltN v2 p0.length)=true→∃ x4,p0[v2]?=some x4∧((neZ x4 (Int.ofNat 0))=true→K x4)∧((neZ x4 (Int.ofNat 0))=false→v2+1<2 ^ 63∧nx3 (v2+1)))∧((ltN v2 p0.length)=false→k1 ())) 0) (fun _=>K (Int.ofNat 0))
theorem cmp_Or_int__walk {p0:(List Int)}{K:Int→Prop} (hm:cmp_Or_int__wp p0 K) {h0:Heap} (hB:HasB vars h0):∃ r,K r∧CallD Tryz.prog NG 59 ⟨[(encL 1 z64) p0]⟩ h0 (z64 r) h0:=by
 unfold cmp_Or_int__wp at hm
 refine fw Tryz.func59 hB (enc:=z64) (fun r=>PureV.flat rfl) fun O=>?_;conv=>whnf
 apply Cs;conv=>whnf
 apply Cs;refine gH ?_
 apply Cs;conv=>whnf
 apply Cs;refine gH ?_
 refine jn hm 18 [3] (fun s=>s) (fun _ h=>Own vars h0 [] h) (fun _=>[]) (fun hm=>?_) ?_
 ·refine gX ?_
  refine lw 18 [3,6,7] (σ:=Nat) (fun s=>s) (fun v2 h=>Own vars h0 [] h) (fun v2=>[(8,(i64 v2))]) 0 hm O ?_
  clear hm;rintro v2 nx3 base h hm O
  refine gX ?_
  refine br hm (fun hm=>?_) fun hm=>?_
  ·refine gX ?_
   refine atF hm fun x4 hx4 hm=>?_;refine gX ?_
   refine br hm (fun hm=>?_) fun hm=>?_
   ·refine gX ?_
    exact fe hm O
   ·refine gX ?_
    refine aAdd hm fun hm=>?_;refine gH ?_
    exact jx (v2+1) hm O
  ·refine gX ?_
   exact jx () hm O
 ·clear hm;rintro _ base h hm O
  refine gX ?_
  exact fe hm O
def traces_order_wp (p0:LnZ) (p1:LnZ) (K:Int→Prop):Prop :=
 -(2 ^ 63)≤((Int.ofNat p0.node)-(Int.ofNat p1.node))∧((Int.ofNat p0.node)-(Int.ofNat p1.node))<2 ^ 63 ∧ -(2 ^ 63)≤(p0.pin-p1.pin)∧(p0.pin-p1.pin)<2 ^ 63∧cmp_Or_int__wp ([((Int.ofNat p0.node)-(Int.ofNat p1.node)),(p0.pin-p1.pin)]:(List Int)) (fun r1=>K r1)
theorem traces_order_walk {p0:LnZ}{p1:LnZ}{K:Int→Prop} (hm:traces_order_wp p0 p1 K) {h0:Heap} (hB:HasB vars h0):∃ r,K r∧CallD Tryz.prog NG 58 ⟨[encLnZ p0,encLnZ p1]⟩ h0 (z64 r) h0:=by
 unfold traces_order_wp at hm
 refine fw Tryz.func58 hB (enc:=z64) (fun r=>PureV.flat rfl) fun O=>?_;conv=>whnf
 refine gX ?_
 refine fz ?_;refine gH ?_
 refine fz ?_;refine gX ?_
 refine⟨_,subZK (a:=(Int.ofNat p0.node)) (b:=(Int.ofNat p1.node)) rfl rfl hm.1 hm.2.1,?_⟩;refine gH ?_
 replace hm:=hm.2.2
 refine⟨_,subZK (a:=p0.pin) (b:=p1.pin) rfl rfl hm.1 hm.2.1,?_⟩;refine gH ?_
 replace hm:=hm.2.2
 refine fz ?_;refine gH ?_
 refine ca (cmp_Or_int__walk hm O.has) fun r1 hm=>?_;refine gX ?_
 exact fe hm O
def orZ (a b:Int):Int:=if a≠0 then a else b
theorem nez_t {a b:Int}:neZ a b=true↔a≠b:=by rw[neZ_eq];simp
theorem nez_f {a b:Int}:neZ a b=false↔a=b:=by rw[neZ_eq];simp
theorem or_vc {a b:Int}{K:Int→Prop} (h:K (orZ a b)):cmp_Or_int__wp [a,b] K:=by
 unfold cmp_Or_int__wp
 refine (show loopW _ _ from⟨3,?_⟩)
 unfold orZ at h
 refine⟨fun _=>⟨a,rfl,fun q=>?_,fun q=>⟨by decide,?_⟩⟩,fun q=>absurd (lt_f.1 q) (by simp)⟩
 ·rw[if_pos (show a≠0 from nez_t.1 q)] at h;exact h
 rw[if_neg (fun e:a≠0=>e (nez_f.1 q))] at h
 refine⟨fun _=>⟨b,rfl,fun _=>h,fun q=>⟨by decide,?_⟩⟩,fun q=>absurd (lt_f.1 q) (by simp)⟩
 have e:b=0:=nez_f.1 q
 subst e
 exact⟨fun q=>absurd (lt_t.1 q) (by simp),fun _=>h⟩
theorem orZ_neg {a b:Int}:orZ a b<0↔a<0∨a=0∧b<0:=by
 unfold orZ
 split <;> omega
def lnB (x:LnZ):Prop:=x.node<2 ^ 62 ∧ -(2 ^ 62)≤x.pin∧x.pin<2 ^ 62
def cfLn (x y:LnZ):Int:=orZ (Int.ofNat x.node-Int.ofNat y.node) (x.pin-y.pin)
def lnLe (x y:LnZ):Prop:=¬ cfLn y x<0
theorem order_ln {a b:LnZ} (ha:lnB a) (hb:lnB b) {K:Int→Prop} (h:K (cfLn a b)):traces_order_wp a b K:=by
 obtain⟨a1,a2,a3⟩:=ha
 obtain⟨b1,b2,b3⟩:=hb
 exact⟨by simp only[Int.ofNat_eq_natCast];omega,by simp only[Int.ofNat_eq_natCast];omega,by omega,by omega,or_vc h⟩
theorem cfLn_neg {x y:LnZ}:cfLn x y<0↔x.node<y.node∨x.node=y.node∧x.pin<y.pin:=by
 unfold cfLn;rw[orZ_neg];simp only[Int.ofNat_eq_natCast];omega
theorem lnLe_iff {x y:LnZ}:lnLe x y↔x.node<y.node∨x.node=y.node∧x.pin≤y.pin:=by
 unfold lnLe;rw[cfLn_neg];omega
theorem swoLn:Go.Sort.SWO (Go.Proofs.ltOf fun x y:{x:LnZ // lnB x}=>cfLn x.1 y.1) where
 irrefl x:=by unfold Go.Proofs.ltOf;rw[decide_eq_false_iff_not,cfLn_neg];omega
 trans x y z:=by unfold Go.Proofs.ltOf;simp only[decide_eq_true_eq,cfLn_neg];omega
 ntrans x y z:=by unfold Go.Proofs.ltOf;simp only[decide_eq_false_iff_not,cfLn_neg];omega
theorem sub_map {α:Type}{p:α→Prop}{β:Type} (f:α→β):∀ (l:List α) (h:∀ x∈l,p x),l.map f=(l.attachWith p h).map fun x=>f x.1
 |[],_=>rfl
 |a::l,h=>by
  show f a::l.map f=_::_
  rw[sub_map f l fun x m=>h x (List.mem_cons_of_mem _ m)]
  simp[List.attachWith]
theorem sortLn {h0 h:Heap}{L:List Slot}{la:List LnZ}{f:Slot→List Slot}{a:Option Nat} (O:Own vars h0 L h) (A:At (a,.cells (flatC (la.map encLnZ)) false) L f) (ha:a=none→la=[]) (hsz:la.length<4611686018427387904) (hb:∀ x∈la,lnB x) :
  ∃ (l':List LnZ) (h':Heap),l'.Perm la∧l'.Pairwise lnLe∧CallD Tryz.prog NG 57 ⟨[growV 2 a (la.map encLnZ),.func (.func 58) #[] #[]]⟩ h (.tuple #[]) h'∧Own vars h0 (f (a,.cells (flatC (l'.map encLnZ)) false)) h':=by
 have inh:Inhabited {x:LnZ // lnB x}:=⟨⟨⟨0,0⟩,by unfold lnB;decide⟩⟩
 have e:=sub_map encLnZ la hb
 have e1:(la.attachWith lnB hb).map Subtype.val=la:=by simp
 rw[e] at A ⊢
 obtain⟨l',h',p1,p2,p3,p4⟩:=O.sortG (ρ:=renN) (k:=2) (encC:=fun x:{x:LnZ // lnB x}=>[i64 x.1.node,z64 x.1.pin]) (enc:=fun x:{x:LnZ // lnB x}=>encLnZ x.1) (cf:=fun x y=>cfLn x.1 y.1) sortN sortN_a sortN_z (fun _=>rfl) (fun _=>rfl)
  (fun x v m=>by simp only[List.mem_cons,List.not_mem_nil,or_false] at m;rcases m with rfl|rfl <;> rfl) (fun x v m=>by simp only[List.mem_cons,List.not_mem_nil,or_false] at m;rcases m with rfl|rfl <;> rfl)
  swoLn (by kernel_rfl) (Go.Proofs.enters_of Tryz.func58 (by kernel_rfl) rfl) fzVars
  (fun x y h2 hb=>by obtain⟨r,rfl,c⟩:=traces_order_walk (p0:=x.1) (p1:=y.1) (K:=fun r=>r=cfLn x.1 y.1) (order_ln x.2 y.2 rfl) hb;exact c) A (fun q=>by have e2:=ha q;subst e2;rfl) (by rw[List.length_attachWith];exact hsz)
 refine⟨l'.map Subtype.val,h',?_,?_,p3,?_⟩
 ·have:=p1.map Subtype.val
  rw[e1] at this
  exact this
 ·exact List.pairwise_map.2 p2
 ·rw[List.map_map]
  exact p4
set_option maxHeartbeats 8000000
def sl_IndexI_wp (p0:(List Nat)) (p1:Nat) (K:Int→Prop):Prop :=
 joinW (α:=Unit) (fun k1=>loopW (S:=Nat) (fun v2 nx3=>((ltN v2 p0.length)=true→∃ x4,p0[v2]?=some x4∧((eqN p1 x4)=true→K (Int.ofNat v2))∧((eqN p1 x4)=false→v2+1<2 ^ 63∧nx3 (v2+1)))∧((ltN v2 p0.length)=false→k1 ())) 0) (fun _=>K (Int.negSucc 0))
theorem sl_IndexI_walk {p0:(List Nat)}{p1:Nat}{K:Int→Prop} (hm:sl_IndexI_wp p0 p1 K) {h0:Heap} (hB:HasB vars h0):∃ r,K r∧CallD Tryz.prog NG 90 ⟨[(encL 1 i64) p0,i64 p1]⟩ h0 (z64 r) h0:=by
 unfold sl_IndexI_wp at hm
 refine fw Tryz.func90 hB (enc:=z64) (fun r=>PureV.flat rfl) fun O=>?_;conv=>whnf
 apply Cs;conv=>whnf
 apply Cs;refine gH ?_
 refine jn hm 19 [] (fun s=>s) (fun _ h=>Own vars h0 [] h) (fun _=>[]) (fun hm=>?_) ?_
 ·refine gX ?_
  refine lw 19 [0,1,7] (σ:=Nat) (fun s=>s) (fun v2 h=>Own vars h0 [] h) (fun v2=>[(8,(i64 v2))]) 0 hm O ?_
  clear hm;rintro v2 nx3 base h hm O
  refine gX ?_
  refine br hm (fun hm=>?_) fun hm=>?_
  ·refine gX ?_
   refine atF hm fun x4 hx4 hm=>?_;refine gX ?_
   refine br hm (fun hm=>?_) fun hm=>?_
   ·refine gX ?_
    exact fe hm O
   ·refine gX ?_
    refine aAdd hm fun hm=>?_;refine gH ?_
    exact jx (v2+1) hm O
  ·refine gX ?_
   exact jx () hm O
 ·clear hm;rintro _ base h hm O
  refine gX ?_
  exact fe hm O
def sl_ContainsI_wp (p0:(List Nat)) (p1:Nat) (K:Bool→Prop):Prop :=
 sl_IndexI_wp p0 p1 (fun r1=>K (!ltI r1 (Int.ofNat 0)))
theorem sl_ContainsI_walk {p0:(List Nat)}{p1:Nat}{K:Bool→Prop} (hm:sl_ContainsI_wp p0 p1 K) {h0:Heap} (hB:HasB vars h0):∃ r,K r∧CallD Tryz.prog NG 60 ⟨[(encL 1 i64) p0,i64 p1]⟩ h0 (Value.bool r) h0:=by
 unfold sl_ContainsI_wp at hm
 refine fw Tryz.func60 hB (enc:=Value.bool) (fun r=>PureV.flat rfl) fun O=>?_;conv=>whnf
 refine gX ?_
 refine ca (sl_IndexI_walk hm O.has) fun r1 hm=>?_;refine gX ?_
 exact fe hm O
def traces_loads_wp (p0:Circ) (K:((List (List LnZ))×(List Nat))→Prop):Prop :=
 netlists_FanoutZ_wp p0 (fun r1=>8*p0.nodes.length≤2 ^ 48∧p0.nodes.length<2 ^ 63∧joinW (α:=(List Nat)) (fun k5=>loopW (S:=((List Nat)×Nat)) (fun (v6,v7) nx8=>((ltN v7 r1.length)=true→∃ x9,r1[v7]?=some x9∧v7<p0.nodes.length∧∃ x10,v6[v7]?=some x10∧v7+1<2 ^ 63∧nx8 ((v6.set v7 x9.length),(v7+1)))∧((ltN v7 r1.length)=false→k5 v6)) ((List.replicate p0.nodes.length (0:Nat)),0)) (fun v4=>joinW (α:=(List Nat)) (fun k12=>loopW (S:=((List Nat)×Nat)) (fun (v13,v14) nx15=>((ltN v14 p0.outs.length)=true→∃ x16,p0.outs[v14]?=some x16∧x16<p0.nodes.length∧∃ x17,v13[x16]?=some x17∧x17+1<2 ^ 63∧x16<p0.nodes.length∧∃ x18,v13[x16]?=some x18∧v14+1<2 ^ 63∧nx15 ((v13.set x16 (x17+1)),(v14+1)))∧((ltN v14 p0.outs.length)=false→k12 v13)) (v4,0)) (fun v11=>p0.nodes.length=v11.length∧K (r1,v11))))
theorem traces_loads_walk {p0:Circ}{K:((List (List LnZ))×(List Nat))→Prop} (hm:traces_loads_wp p0 K) {h0:Heap} (hB:HasB vars h0):∃ r,K r∧CallD Tryz.prog NG 48 ⟨[encCirc p0]⟩ h0 ((fun (r:((List (List LnZ))×(List Nat)))=>Value.tuple ⟨[(encL 1 (encL 2 encLnZ)) (r.1),(encL 1 i64) (r.2)]⟩) r) h0:=by
 unfold traces_loads_wp at hm
 refine fw Tryz.func48 hB (enc:=(fun (r:((List (List LnZ))×(List Nat)))=>Value.tuple ⟨[(encL 1 (encL 2 encLnZ)) (r.1),(encL 1 i64) (r.2)]⟩)) (fun r=>PureV.tup (AllPure.cons (pureL (fun _=>AllPure.cons (pureL (fun _=>pure_lnZC _)) AllPure.nil)) (AllPure.cons (pureL (fun _=>AllPure.cons (PureV.flat rfl) AllPure.nil)) (AllPure.nil)))) fun O=>?_;conv=>whnf
 refine gX ?_
 refine fz ?_;refine gX ?_
 refine ca (netlists_FanoutZ_walk hm O.has) fun r1 hm=>?_;refine gX ?_
 refine O.mkL (enc:=i64) 8 1 0 hm fun g2 h O hm=>?_;refine gH ?_
 refine jn hm 45 [1,4,5] (fun s=>s) (fun v4 h=>Own vars h0 [((some g2),.cells (flatC (v4.map i64)) false)] h) (fun v4=>[]) (fun hm=>?_) ?_
 ·refine gX ?_
  refine lw 45 [1,4,5,16,17] (σ:=((List Nat)×Nat)) (fun s=>s) (fun (v6,v7) h=>Own vars h0 [((some g2),.cells (flatC (v6.map i64)) false)] h) (fun (v6,v7)=>[(18,(i64 v7))]) ((List.replicate p0.nodes.length (0:Nat)),0) hm O ?_
  clear hm;rintro⟨v6,v7⟩ nx8 base h hm O
  refine gX ?_
  refine br hm (fun hm=>?_) fun hm=>?_
  ·refine gX ?_
   refine atF hm fun x9 hx9 hm=>?_;refine gX ?_
   refine ix 1 hm fun x10 hx10 hm=>?_;refine gH ?_
   refine O.stE 1 (.head _) hx10 x9.length fun h O=>?_;refine gX ?_
   refine aAdd hm fun hm=>?_;refine gH ?_
   exact jx ((v6.set v7 x9.length),(v7+1)) hm O
  ·refine gX ?_
   exact jx v6 hm O
 ·clear hm;rintro v4 base h hm O
  conv=>whnf
  refine jn hm 45 [4,5] (fun s=>s) (fun v11 h=>Own vars h0 [((some g2),.cells (flatC (v11.map i64)) false)] h) (fun v11=>[]) (fun hm=>?_) ?_
  ·refine gX ?_
   refine lw 45 [4,5,30,31] (σ:=((List Nat)×Nat)) (fun s=>s) (fun (v13,v14) h=>Own vars h0 [((some g2),.cells (flatC (v13.map i64)) false)] h) (fun (v13,v14)=>[(32,(i64 v14))]) (v4,0) hm O ?_
   clear hm;rintro⟨v13,v14⟩ nx15 base h hm O
   refine gX ?_
   refine br hm (fun hm=>?_) fun hm=>?_
   ·refine gX ?_
    refine atF hm fun x16 hx16 hm=>?_;refine gX ?_
    refine ix 1 hm fun x17 hx17 hm=>?_;refine gH ?_
    refine ldE (s:=1) (i:=0) (O.at (.head _)) hx17 ?_;refine gH ?_
    refine aAdd hm fun hm=>?_;refine gH ?_
    refine ix 1 hm fun x18 hx18 hm=>?_;refine gH ?_
    refine O.stE 1 (.head _) hx18 (x17+1) fun h O=>?_;refine gX ?_
    refine aAdd hm fun hm=>?_;refine gH ?_
    exact jx ((v13.set x16 (x17+1)),(v14+1)) hm O
   ·refine gX ?_
    exact jx v13 hm O
  ·clear hm;rintro v11 base h hm O
   refine gX ?_
   obtain⟨hn19,hm⟩:=hm
   exact⟨(r1,v11),hm,O.ext,fun h2 F=>VLe.tup (LLe.cons (VLe.refl _ _) (LLe.cons (O.flatL F (Nat.le_refl _) (.head _) (fun _=>rfl) hn19) (LLe.nil _)))⟩
def traces_plain_wp (p0:Circ) (K:Nat→Prop):Prop :=
 faults_Lines_wp p0 (fun r1=>((neN r1.2 0)=true→K r1.2)∧((neN r1.2 0)=false→netlists_Of_wp p0 ([12,13]:(List Nat)) (fun r2=>((ltN 0 r2.length)=true→K 7)∧((ltN 0 r2.length)=false→K 0))))
theorem traces_plain_walk {p0:Circ}{K:Nat→Prop} (hm:traces_plain_wp p0 K) {h0:Heap} (hB:HasB vars h0):∃ r,K r∧CallD Tryz.prog NG 24 ⟨[encCirc p0]⟩ h0 (i64 r) h0:=by
 unfold traces_plain_wp at hm
 refine fw Tryz.func24 hB (enc:=i64) (fun r=>PureV.flat rfl) fun O=>?_;conv=>whnf
 refine gX ?_
 refine fz ?_;refine gX ?_
 refine ca (faults_Lines_walk hm O.has) fun r1 hm=>?_;refine gX ?_
 refine br hm (fun hm=>?_) fun hm=>?_
 ·refine gX ?_
  exact fe hm O
 ·refine gX ?_
  refine fz ?_;refine gH ?_
  refine ca (netlists_Of_walk hm O.has) fun r2 hm=>?_;refine gX ?_
  refine br hm (fun hm=>?_) fun hm=>?_
  ·refine gX ?_
   exact fe hm O
  ·refine gX ?_
   exact fe hm O
def cf_tracesFullI_wp (p0:(List Nat)) (K:Int→Prop):Prop :=
 joinW (α:=Unit) (fun k1=>loopW (S:=Nat) (fun v2 nx3=>((ltN v2 p0.length)=true→∃ x4,p0[v2]?=some x4∧logic_Known_wp x4 (fun r5=>((!r5)=true→K (Int.ofNat v2))∧((!r5)=false→v2+1<2 ^ 63∧nx3 (v2+1))))∧((ltN v2 p0.length)=false→k1 ())) 0) (fun _=>K (Int.negSucc 0))
theorem cf_tracesFullI_walk {p0:(List Nat)}{K:Int→Prop} (hm:cf_tracesFullI_wp p0 K) {h0:Heap} (hB:HasB vars h0):∃ r,K r∧CallD Tryz.prog NG 78 ⟨[(encL 1 n8) p0,(.func (.func 55) ⟨[]⟩ ⟨[]⟩)]⟩ h0 (z64 r) h0:=by
 unfold cf_tracesFullI_wp at hm
 refine fw Tryz.func78 hB (enc:=z64) (fun r=>PureV.flat rfl) fun O=>?_;conv=>whnf
 apply Cs;conv=>whnf
 apply Cs;refine gH ?_
 refine jn hm 19 [] (fun s=>s) (fun _ h=>Own vars h0 [] h) (fun _=>[]) (fun hm=>?_) ?_
 ·refine gX ?_
  refine lw 19 [0,1,7] (σ:=Nat) (fun s=>s) (fun v2 h=>Own vars h0 [] h) (fun v2=>[(8,(i64 v2))]) 0 hm O ?_
  clear hm;rintro v2 nx3 base h hm O
  refine gX ?_
  refine br hm (fun hm=>?_) fun hm=>?_
  ·refine gX ?_
   refine atF hm fun x4 hx4 hm=>?_;refine gH ?_
   refine fg Tryz.func55 ?_;refine gX ?_
   refine ca (logic_Known_walk hm O.has) fun r5 hm=>?_;refine gX ?_
   refine br hm (fun hm=>?_) fun hm=>?_
   ·refine gX ?_
    exact fe hm O
   ·refine gX ?_
    refine aAdd hm fun hm=>?_;refine gH ?_
    exact jx (v2+1) hm O
  ·refine gX ?_
   exact jx () hm O
 ·clear hm;rintro _ base h hm O
  refine gX ?_
  exact fe hm O
def cf_tracesFull_wp (p0:(List Nat)) (K:Bool→Prop):Prop :=
 cf_tracesFullI_wp p0 (fun r1=>K (!ltI r1 (Int.ofNat 0)))
theorem cf_tracesFull_walk {p0:(List Nat)}{K:Bool→Prop} (hm:cf_tracesFull_wp p0 K) {h0:Heap} (hB:HasB vars h0):∃ r,K r∧CallD Tryz.prog NG 56 ⟨[(encL 1 n8) p0,(.func (.func 55) ⟨[]⟩ ⟨[]⟩)]⟩ h0 (Value.bool r) h0:=by
 unfold cf_tracesFull_wp at hm
 refine fw Tryz.func56 hB (enc:=Value.bool) (fun r=>PureV.flat rfl) fun O=>?_;conv=>whnf
 refine gX ?_
 refine ca (cf_tracesFullI_walk hm O.has) fun r1 hm=>?_;refine gX ?_
 exact fe hm O
def traces_full_wp (p0:Circ) (p1:Pat) (K:Nat→Prop):Prop :=
 sims_Check_wp p0 p1 (fun r1=>((neN r1 0)=true→K r1)∧((neN r1 0)=false→joinW (α:=Bool) (fun k3=>cf_tracesFull_wp p1.inp (fun r4=>(r4=true→k3 true)∧(r4=false→cf_tracesFull_wp p1.state (fun r5=>k3 r5)))) (fun v2=>(v2=true→K 1)∧(v2=false→K 0))))
theorem traces_full_walk {p0:Circ}{p1:Pat}{K:Nat→Prop} (hm:traces_full_wp p0 p1 K) {h0:Heap} (hB:HasB vars h0):∃ r,K r∧CallD Tryz.prog NG 25 ⟨[encCirc p0,encPat p1]⟩ h0 (i64 r) h0:=by
 unfold traces_full_wp at hm
 refine fw Tryz.func25 hB (enc:=i64) (fun r=>PureV.flat rfl) fun O=>?_;conv=>whnf
 refine gX ?_
 refine fz ?_;refine gH ?_
 refine fz ?_;refine gX ?_
 refine ca (sims_Check_walk hm O.has) fun r1 hm=>?_;refine gX ?_
 refine br hm (fun hm=>?_) fun hm=>?_
 ·refine gX ?_
  exact fe hm O
 ·apply Cs;conv=>whnf
  apply Cs;conv=>whnf
  apply Cs;refine gH ?_
  apply Cs;conv=>whnf
  refine jn hm 23 [] (fun s=>s) (fun v2 h=>Own vars h0 [] h) (fun v2=>[(22,(.bool v2))]) (fun hm=>?_) ?_
  ·refine gX ?_
   refine ca (cf_tracesFull_walk hm O.has) fun r4 hm=>?_;refine gH ?_
   refine br hm (fun hm=>?_) fun hm=>?_
   ·refine gX ?_
    exact jx true hm O
   ·refine gX ?_
    refine ca (cf_tracesFull_walk hm O.has) fun r5 hm=>?_;refine gH ?_
    exact jx r5 hm O
  ·clear hm;rintro v2 base h hm O
   refine gX ?_
   refine br hm (fun hm=>?_) fun hm=>?_
   ·refine gX ?_
    exact fe hm O
   ·refine gX ?_
    exact fe hm O
def traces_changes_wp (p0:Circ) (p1:(List Nat)) (p2:Nat) (p3:Nat) (K:Bool→Prop):Prop :=
 joinW (α:=(List Nat)) (fun k5=>∃ x6,p0.nodes[p2]?=some x6∧loopW (S:=((List Nat)×Nat)) (fun (v8,v9) nx11=>((ltN v9 x6.ins.length)=true→∃ x12,x6.ins[v9]?=some x12∧∃ x13,p1[x12]?=some x13∧joinW (α:=Nat) (fun k16=>((eqN v9 p3)=true→logic_Not_wp x13 (fun r17=>k16 r17))∧((eqN v9 p3)=false→k16 x13)) (fun v14=>(v8.length+([v14]:(List Nat)).length)*1≤2 ^ 47∧v9+1<2 ^ 63∧nx11 ((v8++([v14]:(List Nat))),(v9+1))))∧((ltN v9 x6.ins.length)=false→k5 v8)) (([]:List Nat),0)) (fun v3=>∃ x20,p0.nodes[p2]?=some x20∧logic_Eval_wp x20.kind v3 (fun r21=>∃ x22,p1[p2]?=some x22∧K (neN r21 x22)))
theorem traces_changes_walk {p0:Circ}{p1:(List Nat)}{p2:Nat}{p3:Nat}{K:Bool→Prop} (hm:traces_changes_wp p0 p1 p2 p3 K) {h0:Heap} (hB:HasB vars h0):∃ r,K r∧CallD Tryz.prog NG 83 ⟨[encCirc p0,(encL 1 n8) p1,i64 p2,i64 p3]⟩ h0 (Value.bool r) h0:=by
 unfold traces_changes_wp at hm
 refine fw Tryz.func83 hB (enc:=Value.bool) (fun r=>PureV.flat rfl) fun O=>?_;conv=>whnf
 refine gX ?_
 refine fz ?_;refine gH ?_
 apply Cs;conv=>whnf
 apply Cs;refine gH ?_
 have O:=O.addNil (.cells (flatC ((([]:List Nat)).map n8)) false)
 refine jn (σ:=(List Nat)×Option Nat) hm 52 [1,2,4] (fun s=>s.1) (fun (v3,a2) h=>(a2=none→v3=[])∧Own vars h0 [(a2,.cells (flatC (v3.map n8)) false)] h) (fun (v3,a2)=>[(9,(growV 1 a2 (v3.map n8)))]) (fun hm=>?_) ?_
 ·refine gX ?_
  refine atF hm fun x6 hx6 hm=>?_;refine gX ?_
  refine lw 52 [1,2,3,4,18,19] (σ:=((List Nat)×Nat)×Option Nat) (fun s=>s.1) (fun ((v8,v9),a7) h=>(a7=none→v8=[])∧Own vars h0 [(a7,.cells (flatC (v8.map n8)) false)] h) (fun ((v8,v9),a7)=>[(9,(growV 1 a7 (v8.map n8))),(20,(i64 v9))]) ((([]:List Nat),0),none) hm ⟨(fun _=>rfl),O⟩ ?_
  clear hm;rintro⟨⟨v8,v9⟩,a7⟩ nx11 base h hm ⟨ha10,O⟩
  refine gX ?_
  refine br hm (fun hm=>?_) fun hm=>?_
  ·refine gX ?_
   refine atF hm fun x12 hx12 hm=>?_;refine gX ?_
   refine atF hm fun x13 hx13 hm=>?_;refine gH ?_
   refine jn hm 52 [1,2,3,4,9,18,19,20] (fun s=>s) (fun v14 h=>(a7=none→v8=[])∧Own vars h0 [(a7,.cells (flatC (v8.map n8)) false)] h) (fun v14=>[(12,(n8 v14))]) (fun hm=>?_) ?_
   ·refine gX ?_
    refine br hm (fun hm=>?_) fun hm=>?_
    ·refine gX ?_
     refine ca (logic_Not_walk hm O.has) fun r17 hm=>?_;refine gH ?_
     exact jx r17 hm ⟨ha10,O⟩
    ·refine gX ?_
     exact jx x13 hm ⟨ha10,O⟩
   ·clear hm;rintro v14 base h hm ⟨ha15,O⟩
    refine gX ?_
    refine fz ?_;refine gH ?_
    refine O.apL (enc:=n8) (l:=v8) (new:=([v14]:(List Nat))) 1 (.head _) ha15 hm fun a18 h ha19 O hm=>?_;refine gX ?_
    refine aAdd hm fun hm=>?_;refine gH ?_
    exact jx (((v8++([v14]:(List Nat))),(v9+1)),a18) hm ⟨ha19,O⟩
  ·refine gX ?_
   exact jx (v8,a7) hm ⟨ha10,O⟩
 ·clear hm;rintro⟨v3,a2⟩ base h hm ⟨ha4,O⟩
  refine gX ?_
  first|refine⟨.inr (.inr (rfl)),?_⟩|refine⟨.inr (.inl (by kernel_rfl)),?_⟩
  refine gX ?_
  refine atF hm fun x20 hx20 hm=>?_;refine gH ?_
  refine CallD.useB (fun _ hb=>logic_Eval_walk hm hb) (fun _=>flatB_ok rfl) fzVars O.has (fun h2 F=>(LLe.cons (VLe.refl _ _) (LLe.cons (O.grownL F (Nat.zero_le _) (.head _) ha4 (fun _=>rfl)) (LLe.nil _)))) (by kernel_rfl) (fun r21 hm'=>?_);replace hm:=hm';refine gH ?_
  (first|refine⟨.inr (.inr (loadK rfl (O.at (.head _)) rfl rfl)),?_⟩|refine⟨.inr (.inr (loadK rfl (O.at (.tail _ (.head _))) rfl rfl)),?_⟩|refine⟨.inr (.inr (loadK rfl (O.at (.tail _ (.tail _ (.head _)))) rfl rfl)),?_⟩|refine⟨.inr (.inr (loadK rfl (O.at (.tail _ (.tail _ (.tail _ (.head _))))) rfl rfl)),?_⟩|refine⟨.inr (.inr (loadK rfl (O.at (.tail _ (.tail _ (.tail _ (.tail _ (.head _)))))) rfl rfl)),?_⟩|refine⟨.inr (.inr (loadK rfl (O.at (.tail _ (.tail _ (.tail _ (.tail _ (.tail _ (.head _))))))) rfl rfl)),?_⟩|refine⟨.inr (.inr (loadK rfl (O.at (.tail _ (.tail _ (.tail _ (.tail _ (.tail _ (.tail _ (.head _)))))))) rfl rfl)),?_⟩|refine⟨.inl (Ext.refl _),?_⟩|refine⟨.inr (.inr rfl),?_⟩|refine⟨.inr (by kernel_rfl),?_⟩|refine⟨.inl (by kernel_rfl),?_⟩|refine id ?_);refine gH ?_
  refine atF hm fun x22 hx22 hm=>?_;refine gX ?_
  exact fe hm O
def traces_walk_wp (p0:Circ) (p1:(List Nat)) (p2:(List Nat)) (p3:Nat) (K:(List LnZ)→Prop):Prop :=
 joinW (α:=(List LnZ)) (fun k9=>loopW (S:=((List LnZ)×(List Nat))) (fun (v12,v16) nx19=>((ltN 0 v16.length)=true→1≤v16.length∧v16.length<2 ^ 63∧∃ x20,v16[(v16.length-1)]?=some x20∧1≤v16.length∧v16.length<2 ^ 63∧(v16.length-1)≤v16.length∧∃ x22,p0.nodes[x20]?=some x22∧((eqN x22.kind 14)=true→nx19 (v12,(v16.take (v16.length-1))))∧((eqN x22.kind 14)=false→∃ x23,p0.nodes[x20]?=some x23∧loopW (S:=((List LnZ)×(List Nat)×Nat)) (fun (v26,v30,v31) nx34=>((ltN v31 x23.ins.length)=true→joinW (α:=((List LnZ)×(List Nat))) (fun k44=>∃ x45,x23.ins[v31]?=some x45∧traces_changes_wp p0 p1 x20 v31 (fun r46=>((!r46)=true→k44 (v26,v30))∧((!r46)=false→(v26.length+([(⟨x20,(Int.ofNat v31)⟩:LnZ)]:(List LnZ)).length)*16≤2 ^ 47∧∃ x51,p2[x45]?=some x51∧((eqN x51 1)=true→((v26++([(⟨x20,(Int.ofNat v31)⟩:LnZ)]:(List LnZ))).length+([(⟨x45,(Int.negSucc 0)⟩:LnZ)]:(List LnZ)).length)*16≤2 ^ 47∧(v30.length+([x45]:(List Nat)).length)*8≤2 ^ 47∧k44 (((v26++([(⟨x20,(Int.ofNat v31)⟩:LnZ)]:(List LnZ)))++([(⟨x45,(Int.negSucc 0)⟩:LnZ)]:(List LnZ))),(v30++([x45]:(List Nat)))))∧((eqN x51 1)=false→k44 ((v26++([(⟨x20,(Int.ofNat v31)⟩:LnZ)]:(List LnZ))),v30))))) (fun (v37,v41)=>v31+1<2 ^ 63∧nx34 (v37,v41,(v31+1))))∧((ltN v31 x23.ins.length)=false→nx19 (v26,v30))) (v12,(v16.take (v16.length-1)),0)))∧((ltN 0 v16.length)=false→k9 v12)) (([(⟨p3,(Int.negSucc 0)⟩:LnZ)]:(List LnZ)),([p3]:(List Nat)))) (fun v8=>0<v8.length∧K v8)
theorem traces_walk_walkO {p0:Circ}{p1:(List Nat)}{p2:(List Nat)}{p3:Nat}{K:(List LnZ)→Prop} (hm:traces_walk_wp p0 p1 p2 p3 K) {h0:Heap} (hB:HasB vars h0):∃ v h',CallD Tryz.prog NG 50 ⟨[encCirc p0,(encL 1 n8) p1,(encL 1 i64) p2,i64 p3]⟩ h0 v h'∧OwnRes vars h0 K (fun (r:(List LnZ)) a=>growV 2 a (r.map encLnZ)) (fun (r:(List LnZ))=>r) encLnZ false v h':=by
 unfold traces_walk_wp at hm
 refine fg Tryz.func50 (Q:=OwnRes vars h0 K (fun (r:(List LnZ)) a=>growV 2 a (r.map encLnZ)) (fun (r:(List LnZ))=>r) encLnZ false) ?_;have O:=Own.start hB;conv=>whnf
 refine gX ?_
 refine fz ?_;refine gX ?_
 have O:=O.addNil (.cells (flatC ((([]:List LnZ)).map encLnZ)) false)
 refine O.buildL (l:=([(⟨p3,(Int.negSucc 0)⟩:LnZ)]:(List LnZ))) (enc:=encLnZ) (s:=2) (z:=(.agg ⟨[(i64 0),(i64 0)]⟩)) rfl rfl (by kernel_rfl) (by kernel_rfl) rfl rfl rfl rfl (fun _=>rfl) fun g2 h O=>?_;refine gX ?_
 refine O.buildL (l:=([p3]:(List Nat))) (enc:=i64) (s:=1) (z:=(i64 0)) rfl rfl (by kernel_rfl) (by kernel_rfl) rfl rfl rfl rfl (fun _=>rfl) fun g4 h O=>?_;refine gH ?_
 apply Cs;conv=>whnf
 apply Cs;conv=>whnf
 refine jn (σ:=(List LnZ)×(Nat×Bool)) hm 80 [] (fun s=>s.1) (fun (v8,(a6,a7)) h=>Own vars h0 [((some a6),.cells (flatC (v8.map encLnZ)) false)] h) (fun (v8,(a6,a7))=>[(9,(growS 2 a7 a6 ((v8.map encLnZ).length)))]) (fun hm=>?_) ?_
 ·refine gX ?_
  refine lw 80 [1,2,4] (σ:=((List LnZ)×(List Nat))×(Nat×Bool×Option Nat×Option Nat×(List Nat))) (fun s=>s.1) (fun ((v12,v16),(a10,a11,a13,a14,a15)) h=>(a13=none→v16++a15=[])∧(a14=none∨a14=some 1)∧Own vars h0 [((some a10),.cells (flatC (v12.map encLnZ)) false),(a13,.cells (flatC ((v16++a15).map i64)) false)] h) (fun ((v12,v16),(a10,a11,a13,a14,a15))=>[(9,(growS 2 a11 a10 ((v12.map encLnZ).length))),(10,(stV i64 a13 a14 v16 a15))]) ((([(⟨p3,(Int.negSucc 0)⟩:LnZ)]:(List LnZ)),([p3]:(List Nat))),(g2,false,(some g4),none,([]:(List Nat)))) hm ⟨someNone,(.inl rfl),(O.sel [1,0] (by decide))⟩ ?_
  clear hm;rintro⟨⟨v12,v16⟩,⟨a10,a11,a13,a14,a15⟩⟩ nx19 base h hm ⟨ha17,ht18,O⟩
  refine gX ?_
  refine br hm (fun hm=>?_) fun hm=>?_
  ·refine gX ?_
   refine aSub hm fun hm=>?_;refine gH ?_
   obtain⟨x20,hx20,hm⟩:=hm
   have h9:=hm
   obtain⟨g21,rfl⟩:=stSome ha17 hx20
   replace hm:=h9
   refine indexK (s:=1) (j:=(v16.length-1)) rfl rfl rfl rfl (lt_of_get hx20) ?_;refine gH ?_
   replace hx20:=stGet (J:=a15) hx20
   refine ldE (s:=1) (i:=0) (O.at (.tail _ (.head _))) hx20 ?_;refine gX ?_
   refine aSub hm fun hm=>?_;refine gH ?_
   refine stCut (enc:=i64) (l:=v16) (J:=a15) (s:=1) (k:=(v16.length-1)) rfl rfl rfl ht18 rfl hm.1 ?_;refine gX ?_
   rw[stRe (enc:=i64) v16 a15 (v16.length-1)] at O
   replace hm:=hm.2
   refine atF hm fun x22 hx22 hm=>?_;refine gX ?_
   refine br hm (fun hm=>?_) fun hm=>?_
   ·refine gX ?_
    exact jx ((v12,(v16.take (v16.length-1))),(a10,a11,(some g21),a14,(v16.drop (v16.length-1)++a15))) hm ⟨someNone,ht18,O⟩
   ·refine gX ?_
    refine atF hm fun x23 hx23 hm=>?_;refine gX ?_
    refine lw 80 [1,2,4,11,45,46] (σ:=((List LnZ)×(List Nat)×Nat)×(Nat×Bool×Option Nat×Option Nat×(List Nat))) (fun s=>s.1) (fun ((v26,v30,v31),(a24,a25,a27,a28,a29)) h=>(a27=none→v30++a29=[])∧(a28=none∨a28=some 1)∧Own vars h0 [((some a24),.cells (flatC (v26.map encLnZ)) false),(a27,.cells (flatC ((v30++a29).map i64)) false)] h) (fun ((v26,v30,v31),(a24,a25,a27,a28,a29))=>[(9,(growS 2 a25 a24 ((v26.map encLnZ).length))),(10,(stV i64 a27 a28 v30 a29)),(47,(i64 v31))]) ((v12,(v16.take (v16.length-1)),0),(a10,a11,(some g21),a14,(v16.drop (v16.length-1)++a15))) hm ⟨someNone,ht18,O⟩ ?_
    clear hm;rintro⟨⟨v26,v30,v31⟩,⟨a24,a25,a27,a28,a29⟩⟩ nx34 base h hm ⟨ha32,ht33,O⟩
    refine gX ?_
    refine br hm (fun hm=>?_) fun hm=>?_
    ·apply Cs;conv=>whnf
     refine jn (σ:=((List LnZ)×(List Nat))×(Nat×Bool×Option Nat×Option Nat×(List Nat))) hm 80 [1,2,4,11,45,46,47] (fun s=>s.1) (fun ((v37,v41),(a35,a36,a38,a39,a40)) h=>(a38=none→v41++a40=[])∧(a39=none∨a39=some 1)∧Own vars h0 [((some a35),.cells (flatC (v37.map encLnZ)) false),(a38,.cells (flatC ((v41++a40).map i64)) false)] h) (fun ((v37,v41),(a35,a36,a38,a39,a40))=>[(9,(growS 2 a36 a35 ((v37.map encLnZ).length))),(10,(stV i64 a38 a39 v41 a40))]) (fun hm=>?_) ?_
     ·refine gX ?_
      refine atF hm fun x45 hx45 hm=>?_;refine gX ?_
      refine ca (traces_changes_walk hm O.has) fun r46 hm=>?_;refine gX ?_
      refine br hm (fun hm=>?_) fun hm=>?_
      ·refine gX ?_
       exact jx ((v26,v30),(a24,a25,a27,a28,a29)) hm ⟨ha32,ht33,O⟩
      ·refine gX ?_
       refine fz ?_;refine gH ?_
       refine O.apS (enc:=encLnZ) (l:=v26) (new:=([(⟨x20,(Int.ofNat v31)⟩:LnZ)]:(List LnZ))) 2 (.head _) rfl hm fun g49 a50 h O hm=>?_;refine gX ?_
       refine atF hm fun x51 hx51 hm=>?_;refine gX ?_
       refine br hm (fun hm=>?_) fun hm=>?_
       ·refine gX ?_
        refine fz ?_;refine gH ?_
        refine O.apS (enc:=encLnZ) (l:=(v26++([(⟨x20,(Int.ofNat v31)⟩:LnZ)]:(List LnZ)))) (new:=([(⟨x45,(Int.negSucc 0)⟩:LnZ)]:(List LnZ))) 2 (.head _) rfl hm fun g54 a55 h O hm=>?_;refine gH ?_
        refine fz ?_;refine gH ?_
        refine O.stPush (enc:=i64) (l:=v30) (J:=a29) (new:=([x45]:(List Nat))) (s:=1) (b:=8) (.tail _ (.head _)) ha32 ht33 rfl rfl rfl rfl rfl rfl rfl rfl (YOk.fl rfl) (fun _=>rfl) (fun _=>rfl) (by decide) hm.1 fun a56 a57 a58 h ha59 ht60 O=>?_;refine gH ?_
        replace hm:=hm.2
        exact jx ((((v26++([(⟨x20,(Int.ofNat v31)⟩:LnZ)]:(List LnZ)))++([(⟨x45,(Int.negSucc 0)⟩:LnZ)]:(List LnZ))),(v30++([x45]:(List Nat)))),(g54,a55,a56,a57,a58)) hm ⟨ha59,ht60,O⟩
       ·refine gX ?_
        exact jx (((v26++([(⟨x20,(Int.ofNat v31)⟩:LnZ)]:(List LnZ))),v30),(g49,a50,a27,a28,a29)) hm ⟨ha32,ht33,O⟩
     ·clear hm;rintro⟨⟨v37,v41⟩,⟨a35,a36,a38,a39,a40⟩⟩ base h hm ⟨ha42,ht43,O⟩
      refine gX ?_
      refine aAdd hm fun hm=>?_;refine gH ?_
      exact jx ((v37,v41,(v31+1)),(a35,a36,a38,a39,a40)) hm ⟨ha42,ht43,O⟩
    ·refine gX ?_
     exact jx ((v26,v30),(a24,a25,a27,a28,a29)) hm ⟨ha32,ht33,O⟩
  ·refine gX ?_
   exact jx (v12,(a10,a11)) hm (O.sel [0] (by decide))
 ·clear hm;rintro⟨v8,⟨a6,a7⟩⟩ base h hm O
  refine gX ?_
  obtain⟨hp61,hm⟩:=hm
  exact⟨v8,some a6,hm,O.asGrowS (.head _) (fun _=>rfl) rfl hp61,(fun e=>nomatch e),someIff hp61,O.sel [0] (by decide)⟩
theorem traces_walk_walk {p0:Circ}{p1:(List Nat)}{p2:(List Nat)}{p3:Nat}{K:(List LnZ)→Prop} (hm:traces_walk_wp p0 p1 p2 p3 K) {h0:Heap} (hB:HasB vars h0):∃ r,K r∧CallD Tryz.prog NG 50 ⟨[encCirc p0,(encL 1 n8) p1,(encL 1 i64) p2,i64 p3]⟩ h0 ((encL 2 encLnZ) r) h0 :=
 valO (traces_walk_walkO hm hB) (fk Tryz.func50) (fun r=>pureL (fun _=>pure_lnZC _)) (fun r a h1 h3 O F ha h2=>O.grownL F (Nat.le_refl _) (.head _) ha (fun _=>rfl))
def traces_critical_wp (p0:Circ) (p1:Pat) (K:(List LnZ)→Prop):Prop :=
 sims_Run_wp p0 p1 (fun r2=>traces_loads_wp p0 (fun r5=>joinW (α:=(List LnZ)) (fun k10=>loopW (S:=((List LnZ)×Nat)) (fun (v12,v13) nx15=>((ltN v13 p0.nodes.length)=true→joinW (α:=(List LnZ)) (fun k19=>sl_ContainsI_wp p0.outs v13 (fun r20=>joinW (α:=Bool) (fun k23=>joinW (α:=Bool) (fun k26=>((!r20)=true→∃ x27,r5.2[v13]?=some x27∧k26 (ltN 1 x27))∧((!r20)=false→k26 false)) (fun v24=>(v24=true→∃ x28,r2.2.1[v13]?=some x28∧logic_Not_wp x28 (fun r29=>inject_Detects_wp p0 (⟨0,(⟨v13,(Int.negSucc 0)⟩:LnZ),r29,0⟩:Flt) p1 (fun r30=>k23 r30.1)))∧(v24=false→k23 r20))) (fun v21=>joinW (α:=((List LnZ)×Bool)) (fun k35=>∃ x36,r5.1[v13]?=some x36∧loopW (S:=((List LnZ)×Bool×Nat)) (fun (v38,v39,v40) nx42=>((ltN v40 x36.length)=true→joinW (α:=((List LnZ)×Bool)) (fun k47=>∃ x48,x36[v40]?=some x48∧∃ x51,p0.nodes[x48.node]?=some x51∧((eqN x51.kind 14)=true→(v38.length+([x48]:(List LnZ)).length)*16≤2 ^ 47∧k47 ((v38++([x48]:(List LnZ))),true))∧((eqN x51.kind 14)=false→k47 (v38,v39))) (fun (v44,v45)=>v40+1<2 ^ 63∧nx42 (v44,v45,(v40+1))))∧((ltN v40 x36.length)=false→k35 (v38,v39))) (v12,v21,0)) (fun (v32,v33)=>(v33=true→traces_walk_wp p0 r2.2.1 r5.2 v13 (fun r54=>(v32.length+r54.length)*16≤2 ^ 47∧k19 (v32++r54)))∧(v33=false→k19 v32))))) (fun v17=>v13+1<2 ^ 63∧nx15 (v17,(v13+1))))∧((ltN v13 p0.nodes.length)=false→k10 v12)) (([]:List LnZ),0)) (fun v8=>K v8)))
theorem traces_critical_walkO {p0:Circ}{p1:Pat}{K:(List LnZ)→Prop} (hm:traces_critical_wp p0 p1 K) {h0:Heap} (hB:HasB vars h0):∃ v h',CallD Tryz.prog NG 27 ⟨[encCirc p0,encPat p1]⟩ h0 v h'∧OwnRes vars h0 K (fun (r:(List LnZ)) a=>growV 2 a (r.map encLnZ)) (fun (r:(List LnZ))=>r) encLnZ false v h':=by
 unfold traces_critical_wp at hm
 refine fg Tryz.func27 (Q:=OwnRes vars h0 K (fun (r:(List LnZ)) a=>growV 2 a (r.map encLnZ)) (fun (r:(List LnZ))=>r) encLnZ false) ?_;have O:=Own.start hB;conv=>whnf
 refine gX ?_
 refine fz ?_;refine gH ?_
 refine fz ?_;refine gX ?_
 have O:=O.addNil (.cells (flatC ((([]:List LnZ)).map encLnZ)) false)
 refine ca (sims_Run_walk hm O.has) fun r2 hm=>?_;refine gH ?_
 (first|refine O.new (anew_alloc (l:=[(.slice none 0 0),(.slice none 0 0)]) rfl rfl rfl) fun g3 h O=>?_|refine O.newX (anew_alloc (l:=[(.slice none 0 0),(.slice none 0 0)]) rfl rfl rfl) fun g3 h O=>?_);refine gH ?_
 refine O.stC 2 (.head _) [((encL 1 n8) r2.1.out),((encL 1 n8) r2.1.next)] fun h O=>?_;refine gX ?_
 refine ca (traces_loads_walk hm O.has) fun r5 hm=>?_;refine gH ?_
 apply Cs;conv=>whnf
 apply Cs;refine gH ?_
 have O:=O.addNil (.cells (flatC ((([]:List LnZ)).map encLnZ)) false)
 refine jn (σ:=(List LnZ)×Option Nat) hm 92 [] (fun s=>s.1) (fun (v8,a7) h=>(a7=none→v8=[])∧Own vars h0 [(a7,.cells (flatC (v8.map encLnZ)) false)] h) (fun (v8,a7)=>[(10,(growV 2 a7 (v8.map encLnZ)))]) (fun hm=>?_) ?_
 ·refine gX ?_
  refine lw 92 [2,3,6,8,9,29] (σ:=((List LnZ)×Nat)×Option Nat) (fun s=>s.1) (fun ((v12,v13),a11) h=>(a11=none→v12=[])∧Own vars h0 [(a11,.cells (flatC (v12.map encLnZ)) false)] h) (fun ((v12,v13),a11)=>[(10,(growV 2 a11 (v12.map encLnZ))),(30,(i64 v13))]) ((([]:List LnZ),0),none) hm ⟨(fun _=>rfl),(O.sel [0] (by decide))⟩ ?_
  clear hm;rintro⟨⟨v12,v13⟩,a11⟩ nx15 base h hm ⟨ha14,O⟩
  refine gX ?_
  refine br hm (fun hm=>?_) fun hm=>?_
  ·apply Cs;conv=>whnf
   refine jn (σ:=(List LnZ)×Option Nat) hm 92 [2,3,6,8,9,29,30] (fun s=>s.1) (fun (v17,a16) h=>(a16=none→v17=[])∧Own vars h0 [(a16,.cells (flatC (v17.map encLnZ)) false)] h) (fun (v17,a16)=>[(10,(growV 2 a16 (v17.map encLnZ)))]) (fun hm=>?_) ?_
   ·refine gX ?_
    refine ca (sl_ContainsI_walk hm O.has) fun r20 hm=>?_;refine gH ?_
    refine jn hm 92 [2,3,6,8,9,10,11,29,30] (fun s=>s) (fun v21 h=>(a11=none→v12=[])∧Own vars h0 [(a11,.cells (flatC (v12.map encLnZ)) false)] h) (fun v21=>[(12,(.bool v21))]) (fun hm=>?_) ?_
    ·refine jn hm 92 [2,3,6,8,9,10,11,12,29,30] (fun s=>s) (fun v24 h=>(a11=none→v12=[])∧Own vars h0 [(a11,.cells (flatC (v12.map encLnZ)) false)] h) (fun v24=>[(45,(.bool v24))]) (fun hm=>?_) ?_
     ·refine gX ?_
      refine br hm (fun hm=>?_) fun hm=>?_
      ·refine gX ?_
       refine atF hm fun x27 hx27 hm=>?_;refine gH ?_
       exact jx (ltN 1 x27) hm ⟨ha14,O⟩
      ·refine gX ?_
       exact jx false hm ⟨ha14,O⟩
     ·clear hm;rintro v24 base h hm ⟨ha25,O⟩
      refine gX ?_
      refine br hm (fun hm=>?_) fun hm=>?_
      ·refine gX ?_
       first|refine⟨.inr (.inr (rfl)),?_⟩|refine⟨.inr (.inl (by kernel_rfl)),?_⟩
       refine gX ?_
       refine atF hm fun x28 hx28 hm=>?_;refine gH ?_
       refine ca (logic_Not_walk hm O.has) fun r29 hm=>?_;refine gH ?_
       (first|refine⟨.inr (.inr (loadK rfl (O.at (.head _)) rfl rfl)),?_⟩|refine⟨.inr (.inr (loadK rfl (O.at (.tail _ (.head _))) rfl rfl)),?_⟩|refine⟨.inr (.inr (loadK rfl (O.at (.tail _ (.tail _ (.head _)))) rfl rfl)),?_⟩|refine⟨.inr (.inr (loadK rfl (O.at (.tail _ (.tail _ (.tail _ (.head _))))) rfl rfl)),?_⟩|refine⟨.inr (.inr (loadK rfl (O.at (.tail _ (.tail _ (.tail _ (.tail _ (.head _)))))) rfl rfl)),?_⟩|refine⟨.inr (.inr (loadK rfl (O.at (.tail _ (.tail _ (.tail _ (.tail _ (.tail _ (.head _))))))) rfl rfl)),?_⟩|refine⟨.inr (.inr (loadK rfl (O.at (.tail _ (.tail _ (.tail _ (.tail _ (.tail _ (.tail _ (.head _)))))))) rfl rfl)),?_⟩|refine⟨.inl (Ext.refl _),?_⟩|refine⟨.inr (.inr rfl),?_⟩|refine⟨.inr (by kernel_rfl),?_⟩|refine⟨.inl (by kernel_rfl),?_⟩|refine id ?_);refine gH ?_
       first|refine⟨.inr (.inr (rfl)),?_⟩|refine⟨.inr (.inl (by kernel_rfl)),?_⟩
       refine gX ?_
       refine ca (inject_Detects_walk hm O.has) fun r30 hm=>?_;refine gH ?_
       (first|refine⟨.inr (.inr (loadK rfl (O.at (.head _)) rfl rfl)),?_⟩|refine⟨.inr (.inr (loadK rfl (O.at (.tail _ (.head _))) rfl rfl)),?_⟩|refine⟨.inr (.inr (loadK rfl (O.at (.tail _ (.tail _ (.head _)))) rfl rfl)),?_⟩|refine⟨.inr (.inr (loadK rfl (O.at (.tail _ (.tail _ (.tail _ (.head _))))) rfl rfl)),?_⟩|refine⟨.inr (.inr (loadK rfl (O.at (.tail _ (.tail _ (.tail _ (.tail _ (.head _)))))) rfl rfl)),?_⟩|refine⟨.inr (.inr (loadK rfl (O.at (.tail _ (.tail _ (.tail _ (.tail _ (.tail _ (.head _))))))) rfl rfl)),?_⟩|refine⟨.inr (.inr (loadK rfl (O.at (.tail _ (.tail _ (.tail _ (.tail _ (.tail _ (.tail _ (.head _)))))))) rfl rfl)),?_⟩|refine⟨.inl (Ext.refl _),?_⟩|refine⟨.inr (.inr rfl),?_⟩|refine⟨.inr (by kernel_rfl),?_⟩|refine⟨.inl (by kernel_rfl),?_⟩|refine id ?_);refine gH ?_
       exact jx r30.1 hm ⟨ha25,O⟩
      ·refine gX ?_
       exact jx r20 hm ⟨ha25,O⟩
    ·clear hm;rintro v21 base h hm ⟨ha22,O⟩
     conv=>whnf
     refine jn (σ:=((List LnZ)×Bool)×Option Nat) hm 92 [2,3,6,8,9,11,29,30] (fun s=>s.1) (fun ((v32,v33),a31) h=>(a31=none→v32=[])∧Own vars h0 [(a31,.cells (flatC (v32.map encLnZ)) false)] h) (fun ((v32,v33),a31)=>[(10,(growV 2 a31 (v32.map encLnZ))),(12,(.bool v33))]) (fun hm=>?_) ?_
     ·refine gX ?_
      refine atF hm fun x36 hx36 hm=>?_;refine gX ?_
      refine lw 92 [2,3,6,8,9,11,29,30,63,64] (σ:=((List LnZ)×Bool×Nat)×Option Nat) (fun s=>s.1) (fun ((v38,v39,v40),a37) h=>(a37=none→v38=[])∧Own vars h0 [(a37,.cells (flatC (v38.map encLnZ)) false)] h) (fun ((v38,v39,v40),a37)=>[(10,(growV 2 a37 (v38.map encLnZ))),(12,(.bool v39)),(65,(i64 v40))]) ((v12,v21,0),a11) hm ⟨ha22,O⟩ ?_
      clear hm;rintro⟨⟨v38,v39,v40⟩,a37⟩ nx42 base h hm ⟨ha41,O⟩
      refine gX ?_
      refine br hm (fun hm=>?_) fun hm=>?_
      ·apply Cs;conv=>whnf
       refine jn (σ:=((List LnZ)×Bool)×Option Nat) hm 92 [2,3,6,8,9,11,29,30,63,64,65] (fun s=>s.1) (fun ((v44,v45),a43) h=>(a43=none→v44=[])∧Own vars h0 [(a43,.cells (flatC (v44.map encLnZ)) false)] h) (fun ((v44,v45),a43)=>[(10,(growV 2 a43 (v44.map encLnZ))),(12,(.bool v45))]) (fun hm=>?_) ?_
       ·refine gX ?_
        refine atF hm fun x48 hx48 hm=>?_;refine gH ?_
        (first|refine O.new (anew_alloc (l:=[(i64 0),(i64 0)]) rfl rfl rfl) fun g49 h O=>?_|refine O.newX (anew_alloc (l:=[(i64 0),(i64 0)]) rfl rfl rfl) fun g49 h O=>?_);refine gH ?_
        refine O.stC 2 (.head _) [(i64 x48.node),(z64 x48.pin)] fun h O=>?_;refine gX ?_
        refine atF hm fun x51 hx51 hm=>?_;refine gX ?_
        refine br hm (fun hm=>?_) fun hm=>?_
        ·refine gX ?_
         refine ldA (O.at (.head _)) ?_;refine gH ?_
         refine fz ?_;refine gH ?_
         refine O.apL (enc:=encLnZ) (l:=v38) (new:=([x48]:(List LnZ))) 2 (.tail _ (.head _)) ha41 hm fun a52 h ha53 O hm=>?_;refine gX ?_
         exact jx (((v38++([x48]:(List LnZ))),true),a52) hm ⟨ha53,(O.sel [1] (by decide))⟩
        ·refine gX ?_
         exact jx ((v38,v39),a37) hm ⟨ha41,(O.sel [1] (by decide))⟩
       ·clear hm;rintro⟨⟨v44,v45⟩,a43⟩ base h hm ⟨ha46,O⟩
        refine gX ?_
        refine aAdd hm fun hm=>?_;refine gH ?_
        exact jx ((v44,v45,(v40+1)),a43) hm ⟨ha46,O⟩
      ·refine gX ?_
       exact jx ((v38,v39),a37) hm ⟨ha41,O⟩
     ·clear hm;rintro⟨⟨v32,v33⟩,a31⟩ base h hm ⟨ha34,O⟩
      refine gX ?_
      refine br hm (fun hm=>?_) fun hm=>?_
      ·refine gX ?_
       refine ca (traces_walk_walk hm O.has) fun r54 hm=>?_;refine gH ?_
       refine O.apL (enc:=encLnZ) (l:=v32) (new:=r54) 2 (.head _) ha34 hm fun a55 h ha56 O hm=>?_;refine gH ?_
       exact jx ((v32++r54),a55) hm ⟨ha56,O⟩
      ·refine gX ?_
       exact jx (v32,a31) hm ⟨ha34,O⟩
   ·clear hm;rintro⟨v17,a16⟩ base h hm ⟨ha18,O⟩
    refine gX ?_
    refine aAdd hm fun hm=>?_;refine gH ?_
    exact jx ((v17,(v13+1)),a16) hm ⟨ha18,O⟩
  ·refine gX ?_
   exact jx (v12,a11) hm ⟨ha14,O⟩
 ·clear hm;rintro⟨v8,a7⟩ base h hm ⟨ha9,O⟩
  refine gX ?_
  exact⟨v8,a7,hm,VLe.refl _ _,ha9,(fun e=>nomatch e),O.sel [0] (by decide)⟩
def traces_Critical_wp (p0:Circ) (p1:Pat) (K:((List LnZ)×Nat)→Prop):Prop :=
 traces_plain_wp p0 (fun r1=>((neN r1 0)=true→K ([],r1))∧((neN r1 0)=false→traces_full_wp p0 p1 (fun r2=>((neN r2 0)=true→K ([],r2))∧((neN r2 0)=false→traces_critical_wp p0 p1 (fun r3=>r3.length<4611686018427387904∧(∀ x∈r3,lnB x)∧∀ x8:List LnZ,x8.Perm r3→x8.Pairwise lnLe→K (x8,0))))))
theorem traces_Critical_walkO {p0:Circ}{p1:Pat}{K:((List LnZ)×Nat)→Prop} (hm:traces_Critical_wp p0 p1 K) {h0:Heap} (hB:HasB vars h0):∃ v h',CallD Tryz.prog NG 10 ⟨[encCirc p0,encPat p1]⟩ h0 v h'∧OwnRes vars h0 K (fun (r:((List LnZ)×Nat)) a=>Value.tuple ⟨[clipV a (r.1.map encLnZ),i64 (r.2)]⟩) (fun (r:((List LnZ)×Nat))=>r.1) encLnZ false v h':=by
 unfold traces_Critical_wp at hm
 refine fg Tryz.func10 (Q:=OwnRes vars h0 K (fun (r:((List LnZ)×Nat)) a=>Value.tuple ⟨[clipV a (r.1.map encLnZ),i64 (r.2)]⟩) (fun (r:((List LnZ)×Nat))=>r.1) encLnZ false) ?_;have O:=Own.start hB;conv=>whnf
 refine gX ?_
 refine fz ?_;refine gH ?_
 refine fz ?_;refine gX ?_
 refine ca (traces_plain_walk hm O.has) fun r1 hm=>?_;refine gX ?_
 refine br hm (fun hm=>?_) fun hm=>?_
 ·refine gX ?_
  have O:=O.addNil (.cells (flatC (([]:(List LnZ)).map encLnZ)) false)
  exact⟨([],r1),none,hm,VLe.refl _ _,(fun _=>rfl),(fun _ _=>rfl),O.sel [0] (by decide)⟩
 ·refine gX ?_
  refine ca (traces_full_walk hm O.has) fun r2 hm=>?_;refine gX ?_
  refine br hm (fun hm=>?_) fun hm=>?_
  ·refine gX ?_
   have O:=O.addNil (.cells (flatC (([]:(List LnZ)).map encLnZ)) false)
   exact⟨([],r2),none,hm,VLe.refl _ _,(fun _=>rfl),(fun _ _=>rfl),O.sel [0] (by decide)⟩
  ·refine gX ?_
   refine caO (traces_critical_walkO hm O.has) O fun r3 a4 h hx ha6 hn7 O hm=>?_;refine gH ?_
   refine fg Tryz.func26 ?_;refine gX ?_
   obtain⟨x8,h,hp9,hs10,hcall,O⟩:=sortLn O (.head _) ha6 hm.1 hm.2.1
   refine⟨_,_,hcall,?_⟩;refine gH ?_
   replace hm:=hm.2.2 x8 hp9 hs10
   have ha11:a4=none→x8=[]:=fun e=>by have:=ha6 e;rw[this] at hp9;exact hp9.eq_nil
   have he:(x8.map encLnZ).length=(r3.map encLnZ).length:=by simp[hp9.length_eq]
   (try rw[← growVe (s:=2) (a:=a4) he]);(try rw[← he])
   refine gX ?_
   refine fg Tryz.func29 ?_;refine gX ?_
   refine clipK (s:=2) (enc:=encLnZ) (l:=x8) (n:=x8.length) (m:=x8.length) rfl rfl rfl rfl rfl rfl rfl ?_;refine gX ?_
   exact⟨(x8,0),a4,hm,VLe.refl _ _,ha11,(fun e=>nomatch e),O.sel [0] (by decide)⟩
theorem traces_Critical_walk {p0:Circ}{p1:Pat}{K:((List LnZ)×Nat)→Prop} (hm:traces_Critical_wp p0 p1 K) {h0:Heap} (hB:HasB vars h0):∃ r,K r∧CallD Tryz.prog NG 10 ⟨[encCirc p0,encPat p1]⟩ h0 ((fun (r:((List LnZ)×Nat))=>Value.tuple ⟨[(encL 2 encLnZ) (r.1),i64 (r.2)]⟩) r) h0 :=
 valO (traces_Critical_walkO hm hB) (fk Tryz.func10) (fun r=>PureV.tup (AllPure.cons (pureL (fun _=>pure_lnZC _)) (AllPure.cons (PureV.flat rfl) (AllPure.nil)))) (fun r a h1 h3 O F ha h2=>VLe.tup (LLe.cons (O.clipL F (Nat.le_refl _) (.head _) ha (fun _=>rfl)) (LLe.cons (VLe.refl _ _) (LLe.nil _))))
def probecardlaw12_Full_wp (p0:Circ) (p1:Nat) (K:Pat→Prop):Prop :=
 joinW (α:=((List Nat)×Nat)) (fun k13=>loopW (S:=((List Nat)×Nat×Nat)) (fun (v15,v16,v17) nx19=>((ltN v17 p0.nodes.length)=true→joinW (α:=((List Nat)×Nat)) (fun k24=>∃ x25,p0.nodes[v17]?=some x25∧((eqN x25.kind 0)=true→0<64∧(v16%64)≤63∧(v15.length+([(((p1/2 ^ (v16%64))%2 ^ 1)%256)]:(List Nat)).length)*1≤2 ^ 47∧v16+1<2 ^ 64∧k24 ((v15++([(((p1/2 ^ (v16%64))%2 ^ 1)%256)]:(List Nat))),(v16+1)))∧((eqN x25.kind 0)=false→k24 (v15,v16))) (fun (v21,v22)=>v17+1<2 ^ 63∧nx19 (v21,v22,(v17+1))))∧((ltN v17 p0.nodes.length)=false→k13 (v15,v16))) (([]:List Nat),0,0)) (fun (v10,v11)=>joinW (α:=(List Nat)) (fun k32=>loopW (S:=((List Nat)×Nat×Nat)) (fun (v34,v35,v36) nx39=>((ltN v36 p0.nodes.length)=true→joinW (α:=((List Nat)×Nat)) (fun k45=>∃ x46,p0.nodes[v36]?=some x46∧((eqN x46.kind 14)=true→0<64∧(v35%64)≤63∧(v34.length+([(((p1/2 ^ (v35%64))%2 ^ 1)%256)]:(List Nat)).length)*1≤2 ^ 47∧v35+1<2 ^ 64∧k45 ((v34++([(((p1/2 ^ (v35%64))%2 ^ 1)%256)]:(List Nat))),(v35+1)))∧((eqN x46.kind 14)=false→k45 (v34,v35))) (fun (v41,v42)=>v36+1<2 ^ 63∧nx39 (v41,v42,(v36+1))))∧((ltN v36 p0.nodes.length)=false→k32 v34)) (([]:List Nat),v11,0)) (fun v29=>K (⟨v10,v29⟩:Pat)))
theorem probecardlaw12_Full_walk {p0:Circ}{p1:Nat}{K:Pat→Prop} (hm:probecardlaw12_Full_wp p0 p1 K) {h0:Heap} (hB:HasB vars h0):∃ r,K r∧CallD Tryz.prog NG 9 ⟨[encCirc p0,n64 p1]⟩ h0 (encPat r) h0:=by
 unfold probecardlaw12_Full_wp at hm
 refine fw Tryz.func9 hB (enc:=encPat) (fun r=>pure_pat _) fun O=>?_;conv=>whnf
 refine gX ?_
 refine fz ?_;refine gH ?_
 have O:=O.addNil (.cells (flatC ((([]:List Nat)).map n8)) false)
 have O:=O.addNil (.cells (flatC ((([]:List Nat)).map n8)) false)
 (first|refine O.new (anew_alloc (l:=[(.slice none 0 0),(.slice none 0 0)]) rfl rfl rfl) fun g1 h O=>?_|refine O.newX (anew_alloc (l:=[(.slice none 0 0),(.slice none 0 0)]) rfl rfl rfl) fun g1 h O=>?_);refine gH ?_
 refine gX ?_
 have O:=O.addNil (.cells (flatC ((([]:List Nat)).map n8)) false)
 have O:=O.addNil (.cells (flatC ((([]:List Nat)).map n8)) false)
 (first|refine O.new (anew_alloc (l:=[(.slice none 0 0),(.slice none 0 0)]) rfl rfl rfl) fun g5 h O=>?_|refine O.newX (anew_alloc (l:=[(.slice none 0 0),(.slice none 0 0)]) rfl rfl rfl) fun g5 h O=>?_);refine gH ?_
 apply Cs;conv=>whnf
 apply Cs;refine gH ?_
 refine jn (σ:=((List Nat)×Nat)×Option Nat) hm 64 [1,2,4,5] (fun s=>s.1) (fun ((v10,v11),a9) h=>(a9=none→v10=[])∧Own vars h0 [((some g1),.cells [(growV 1 none (([]:List Nat).map n8)),(growV 1 none (([]:List Nat).map n8))] false),(none,.cells (flatC (([]:List Nat).map n8)) false),(none,.cells (flatC (([]:List Nat).map n8)) false),((some g5),.cells [(growV 1 a9 (v10.map n8)),(growV 1 none (([]:List Nat).map n8))] false),(a9,.cells (flatC (v10.map n8)) false),(none,.cells (flatC (([]:List Nat).map n8)) false)] h) (fun ((v10,v11),a9)=>[(6,(n64 v11))]) (fun hm=>?_) ?_
 ·refine gX ?_
  refine lw 64 [1,2,4,5] (σ:=((List Nat)×Nat×Nat)×Option Nat) (fun s=>s.1) (fun ((v15,v16,v17),a14) h=>(a14=none→v15=[])∧Own vars h0 [((some g1),.cells [(growV 1 none (([]:List Nat).map n8)),(growV 1 none (([]:List Nat).map n8))] false),(none,.cells (flatC (([]:List Nat).map n8)) false),(none,.cells (flatC (([]:List Nat).map n8)) false),((some g5),.cells [(growV 1 a14 (v15.map n8)),(growV 1 none (([]:List Nat).map n8))] false),(a14,.cells (flatC (v15.map n8)) false),(none,.cells (flatC (([]:List Nat).map n8)) false)] h) (fun ((v15,v16,v17),a14)=>[(6,(n64 v16)),(7,(i64 v17))]) ((([]:List Nat),0,0),none) hm ⟨(fun _=>rfl),(O.sel [3,5,4,0,2,1] (by decide))⟩ ?_
  clear hm;rintro⟨⟨v15,v16,v17⟩,a14⟩ nx19 base h hm ⟨ha18,O⟩
  refine gX ?_
  refine br hm (fun hm=>?_) fun hm=>?_
  ·apply Cs;conv=>whnf
   refine jn (σ:=((List Nat)×Nat)×Option Nat) hm 64 [1,2,4,5,7] (fun s=>s.1) (fun ((v21,v22),a20) h=>(a20=none→v21=[])∧Own vars h0 [((some g1),.cells [(growV 1 none (([]:List Nat).map n8)),(growV 1 none (([]:List Nat).map n8))] false),(none,.cells (flatC (([]:List Nat).map n8)) false),(none,.cells (flatC (([]:List Nat).map n8)) false),((some g5),.cells [(growV 1 a20 (v21.map n8)),(growV 1 none (([]:List Nat).map n8))] false),(a20,.cells (flatC (v21.map n8)) false),(none,.cells (flatC (([]:List Nat).map n8)) false)] h) (fun ((v21,v22),a20)=>[(6,(n64 v22))]) (fun hm=>?_) ?_
   ·refine gX ?_
    refine atF hm fun x25 hx25 hm=>?_;refine gX ?_
    refine br hm (fun hm=>?_) fun hm=>?_
    ·refine gX ?_
     refine ldO (O.at (.tail _ (.tail _ (.tail _ (.head _))))) ?_;refine gH ?_
     refine aRem hm fun hm=>?_;refine gH ?_
     refine aShr64 hm fun hm=>?_;refine gH ?_
     refine aAnd64 1 1 ?_;refine gH ?_
     refine aCw ?_;refine gH ?_
     refine fz ?_;refine gH ?_
     refine O.apL (enc:=n8) (l:=v15) (new:=([(((p1/2 ^ (v16%64))%2 ^ 1)%256)]:(List Nat))) 1 (.tail _ (.tail _ (.tail _ (.tail _ (.head _))))) ha18 hm fun a26 h ha27 O hm=>?_;refine gH ?_
     refine O.stC 1 (.tail _ (.tail _ (.tail _ (.head _)))) [(growV 1 a26 ((v15++([(((p1/2 ^ (v16%64))%2 ^ 1)%256)]:(List Nat))).map n8)),(growV 1 none (([]:List Nat).map n8))] fun h O=>?_;refine gX ?_
     refine⟨_,addU64K (a:=v16) (b:=1) rfl rfl hm.1,?_⟩;refine gH ?_
     replace hm:=hm.2
     exact jx (((v15++([(((p1/2 ^ (v16%64))%2 ^ 1)%256)]:(List Nat))),(v16+1)),a26) hm ⟨ha27,O⟩
    ·refine gX ?_
     exact jx ((v15,v16),a14) hm ⟨ha18,O⟩
   ·clear hm;rintro⟨⟨v21,v22⟩,a20⟩ base h hm ⟨ha23,O⟩
    refine gX ?_
    refine aAdd hm fun hm=>?_;refine gH ?_
    exact jx ((v21,v22,(v17+1)),a20) hm ⟨ha23,O⟩
  ·refine gX ?_
   exact jx ((v15,v16),a14) hm ⟨ha18,O⟩
 ·clear hm;rintro⟨⟨v10,v11⟩,a9⟩ base h hm ⟨ha12,O⟩
  conv=>whnf
  refine jn (σ:=(List Nat)×Option Nat) hm 64 [4,5] (fun s=>s.1) (fun (v29,a28) h=>(a9=none→v10=[])∧(a28=none→v29=[])∧Own vars h0 [((some g1),.cells [(growV 1 none (([]:List Nat).map n8)),(growV 1 none (([]:List Nat).map n8))] false),(none,.cells (flatC (([]:List Nat).map n8)) false),(none,.cells (flatC (([]:List Nat).map n8)) false),((some g5),.cells [(growV 1 a9 (v10.map n8)),(growV 1 a28 (v29.map n8))] false),(a9,.cells (flatC (v10.map n8)) false),(a28,.cells (flatC (v29.map n8)) false)] h) (fun (v29,a28)=>[]) (fun hm=>?_) ?_
  ·refine gX ?_
   refine lw 64 [1,2,4,5] (σ:=((List Nat)×Nat×Nat)×Option Nat) (fun s=>s.1) (fun ((v34,v35,v36),a33) h=>(a9=none→v10=[])∧(a33=none→v34=[])∧Own vars h0 [((some g1),.cells [(growV 1 none (([]:List Nat).map n8)),(growV 1 none (([]:List Nat).map n8))] false),(none,.cells (flatC (([]:List Nat).map n8)) false),(none,.cells (flatC (([]:List Nat).map n8)) false),((some g5),.cells [(growV 1 a9 (v10.map n8)),(growV 1 a33 (v34.map n8))] false),(a9,.cells (flatC (v10.map n8)) false),(a33,.cells (flatC (v34.map n8)) false)] h) (fun ((v34,v35,v36),a33)=>[(6,(n64 v35)),(8,(i64 v36))]) ((([]:List Nat),v11,0),none) hm ⟨ha12,(fun _=>rfl),O⟩ ?_
   clear hm;rintro⟨⟨v34,v35,v36⟩,a33⟩ nx39 base h hm ⟨ha37,ha38,O⟩
   refine gX ?_
   refine br hm (fun hm=>?_) fun hm=>?_
   ·apply Cs;conv=>whnf
    refine jn (σ:=((List Nat)×Nat)×Option Nat) hm 64 [1,2,4,5,8] (fun s=>s.1) (fun ((v41,v42),a40) h=>(a9=none→v10=[])∧(a40=none→v41=[])∧Own vars h0 [((some g1),.cells [(growV 1 none (([]:List Nat).map n8)),(growV 1 none (([]:List Nat).map n8))] false),(none,.cells (flatC (([]:List Nat).map n8)) false),(none,.cells (flatC (([]:List Nat).map n8)) false),((some g5),.cells [(growV 1 a9 (v10.map n8)),(growV 1 a40 (v41.map n8))] false),(a9,.cells (flatC (v10.map n8)) false),(a40,.cells (flatC (v41.map n8)) false)] h) (fun ((v41,v42),a40)=>[(6,(n64 v42))]) (fun hm=>?_) ?_
    ·refine gX ?_
     refine atF hm fun x46 hx46 hm=>?_;refine gX ?_
     refine br hm (fun hm=>?_) fun hm=>?_
     ·refine gX ?_
      refine ldO (O.at (.tail _ (.tail _ (.tail _ (.head _))))) ?_;refine gH ?_
      refine aRem hm fun hm=>?_;refine gH ?_
      refine aShr64 hm fun hm=>?_;refine gH ?_
      refine aAnd64 1 1 ?_;refine gH ?_
      refine aCw ?_;refine gH ?_
      refine fz ?_;refine gH ?_
      refine O.apL (enc:=n8) (l:=v34) (new:=([(((p1/2 ^ (v35%64))%2 ^ 1)%256)]:(List Nat))) 1 (.tail _ (.tail _ (.tail _ (.tail _ (.tail _ (.head _)))))) ha38 hm fun a47 h ha48 O hm=>?_;refine gH ?_
      refine O.stC 1 (.tail _ (.tail _ (.tail _ (.head _)))) [(growV 1 a9 (v10.map n8)),(growV 1 a47 ((v34++([(((p1/2 ^ (v35%64))%2 ^ 1)%256)]:(List Nat))).map n8))] fun h O=>?_;refine gX ?_
      refine⟨_,addU64K (a:=v35) (b:=1) rfl rfl hm.1,?_⟩;refine gH ?_
      replace hm:=hm.2
      exact jx (((v34++([(((p1/2 ^ (v35%64))%2 ^ 1)%256)]:(List Nat))),(v35+1)),a47) hm ⟨ha37,ha48,O⟩
     ·refine gX ?_
      exact jx ((v34,v35),a33) hm ⟨ha37,ha38,O⟩
    ·clear hm;rintro⟨⟨v41,v42⟩,a40⟩ base h hm ⟨ha43,ha44,O⟩
     refine gX ?_
     refine aAdd hm fun hm=>?_;refine gH ?_
     exact jx ((v41,v42,(v36+1)),a40) hm ⟨ha43,ha44,O⟩
   ·refine gX ?_
    exact jx (v34,a33) hm ⟨ha37,ha38,O⟩
  ·clear hm;rintro⟨v29,a28⟩ base h hm ⟨ha30,ha31,O⟩
   refine gX ?_
   refine ldA (O.at (.tail _ (.tail _ (.tail _ (.head _))))) ?_;refine gH ?_
   refine O.stC 2 (.head _) [(growV 1 a9 (v10.map n8)),(growV 1 a28 (v29.map n8))] fun h O=>?_;refine gX ?_
   refine⟨_,resAggK rfl rfl (O.at (.head _)) rfl rfl (lbE rfl) rfl,?_⟩;conv=>whnf
   exact⟨(⟨v10,v29⟩:Pat),hm,O.ext,fun h2 F=>VLe.agg (LLe.cons (O.grownL F (Nat.le_refl _) (.tail _ (.tail _ (.tail _ (.tail _ (.head _))))) ha30 (fun _=>rfl)) (LLe.cons (O.grownL F (Nat.le_refl _) (.tail _ (.tail _ (.tail _ (.tail _ (.tail _ (.head _)))))) ha31 (fun _=>rfl)) (LLe.nil _)))⟩
def probecardlaw17_gate_wp  (K:Circ→Prop):Prop :=
 K (⟨([(⟨0,([]:(List Nat)),0,0⟩:Node),(⟨0,([]:(List Nat)),0,0⟩:Node),(⟨5,([0,1]:(List Nat)),0,0⟩:Node)]:(List Node)),([(⟨#[97]⟩:ByteArray),(⟨#[98]⟩:ByteArray),(⟨#[121]⟩:ByteArray)]:(List ByteArray)),[],([2]:(List Nat))⟩:Circ)
theorem probecardlaw17_gate_walk  {K:Circ→Prop} (hm:probecardlaw17_gate_wp  K) {h0:Heap} (hB:HasB vars h0):∃ r,K r∧CallD Tryz.prog NG 38 ⟨[]⟩ h0 (encCirc r) h0:=by
 unfold probecardlaw17_gate_wp at hm
 refine fw Tryz.func38 hB (enc:=encCirc) (fun r=>pure_circ _) fun O=>?_;conv=>whnf
 refine gX ?_
 (first|refine O.new (anew_alloc (l:=[(.slice none 0 0),(.slice none 0 0),(.slice none 0 0),(.slice none 0 0)]) rfl rfl rfl) fun g1 h O=>?_|refine O.newX (anew_alloc (l:=[(.slice none 0 0),(.slice none 0 0),(.slice none 0 0),(.slice none 0 0)]) rfl rfl rfl) fun g1 h O=>?_);refine gH ?_
 refine gX ?_
 refine fz ?_;refine gH ?_
 refine NewG.frzW rfl (VLe.els (s:=4) (es':=([(⟨0,([]:(List Nat)),0,0⟩:Node),(⟨0,([]:(List Nat)),0,0⟩:Node),(⟨5,([0,1]:(List Nat)),0,0⟩:Node)]).map encNode) rfl (map_size (enc:=encNode) (s:=4) (fun _=>rfl) _) (LLe.cons (VLe.refl _ _) (LLe.cons (VLe.nil _ _) (LLe.cons (VLe.refl _ _) (LLe.cons (VLe.refl _ _) (LLe.cons (VLe.refl _ _) (LLe.cons (VLe.nil _ _) (LLe.cons (VLe.refl _ _) (LLe.cons (VLe.refl _ _) (LLe.cons (VLe.refl _ _) (LLe.cons (VLe.refl _ _) (LLe.cons (VLe.refl _ _) (LLe.cons (VLe.refl _ _) (LLe.nil _)))))))))))))) ?_;refine gH ?_
 refine fz ?_;refine gH ?_
 refine fz ?_;refine gH ?_
 refine O.stC 4 (.head _) [((encL 4 encNode) ([(⟨0,([]:(List Nat)),0,0⟩:Node),(⟨0,([]:(List Nat)),0,0⟩:Node),(⟨5,([0,1]:(List Nat)),0,0⟩:Node)]:(List Node))),((encL 1 Value.string) ([(⟨#[97]⟩:ByteArray),(⟨#[98]⟩:ByteArray),(⟨#[121]⟩:ByteArray)]:(List ByteArray))),(.slice none 0 0),((encL 1 i64) ([2]:(List Nat)))] fun h O=>?_;refine gX ?_
 refine⟨_,resAggK rfl rfl (O.at (.head _)) rfl rfl (lbE rfl) rfl,?_⟩;conv=>whnf
 exact⟨(⟨([(⟨0,([]:(List Nat)),0,0⟩:Node),(⟨0,([]:(List Nat)),0,0⟩:Node),(⟨5,([0,1]:(List Nat)),0,0⟩:Node)]:(List Node)),([(⟨#[97]⟩:ByteArray),(⟨#[98]⟩:ByteArray),(⟨#[121]⟩:ByteArray)]:(List ByteArray)),[],([2]:(List Nat))⟩:Circ),hm,O.ext,fun h2 F=>VLe.agg (LLe.cons (VLe.refl _ _) (LLe.cons (VLe.refl _ _) (LLe.cons (VLe.nil _ _) (LLe.cons (VLe.refl _ _) (LLe.nil _)))))⟩
def probecardlaw17_lives_wp  (K:Bool→Prop):Prop :=
 probecardlaw17_gate_wp  (fun r1=>traces_Critical_wp r1 (⟨([1,1]:(List Nat)),([]:(List Nat))⟩:Pat) (fun r2=>probecardlaw17_gate_wp  (fun r3=>traces_Critical_wp r3 (⟨([0,1]:(List Nat)),([]:(List Nat))⟩:Pat) (fun r4=>probecardlaw17_gate_wp  (fun r5=>traces_Critical_wp r5 (⟨([0,0]:(List Nat)),([]:(List Nat))⟩:Pat) (fun r6=>joinW (α:=Bool) (fun k8=>((neN r2.2 0)=true→k8 true)∧((neN r2.2 0)=false→((neN r4.2 0)=true→k8 true)∧((neN r4.2 0)=false→((neN r6.2 0)=true→k8 true)∧((neN r6.2 0)=false→((neN r2.1.length 5)=true→k8 true)∧((neN r2.1.length 5)=false→((neN r4.1.length 3)=true→k8 true)∧((neN r4.1.length 3)=false→k8 (neN r6.1.length 1))))))) (fun v7=>(v7=true→K false)∧(v7=false→∃ x9,r4.1[0]?=some x9∧(((eqN x9.node 0)&&((eqZ x9.pin (Int.negSucc 0))&&true))=true→∃ x10,r4.1[1]?=some x10∧(((eqN x10.node 2)&&((eqZ x10.pin (Int.negSucc 0))&&true))=true→∃ x11,r4.1[2]?=some x11∧(((eqN x11.node 2)&&((eqZ x11.pin (Int.ofNat 0))&&true))=true→∃ x12,r6.1[0]?=some x12∧∃ x13,r4.1[1]?=some x13∧(((eqN x12.node x13.node)&&((eqZ x12.pin x13.pin)&&true))=true→∃ x14,r2.1[4]?=some x14∧K ((eqN x14.node 2)&&((eqZ x14.pin (Int.ofNat 1))&&true)))∧(((eqN x12.node x13.node)&&((eqZ x12.pin x13.pin)&&true))=false→K false))∧(((eqN x11.node 2)&&((eqZ x11.pin (Int.ofNat 0))&&true))=false→K false))∧(((eqN x10.node 2)&&((eqZ x10.pin (Int.negSucc 0))&&true))=false→K false))∧(((eqN x9.node 0)&&((eqZ x9.pin (Int.negSucc 0))&&true))=false→K false)))))))))
theorem probecardlaw17_lives_walk  {K:Bool→Prop} (hm:probecardlaw17_lives_wp  K) {h0:Heap} (hB:HasB vars h0):∃ r,K r∧CallD Tryz.prog NG 16 ⟨[]⟩ h0 (Value.bool r) h0:=by
 unfold probecardlaw17_lives_wp at hm
 refine fw Tryz.func16 hB (enc:=Value.bool) (fun r=>PureV.flat rfl) fun O=>?_;conv=>whnf
 refine gX ?_
 refine ca (probecardlaw17_gate_walk hm O.has) fun r1 hm=>?_;refine gH ?_
 refine fz ?_;refine gH ?_
 refine caW (traces_Critical_walk hm O.has) (LLe.cons (VLe.refl _ _) (LLe.cons (VLe.agg (LLe.cons (VLe.refl _ _) (LLe.cons (VLe.nil _ _) (LLe.nil _)))) (LLe.nil _))) fun r2 hm=>?_;refine gX ?_
 refine ca (probecardlaw17_gate_walk hm O.has) fun r3 hm=>?_;refine gH ?_
 refine fz ?_;refine gH ?_
 refine caW (traces_Critical_walk hm O.has) (LLe.cons (VLe.refl _ _) (LLe.cons (VLe.agg (LLe.cons (VLe.refl _ _) (LLe.cons (VLe.nil _ _) (LLe.nil _)))) (LLe.nil _))) fun r4 hm=>?_;refine gX ?_
 refine ca (probecardlaw17_gate_walk hm O.has) fun r5 hm=>?_;refine gH ?_
 refine fz ?_;refine gH ?_
 refine caW (traces_Critical_walk hm O.has) (LLe.cons (VLe.refl _ _) (LLe.cons (VLe.agg (LLe.cons (VLe.refl _ _) (LLe.cons (VLe.nil _ _) (LLe.nil _)))) (LLe.nil _))) fun r6 hm=>?_;refine gH ?_
 apply Cs;conv=>whnf
 refine jn hm 88 [1,3,5] (fun s=>s) (fun v7 h=>Own vars h0 [] h) (fun v7=>[(52,(.bool v7))]) (fun hm=>?_) ?_
 ·refine gX ?_
  refine br hm (fun hm=>?_) fun hm=>?_
  ·refine gX ?_
   refine bt ?_;refine gH ?_
   refine bt ?_;refine gH ?_
   refine bt ?_;refine gH ?_
   refine bt ?_;refine gH ?_
   exact jx true hm O
  ·refine gX ?_
   refine br hm (fun hm=>?_) fun hm=>?_
   ·refine gX ?_
    refine bt ?_;refine gH ?_
    refine bt ?_;refine gH ?_
    refine bt ?_;refine gH ?_
    exact jx true hm O
   ·refine gX ?_
    refine br hm (fun hm=>?_) fun hm=>?_
    ·refine gX ?_
     refine bt ?_;refine gH ?_
     refine bt ?_;refine gH ?_
     exact jx true hm O
    ·refine gX ?_
     refine br hm (fun hm=>?_) fun hm=>?_
     ·refine gX ?_
      refine bt ?_;refine gH ?_
      exact jx true hm O
     ·refine gX ?_
      refine br hm (fun hm=>?_) fun hm=>?_
      ·refine gX ?_
       exact jx true hm O
      ·refine gX ?_
       exact jx (neN r6.1.length 1) hm O
 ·clear hm;rintro v7 base h hm O
  refine gX ?_
  refine br hm (fun hm=>?_) fun hm=>?_
  ·refine gX ?_
   exact fe hm O
  ·refine gX ?_
   refine atF hm fun x9 hx9 hm=>?_;refine gH ?_
   first|refine⟨.inr (.inr (rfl)),?_⟩|refine⟨.inr (.inl (by kernel_rfl)),?_⟩
   refine gX ?_
   refine⟨.bool ((eqN x9.node 0)&&((eqZ x9.pin (Int.negSucc 0))&&true)),by kernel_rfl,?_⟩;refine gH ?_
   refine br hm (fun hm=>?_) fun hm=>?_
   ·refine gX ?_
    refine atF hm fun x10 hx10 hm=>?_;refine gH ?_
    first|refine⟨.inr (.inr (rfl)),?_⟩|refine⟨.inr (.inl (by kernel_rfl)),?_⟩
    refine gX ?_
    refine⟨.bool ((eqN x10.node 2)&&((eqZ x10.pin (Int.negSucc 0))&&true)),by kernel_rfl,?_⟩;refine gH ?_
    refine br hm (fun hm=>?_) fun hm=>?_
    ·refine gX ?_
     refine atF hm fun x11 hx11 hm=>?_;refine gH ?_
     first|refine⟨.inr (.inr (rfl)),?_⟩|refine⟨.inr (.inl (by kernel_rfl)),?_⟩
     refine gX ?_
     refine⟨.bool ((eqN x11.node 2)&&((eqZ x11.pin (Int.ofNat 0))&&true)),by kernel_rfl,?_⟩;refine gH ?_
     refine br hm (fun hm=>?_) fun hm=>?_
     ·refine gX ?_
      refine atF hm fun x12 hx12 hm=>?_;refine gH ?_
      first|refine⟨.inr (.inr (rfl)),?_⟩|refine⟨.inr (.inl (by kernel_rfl)),?_⟩
      refine gX ?_
      refine atF hm fun x13 hx13 hm=>?_;refine gH ?_
      first|refine⟨.inr (.inr (rfl)),?_⟩|refine⟨.inr (.inl (by kernel_rfl)),?_⟩
      refine gX ?_
      refine⟨.bool ((eqN x12.node x13.node)&&((eqZ x12.pin x13.pin)&&true)),by kernel_rfl,?_⟩;refine gH ?_
      refine br hm (fun hm=>?_) fun hm=>?_
      ·refine gX ?_
       refine atF hm fun x14 hx14 hm=>?_;refine gH ?_
       first|refine⟨.inr (.inr (rfl)),?_⟩|refine⟨.inr (.inl (by kernel_rfl)),?_⟩
       refine gX ?_
       refine⟨.bool ((eqN x14.node 2)&&((eqZ x14.pin (Int.ofNat 1))&&true)),by kernel_rfl,?_⟩;refine gX ?_
       exact fe hm O
      ·refine gX ?_
       exact fe hm O
     ·refine gX ?_
      refine bf ?_;refine gX ?_
      exact fe hm O
    ·refine gX ?_
     refine bf ?_;refine gH ?_
     refine bf ?_;refine gX ?_
     exact fe hm O
   ·refine gX ?_
    refine bf ?_;refine gH ?_
    refine bf ?_;refine gH ?_
    refine bf ?_;refine gX ?_
    exact fe hm O
theorem containsI_vc {l:List Nat}{x:Nat}{K:Bool→Prop} (hl:l.length<2 ^ 60) (h:K (l.contains x)):sl_ContainsI_wp l x K:=by
 unfold sl_ContainsI_wp sl_IndexI_wp
 have hc:l.contains x=l.any fun v=>x==v:=by rw[List.contains_eq_any_beq]
 rw[hc] at h
 refine find_vc (l:=l) (p:=fun v=>x==v) (K:=fun r=>K (!ltI r (Int.ofNat 0))) hl ?_ ?_ (fun i e=>?_) (fun e=>?_)
 ·intro k i nx y hy a b
  exact⟨fun _=>⟨y,hy,fun e=>a (by simpa using eq_t.1 e),fun e=>b (by simpa using eq_f.1 e)⟩,fun e=>absurd (lt_of_get hy) (by have:=lt_f.1 e;omega)⟩
 ·intro k i nx hi hk
  exact⟨fun e=>absurd (lt_t.1 e) (by omega),fun _=>hk⟩
 ·rw[nonneg_t]
  rw[any_find.1 i e] at h;exact h
 ·rw[any_find.2 e] at h;exact h
theorem takeG {α:Type}{l:List α}{i:Nat}{x:α} (h:l[i]?=some x):l.take (i+1)=l.take i++[x]:=by
 obtain⟨h1,rfl⟩:=List.getElem?_eq_some_iff.1 h
 exact List.take_succ_eq_append_getElem h1
theorem fan_mem {c:Circ}{m k j:Nat}:(⟨k,j⟩:Ln)∈fanOf c m↔(insOf c k)[j]?=some m:=by
 unfold fanOf
 rw[List.mem_flatMap]
 constructor
 ·rintro⟨⟨y,i⟩,h1,h2⟩
  have h1:=List.mem_zipIdx_iff_getElem?.1 h1
  unfold fanNode at h2
  obtain⟨⟨a,b⟩,h3,h4⟩:=List.mem_map.1 h2
  obtain⟨h5,h6⟩:=List.mem_filter.1 h3
  have h7:=List.mem_zipIdx_iff_getElem?.1 h5
  clear h5
  dsimp only at h1 h4 h7 h6
  cases h4
  have h6:a=m:=by simpa using h6
  subst h6
  rw[insOf_eq h1]
  exact h7
 ·intro h
  obtain⟨x,hx,hj⟩:=insOf_node h
  refine⟨⟨x,k⟩,List.mem_zipIdx_iff_getElem?.2 hx,?_⟩
  unfold fanNode
  exact List.mem_map.2 ⟨⟨m,j⟩,List.mem_filter.2 ⟨List.mem_zipIdx_iff_getElem?.2 hj,by simp⟩,rfl⟩
theorem fan_nodup (c:Circ) (m:Nat):(fanOf c m).Nodup:=by
 unfold fanOf
 refine List.pairwise_flatMap.2 ⟨fun p _=>?_,?_⟩
 ·unfold fanNode
  refine List.pairwise_map.2 (List.Pairwise.filter _ ?_)
  refine List.pairwise_iff_getElem.2 fun i j h1 h2 h3=>?_
  simp only[List.getElem_zipIdx]
  intro e
  have:=congrArg Ln.pin e
  simp only at this
  omega
 ·refine List.pairwise_iff_getElem.2 fun i j h1 h2 h3=>?_
  simp only[List.getElem_zipIdx]
  intro x hx y hy e
  unfold fanNode at hx hy
  obtain⟨a,_,rfl⟩:=List.mem_map.1 hx
  obtain⟨b,_,rfl⟩:=List.mem_map.1 hy
  have:=congrArg Ln.node e
  simp only at this
  omega
def manyN (c:Circ) (m:Nat):Nat:=(fanOf c m).length+c.outs.count m
def manyL (c:Circ):List Nat:=(List.range c.nodes.length).map (manyN c)
theorem one_of {c:Circ}{m k j:Nat} (h:manyN c m=1) (hp:(insOf c k)[j]?=some m):One c m k j:=by
 have hm:=fan_mem.2 hp
 have hl:=List.length_pos_of_mem hm
 unfold manyN at h
 refine⟨hp,fun k' j' hp'=>?_,fun ho=>?_⟩
 ·obtain⟨a,ha⟩:=List.length_eq_one_iff.1 (show (fanOf c m).length=1 by omega)
  have h1:=fan_mem.2 hp'
  rw[ha,List.mem_singleton] at hm h1
  rw[← hm] at h1
  exact⟨congrArg Ln.node h1,congrArg Ln.pin h1⟩
 ·have:=List.count_pos_iff.2 ho
  omega
theorem many_zero {c:Circ}{m:Nat} (h:manyN c m=0):(∀ k j:Nat,(insOf c k)[j]?≠some m)∧m ∉ c.outs:=by
 unfold manyN at h
 refine⟨fun k j q=>?_,fun q=>?_⟩
 ·have:=List.length_pos_of_mem (fan_mem.2 q);omega
 ·have:=List.count_pos_iff.2 q;omega
theorem fanZ_get {c:Circ}{x:Nat} (h:x<c.nodes.length):(fanZ c)[x]?=some ((fanOf c x).map Ln.toZ):=by
 unfold fanZ
 rw[List.getElem?_map,fanL_get h]
 rfl
theorem fanZ_len (c:Circ):(fanZ c).length=c.nodes.length:=by unfold fanZ fanL;simp
theorem manyL_get {c:Circ}{x:Nat} (h:x<c.nodes.length):(manyL c)[x]?=some (manyN c x):=by
 unfold manyL
 rw[List.getElem?_map,List.getElem?_range h]
 rfl
theorem ext_getD {l m:List Nat} (h1:l.length=m.length) (h:∀ i,i<l.length→l.getD i 0=m.getD i 0):l=m:=by
 refine List.ext_getElem h1 fun i a b=>?_
 have:=h i a
 rw[List.getD,List.getElem?_eq_getElem a,List.getD,List.getElem?_eq_getElem b] at this
 exact this
theorem loads_wp_vc {c:Circ} (C:Cir c) {K:List (List LnZ)×List Nat→Prop} (h:K (fanZ c,manyL c)):traces_loads_wp c K:=by
 have hlen:=C.len
 have hol:=C.good.outsLen
 unfold traces_loads_wp
 refine⟨C.good.fanOk,by omega,by omega,?_⟩
 refine joinLoop (fun s=>s.2≤c.nodes.length∧s.1.length=c.nodes.length∧∀ i,i<s.2→s.1.getD i 0=(fanOf c i).length) (fun s=>c.nodes.length-s.2) (fun t=>t.length=c.nodes.length∧∀ i,i<c.nodes.length→t.getD i 0=(fanOf c i).length) ?_ ⟨Nat.zero_le _,by simp,fun i hi=>absurd hi (Nat.not_lt_zero _)⟩ ?_
 ·rintro k ⟨t,i⟩ nx ⟨hi,hl,hv⟩ hnx hk
  dsimp only at hi hl hv
  refine⟨fun q=>?_,fun q=>hk _ ⟨hl,fun i' hi'=>hv i' ?_⟩⟩
  ·have q:i<c.nodes.length:=by have:=lt_t.1 q;rwa [fanZ_len] at this
   refine⟨_,fanZ_get q,q,_,getN hl q,by omega,hnx _ ⟨q,by simp[hl],fun i' hi'=>?_⟩ (by dsimp only;omega)⟩
   dsimp only
   rw[getD_set (by omega)]
   by_cases e:i=i'
   ·subst e;rw[if_pos rfl,List.length_map]
   ·rw[if_neg e];exact hv i' (by dsimp only at hi';omega)
  ·have q:c.nodes.length≤i:=by have:=lt_f.1 q;rwa [fanZ_len] at this
   omega
 rintro t ⟨hl,hv⟩
 refine joinLoop (fun s=>s.2≤c.outs.length∧s.1.length=c.nodes.length∧∀ i,i<c.nodes.length→s.1.getD i 0=(fanOf c i).length+(c.outs.take s.2).count i) (fun s=>c.outs.length-s.2) (fun t=>t=manyL c) ?_ ⟨Nat.zero_le _,hl,fun i hi=>by simpa using hv i hi⟩ ?_
 ·rintro k ⟨t,i⟩ nx ⟨hi,hl,hv⟩ hnx hk
  dsimp only at hi hl hv
  refine⟨fun q=>?_,fun q=>hk _ ?_⟩
  ·have q:i<c.outs.length:=lt_t.1 q
   obtain⟨o,ho⟩:=get_lt q
   have hon:o<c.nodes.length:=C.good.outs o (List.mem_of_getElem? ho)
   have b1:(fanOf c o).length≤1000:=fan_len C.good hon
   have b2:(c.outs.take i).count o≤16:=Nat.le_trans List.count_le_length (by rw[List.length_take];omega)
   have:=hv o hon
   refine⟨o,ho,hon,_,getN hl hon,by omega,hon,_,getN hl hon,by omega,hnx _ ⟨q,by simp[hl],fun i' hi'=>?_⟩ (by dsimp only;omega)⟩
   dsimp only
   rw[getD_set (by omega),takeG ho,List.count_append,List.count_singleton]
   by_cases e:o=i'
   ·subst e;rw[if_pos rfl,this];simp;omega
   ·rw[if_neg e,hv i' hi'];simp[e]
  ·have q:c.outs.length≤i:=lt_f.1 q
   refine ext_getD (by unfold manyL;simp[hl]) fun i' hi'=>?_
   rw[List.take_of_length_le q] at hv
   rw[hl] at hi'
   rw[hv i' hi',List.getD,manyL_get hi']
   rfl
 ·rintro _ rfl
  exact⟨by unfold manyL;simp,h⟩
def rowL (c:Circ) (i:Nat):List LnZ:=(List.range ((insOf c i).length+1)).map fun j=>⟨i,Int.ofNat j-Int.ofNat 1⟩
def linesTo (c:Circ) (i:Nat):List LnZ:=(List.range i).flatMap (rowL c)
def linesN (c:Circ):List LnZ:=linesTo c c.nodes.length
theorem linesTo_succ (c:Circ) (i:Nat):linesTo c (i+1)=linesTo c i++rowL c i:=by
 unfold linesTo
 rw[List.range_succ,List.flatMap_append]
 simp
theorem linesTo_len {c:Circ} (C:Cir c):∀ i,i≤c.nodes.length→(linesTo c i).length≤i*17
 |0,_=>by unfold linesTo;simp
 |i+1,h=>by
  have:=linesTo_len C i (by omega)
  obtain⟨x,hx⟩:=get_lt (show i<c.nodes.length from h)
  have:=(C.good.node i x hx).few
  rw[linesTo_succ,List.length_append]
  unfold rowL
  rw[List.length_map,List.length_range,insOf_eq hx]
  omega
theorem lines_vc {c:Circ} (C:Cir c) {K:List LnZ×Nat→Prop} (h:K (linesN c,0)):faults_Lines_wp c K:=by
 have hlen:=C.len
 unfold faults_Lines_wp
 refine valid_vc C ⟨(fun q=>absurd rfl (ne_t.1 q)),fun _=>?_⟩
 refine joinLoop (fun s=>s.2≤c.nodes.length∧s.1=linesTo c s.2) (fun s=>c.nodes.length-s.2) (fun l=>l=linesN c) ?_ ⟨Nat.zero_le _,rfl⟩ (fun _ e=>e ▸ h)
 rintro k ⟨l,i⟩ nx ⟨hi,hl⟩ hnx hk
 dsimp only at hi hl
 refine⟨fun q=>?_,fun q=>hk _ ?_⟩
 ·have q:i<c.nodes.length:=lt_t.1 q
  obtain⟨x,hx⟩:=get_lt q
  have hfew:=(C.good.node i x hx).few
  have hll:=linesTo_len C i hi
  refine joinP (fun r=>r=linesTo c (i+1)) (fun k2 hk2=>⟨x,hx,by omega,?_⟩) ?_
  ·refine loopW_intro (fun s=>s.2≤x.ins.length+1∧s.1=linesTo c i++(rowL c i).take s.2) (fun s=>x.ins.length+1-s.2) ?_ ⟨Nat.zero_le _,by simp[hl]⟩
   rintro⟨l,j⟩ nx ⟨hj,hl⟩ hnx
   dsimp only at hj hl
   refine⟨fun q=>?_,fun q=>hk2 _ ?_⟩
   ·have q:j<x.ins.length+1:=lt_t.1 q
    have hg:(rowL c i)[j]?=some ⟨i,Int.ofNat j-Int.ofNat 1⟩:=by
     unfold rowL
     rw[List.getElem?_map,insOf_eq hx,List.getElem?_range q]
     rfl
    have hb:((rowL c i).take j).length≤17:=by
     rw[List.length_take];omega
    refine⟨by simp only[Int.ofNat_eq_natCast];omega,by simp only[Int.ofNat_eq_natCast];omega,?_,by omega,hnx _ ⟨q,?_⟩ (by dsimp only;omega)⟩
    ·rw[hl,List.length_append,List.length_singleton];omega
    ·dsimp only
     rw[hl,List.append_assoc,takeG hg]
   ·have q:x.ins.length+1≤j:=lt_f.1 q
    rw[hl,linesTo_succ,List.take_of_length_le]
    unfold rowL
    rw[List.length_map,List.length_range,insOf_eq hx]
    exact q
  ·rintro _ rfl
   exact⟨by omega,hnx _ ⟨q,rfl⟩ (by dsimp only;omega)⟩
 ·have q:c.nodes.length≤i:=lt_f.1 q
  have e:i=c.nodes.length:=by omega
  subst e
  exact hl
structure Plz (c:Circ):Prop where
 cir:Cir c
 kinds:∀ (i:Nat) (x:Node),c.nodes[i]?=some x→x.kind≠12∧x.kind≠13
structure Full (c:Circ) (p:Pat):Prop where
 pat:PatOk c p
 inp:∀ v∈p.inp,v≤1
 state:∀ v∈p.state,v≤1
theorem tplain_vc {c:Circ} (P:Plz c) {K:Nat→Prop} (h:K 0):traces_plain_wp c K:=by
 have C:=P.cir
 have hlen:=C.len
 unfold traces_plain_wp
 refine lines_vc C ⟨(fun q=>absurd rfl (ne_t.1 q)),fun _=>of_vc (by omega) (by decide) ⟨fun q=>?_,fun _=>h⟩⟩
 have:ofN c [12,13]=[]:=by
  refine List.eq_nil_iff_forall_not_mem.2 fun i m=>?_
  unfold ofN at m
  obtain⟨h1,h2⟩:=List.mem_filter.1 m
  have h1:=List.mem_range.1 h1
  obtain⟨x,hx⟩:=get_lt h1
  have e:(c.nodes.map Node.kind).getD i 0=x.kind:=kd_eq hx
  rw[e] at h2
  have:=P.kinds i x hx
  simp at h2
  omega
 rw[this] at q
 exact absurd (lt_t.1 q) (Nat.not_lt_zero _)
theorem cfull_vc {l:List Nat}{K:Bool→Prop} (hl:l.length<2 ^ 60) (hv:∀ v∈l,v≤1) (h:K false):cf_tracesFull_wp l K:=by
 unfold cf_tracesFull_wp cf_tracesFullI_wp
 refine search_none (l:=l) ?_ ?_ h
 ·intro k i nx x hx hi hn
  have hv:=hv x (List.mem_of_getElem? hx)
  refine⟨fun _=>⟨x,hx,known_vc ?_⟩,fun q=>?_⟩
  ·rw[decide_eq_true hv]
   exact⟨(fun e=>by cases e),fun _=>⟨by omega,hn⟩⟩
  ·have:=lt_f.1 q;omega
 ·intro k i nx hi hk
  refine⟨fun q=>?_,fun _=>hk⟩
  have:=lt_t.1 q;omega
theorem simsCheck_vc {c:Circ} (C:Cir c) {p:Pat} (hp:PatOk c p) {K:Nat→Prop} (h:K 0):sims_Check_wp c p K:=by
 unfold sims_Check_wp
 exact check_vc C.good ⟨(fun q=>absurd rfl (ne_t.1 q)),fun _=>fits_vc C hp h⟩
theorem tfull_vc {c:Circ} (C:Cir c) {p:Pat} (F:Full c p) {K:Nat→Prop} (h:K 0):traces_full_wp c p K:=by
 have hlen:=C.len
 have l1:=ofN_len c [0]
 have l2:=ofN_len c [14]
 have h1:=F.pat.inp
 have h2:=F.pat.state
 unfold traces_full_wp
 refine simsCheck_vc C F.pat ⟨(fun q=>absurd rfl (ne_t.1 q)),fun _=>?_⟩
 exact joinB' (a:=false) (fun G=>cfull_vc (by omega) F.inp ⟨(fun e=>by cases e),fun _=>cfull_vc (by omega) F.state G⟩) ⟨(fun e=>by cases e),fun _=>h⟩
theorem evalN_bin {k:Nat}{l:List Nat} (hk0:1≤k) (hk:k<12) (h:∀ v∈l,v≤1):evalN k l≤1:=by
 have g:∀ i,l.getD i 0≤1:=by
  intro i
  by_cases q:i<l.length
  ·exact h _ (getD_mem q)
  ·rw[List.getD,List.getElem?_eq_none (by omega)];exact Nat.zero_le _
 have hn:∀ v,v≤1→notN v≤1:=fun v hv=>by unfold notN;split <;> omega
 have hd:∀ (low high:Nat) (l:List Nat),low+high=1→(∀ v∈l,v≤1)→∀ o,o≤1→decN low high l o≤1:=by
  intro low high l hs
  induction l with
  |nil=>intro _ o ho;exact ho
  |cons v r ih =>
   intro hv o ho
   have h1:=hv v (.head _)
   unfold decN
   split
   ·omega
   ·rw[if_pos (by omega)]
    exact ih (fun v m=>hv v (.tail _ m)) o ho
 have hx:∀ (l:List Nat),(∀ v∈l,v≤1)→∀ o,o≤1→xorN l o≤1:=by
  intro l
  induction l with
  |nil=>intro _ o ho;exact ho
  |cons v r ih =>
   intro hv o ho
   have h1:=hv v (.head _)
   unfold xorN
   rw[if_pos h1]
   refine ih (fun v m=>hv v (.tail _ m)) _ ?_
   have q1:o=0∨o=1:=by omega
   have q2:v=0∨v=1:=by omega
   rcases q1 with rfl|rfl <;> rcases q2 with rfl|rfl <;> decide
 have g0:=g 0
 have g1:=g 1
 have g2:=g 2
 unfold evalN
 split;· omega
 split;· omega
 split;· omega
 split;· exact hn _ g0
 split;· exact hd 0 1 l rfl h 1 (by decide)
 split;· exact hn _ (hd 0 1 l rfl h 1 (by decide))
 split;· exact hd 1 0 l rfl h 0 (by decide)
 split;· exact hn _ (hd 1 0 l rfl h 0 (by decide))
 split;· exact hx l h 0 (by decide)
 split;· exact hn _ (hx l h 0 (by decide))
 split
 ·unfold muxN
  repeat' split
  all_goals omega
 ·omega
theorem V_bin {c:Circ} (P:Plz c) {p:Pat} (F:Full c p):∀ i,(valV c p).getD i 0≤1:=by
 have C:=P.cir
 have V:=V_sol C F.pat
 have key:∀ n i,i<n→(valV c p).getD i 0≤1:=by
  intro n
  induction n with
  |zero=>intro i h;omega
  |succ n ih =>
   intro i hi
   by_cases q:i<c.nodes.length
   ·obtain⟨x,hx⟩:=get_lt q
    rw[V.val i x hx]
    unfold idN
    cases hc:combB x.kind with
    |true =>
     rw[comb_base hc]
     have hc':=of_decide_eq_true hc
     have:=P.kinds i x hx
     unfold evalG
     rw[if_neg (by omega),if_neg (by omega)]
     refine evalN_bin hc'.1 (by omega) fun v hv=>?_
     unfold readV idP at hv
     rw[List.mem_mapIdx] at hv
     obtain⟨a,ha,rfl⟩:=hv
     exact ih _ (by have:=ins_lt C hx hc (List.getElem_mem ha);omega)
    |false =>
     rw[noncomb_base hc]
     have k2:∀ (l:List Nat) (j:Nat),(∀ v∈l,v≤1)→l.getD j 0≤1:=by
      intro l j h
      by_cases q:j<l.length
      ·exact h _ (getD_mem q)
      ·rw[List.getD,List.getElem?_eq_none (by omega)];exact Nat.zero_le _
     unfold srcV
     split
     ·exact k2 _ _ F.inp
     split
     ·exact k2 _ _ F.state
     ·omega
   ·rw[List.getD,List.getElem?_eq_none (by rw[V.len];omega)];exact Nat.zero_le _
 exact fun i=>key (i+1) i (by omega)
def chgL (t ins:List Nat) (j:Nat):List Nat:=ins.mapIdx fun i y=>if i=j then notN (t.getD y 0) else t.getD y 0
def chgB (c:Circ) (t:List Nat) (k j:Nat):Bool:=neN (evalG (kd c k) (chgL t (insOf c k) j)) (t.getD k 0)
def critN (c:Circ) (p:Pat) (m:Nat):Bool:=detN c p m (notN ((valV c p).getD m 0))
def critP (c:Circ) (p:Pat) (k j:Nat):Bool:=detP c p k j (notN ((valV c p).getD ((insOf c k).getD j 0) 0))
def netOf (c:Circ) (l:LnZ):Nat:=if l.pin<0 then l.node else (insOf c l.node).getD l.pin.toNat 0
theorem netOf_pin (c:Circ) (k j:Nat):netOf c ⟨k,Int.ofNat j⟩=(insOf c k).getD j 0:=by
 have h:¬ (Int.ofNat j<0):=Int.not_lt.2 (Int.natCast_nonneg j)
 unfold netOf
 dsimp only
 rw[if_neg h]
 rfl
def critL (c:Circ) (p:Pat) (l:LnZ):Bool:=detB c p ⟨0,l,notN ((valV c p).getD (netOf c l) 0),0⟩
theorem critL_net (c:Circ) (p:Pat) (m:Nat):critL c p ⟨m,Int.negSucc 0⟩=critN c p m:=by
 unfold critL
 rw[det_net]
 rfl
theorem critL_pin (c:Circ) (p:Pat) (k j:Nat):critL c p ⟨k,Int.ofNat j⟩=critP c p k j:=by
 unfold critL
 rw[det_pin]
 rw[netOf_pin]
 rfl
theorem readF_eq {t:List Nat}{k j y:Nat}{x:Node} (hj:x.ins[j]?=some y):readV (pinF k (Int.ofNat j) (notN (t.getD y 0))) t k x=chgL t x.ins j:=by
 unfold readV chgL
 refine List.ext_getElem (by simp) fun a b d=>?_
 simp only[List.getElem_mapIdx]
 unfold pinF
 have ha:a<x.ins.length:=by simpa using b
 by_cases e:a=j
 ·subst e
  rw[List.getElem?_eq_getElem ha] at hj
  cases hj
  rw[if_pos ⟨rfl,rfl⟩,if_pos rfl]
 ·rw[if_neg e,if_neg]
  rintro⟨_,q⟩
  exact e (Int.ofNat.inj q)
theorem getD_eq {l:List Nat}{j y:Nat} (h:l[j]?=some y):l.getD j 0=y:=by rw[List.getD,h];rfl
theorem notN_bin {v:Nat} (h:v≤1):notN v=1-v:=by unfold notN;rw[if_pos h]
theorem notN_3 (v:Nat):notN v≤3:=by unfold notN;split <;> omega
theorem chg_le {c:Circ} (P:Plz c) {p:Pat} (F:Full c p) {k j:Nat}{x:Node} (hx:c.nodes[k]?=some x) (hc:combB x.kind=true):evalG x.kind (chgL (valV c p) x.ins j)≤1:=by
 have hc':=of_decide_eq_true hc
 have:=P.kinds k x hx
 unfold evalG
 rw[if_neg (by omega),if_neg (by omega)]
 refine evalN_bin hc'.1 (by omega) fun v hv=>?_
 unfold chgL at hv
 rw[List.mem_mapIdx] at hv
 obtain⟨a,ha,rfl⟩:=hv
 have:=V_bin P F x.ins[a]
 split
 ·rw[notN_bin this];omega
 ·exact this
theorem critP_gate {c:Circ} (P:Plz c) {p:Pat} (F:Full c p) {k j y:Nat}{x:Node} (hx:c.nodes[k]?=some x) (hc:combB x.kind=true) (hj:x.ins[j]?=some y):critP c p k j=(chgB c (valV c p) k j&&critN c p k):=by
 have C:=P.cir
 have hp:=F.pat
 have e1:(insOf c k).getD j 0=y:=by rw[insOf_eq hx];exact getD_eq hj
 have hu:=chg_le P F (j:=j) hx hc
 have hv:=V_bin P F k
 unfold critP critN chgB
 rw[e1,pin_gate C hp (notN_3 _) hx hc,readF_eq hj,kd_eq hx,insOf_eq hx]
 by_cases e:evalG x.kind (chgL (valV c p) x.ins j)=(valV c p).getD k 0
 ·rw[e,detN_same C hp,ne_f.2 rfl]
  rfl
 ·have:evalG x.kind (chgL (valV c p) x.ins j)=notN ((valV c p).getD k 0):=by rw[notN_bin hv];omega
  rw[ne_t.2 e,this,Bool.true_and]
theorem con_not {v:Nat} (h:v≤1):Con v (notN v):=by rw[notN_bin h];exact⟨h,by omega,by omega⟩
theorem critP_dff {c:Circ} (P:Plz c) {p:Pat} (F:Full c p) {k j:Nat}{x:Node} (hx:c.nodes[k]?=some x) (hk:x.kind=14) (hj:j<x.ins.length):critP c p k j=true:=by
 have C:=P.cir
 obtain⟨y,hy,_,hd,hl⟩:=dff_pin C (c:=c) (s:=k) (ofN_mem.2 ⟨lt_of_get hx,by rw[kd_eq hx];exact hk⟩)
 rw[hx] at hy;cases hy
 have j0:j=0:=by omega
 subst j0
 have hv:=V_bin P F (dOf c k)
 have e:(insOf c k).getD 0 0=dOf c k:=rfl
 unfold critP
 rw[e,detP_state C F.pat (notN_3 _) hx hk,decide_eq_true_eq,notN_bin hv]
 exact⟨by omega,by omega,by omega⟩
theorem critN_out {c:Circ} (P:Plz c) {p:Pat} (F:Full c p) {m:Nat} (h:m∈c.outs):critN c p m=true :=
 net_out P.cir F.pat (notN_3 _) (P.cir.good.outs m h) h (con_not (V_bin P F m))
theorem critN_dff {c:Circ} (P:Plz c) {p:Pat} (F:Full c p) {k j m:Nat} (hk:kd c k=14) (h:(insOf c k)[j]?=some m):critN c p m=true:=by
 have C:=P.cir
 obtain⟨x,hx,hj⟩:=insOf_node h
 have hs:k∈ofN c [14]:=ofN_mem.2 ⟨lt_of_get hx,hk⟩
 obtain⟨y,hy,_,hd,hl⟩:=dff_pin C hs
 rw[hx] at hy;cases hy
 have j0:j=0:=by have:=lt_of_get hj;omega
 subst j0
 rw[hd] at h
 cases h
 exact net_state C F.pat (notN_3 _) hs (con_not (V_bin P F _))
theorem critN_one {c:Circ} (P:Plz c) {p:Pat} (F:Full c p) {m k j:Nat} (h:One c m k j) (hm:m<c.nodes.length):critN c p m=critP c p k j:=by
 unfold critN critP
 rw[getD_eq h.pin]
 exact net_one P.cir F.pat (notN_3 _) h hm
theorem critN_none {c:Circ} (P:Plz c) {p:Pat} (F:Full c p) {m:Nat} (h:manyN c m=0) (hm:m<c.nodes.length):critN c p m=false :=
 net_none P.cir F.pat (notN_3 _) hm (many_zero h).1 (many_zero h).2
theorem pin_comb {c:Circ} (P:Plz c) {k j m:Nat}{x:Node} (hx:c.nodes[k]?=some x) (hj:x.ins[j]?=some m) (hk:x.kind≠14):combB x.kind=true:=by
 refine decide_eq_true ?_
 have:=P.cir.kinds k x hx
 by_cases e:x.kind=0
 ·have ha:=(P.cir.good.node k x hx).arity
  rw[e] at ha
  have:hiZ 0=0:=by decide
  have q:=ha.2
  rw[this] at q
  have:=lt_of_get hj
  simp only[Int.ofNat_eq_natCast] at q
  omega
 ·omega
inductive Rch (c:Circ) (t:List Nat) (s:Nat):Nat→Prop
 |base:Rch c t s s
 |step {k j m:Nat} {x:Node}:Rch c t s k→c.nodes[k]?=some x→combB x.kind=true→x.ins[j]?=some m→chgB c t k j=true→manyN c m=1→Rch c t s m
def startB (c:Circ) (p:Pat) (n:Nat):Bool:=(c.outs.contains n||(decide (1<manyN c n)&&critN c p n))||(fanOf c n).any fun l=>kd c l.node==14
def InW (c:Circ) (t:List Nat) (s:Nat) (l:LnZ):Prop:=Rch c t s l.node∧(l.pin=Int.negSucc 0∨∃ j x,l.pin=Int.ofNat j∧c.nodes[l.node]?=some x∧combB x.kind=true∧j<x.ins.length∧chgB c t l.node j=true)
theorem Rch.le {c:Circ} (C:Cir c) {t:List Nat}{s m:Nat} (h:Rch c t s m):m≤s:=by
 induction h with
 |base=>exact Nat.le_refl _
 |step _ hx hc hj _ _ ih=>have:=ins_lt C hx hc (List.mem_of_getElem? hj);omega
theorem Rch.lt {c:Circ} (C:Cir c) {t:List Nat}{s m:Nat} (hs:s<c.nodes.length) (h:Rch c t s m):m<c.nodes.length:=Nat.lt_of_le_of_lt (h.le C) hs
theorem not_start {c:Circ}{p:Pat}{k j m:Nat}{x:Node} (hx:c.nodes[k]?=some x) (hc:combB x.kind=true) (hj:x.ins[j]?=some m) (h1:manyN c m=1):startB c p m=false:=by
 have o:=one_of h1 (by rw[insOf_eq hx];exact hj)
 unfold startB
 have a1:c.outs.contains m=false:=by
  rw[Bool.eq_false_iff]
  intro q
  exact o.outs (List.contains_iff_mem.1 q)
 have a2:(fanOf c m).any (fun l=>kd c l.node==14)=false:=by
  rw[List.any_eq_false]
  rintro⟨a,b⟩ hm q
  have q:kd c a=14:=by simpa using q
  obtain⟨rfl,rfl⟩:=o.only a b (fan_mem.1 hm)
  rw[kd_eq hx] at q
  have:=of_decide_eq_true hc
  omega
 rw[a1,a2,h1]
 rfl
theorem Rch.uniq {c:Circ}{p:Pat}{t:List Nat}{s s' m:Nat} (hs:startB c p s=true) (hs':startB c p s'=true) (h:Rch c t s m):Rch c t s' m→s=s':=by
 induction h with
 |base =>
  intro h'
  cases h' with
  |base=>rfl
  |step _ hx hc hj _ h1=>rw[not_start hx hc hj h1] at hs;cases hs
 |step hr hx hc hj _ h1 ih =>
  intro h'
  cases h' with
  |base=>rw[not_start hx hc hj h1] at hs';cases hs'
  |step hr' hx' hc' hj' _ _ =>
   have o:=one_of h1 (by rw[insOf_eq hx];exact hj)
   have:=(o.only _ _ (by rw[insOf_eq hx'];exact hj')).1
   subst this
   exact ih hr'
theorem start_crit {c:Circ} (P:Plz c) {p:Pat} (F:Full c p) {s:Nat} (h:startB c p s=true):critN c p s=true:=by
 unfold startB at h
 rw[Bool.or_eq_true,Bool.or_eq_true,Bool.and_eq_true] at h
 rcases h with (h|h) | h
 ·exact critN_out P F (List.contains_iff_mem.1 h)
 ·exact h.2
 ·obtain⟨⟨a,b⟩,hm,q⟩:=List.any_eq_true.1 h
  exact critN_dff P F (by simpa using q) (fan_mem.1 hm)
theorem Rch.crit {c:Circ} (P:Plz c) {p:Pat} (F:Full c p) {s m:Nat} (hs:critN c p s=true) (h:Rch c (valV c p) s m):critN c p m=true:=by
 induction h with
 |base=>exact hs
 |step hr hx hc hj hg h1 ih =>
  have o:=one_of h1 (by rw[insOf_eq hx];exact hj)
  have hm:=(P.cir.good.node _ _ hx).ins _ (List.mem_of_getElem? hj)
  rw[critN_one P F o hm,critP_gate P F hx hc hj,hg,ih]
  rfl
theorem crit_cover {c:Circ} (P:Plz c) {p:Pat} (F:Full c p):∀ n m,m<c.nodes.length→c.nodes.length-m≤n→critN c p m=true→∃ s,s<c.nodes.length∧startB c p s=true∧Rch c (valV c p) s m:=by
 have C:=P.cir
 intro n
 induction n with
 |zero=>intro m h1 h2;omega
 |succ n ih =>
  intro m hm hn hcr
  by_cases hs:startB c p m=true
  ·exact⟨m,hm,hs,.base⟩
  have hs0:=hs
  unfold startB at hs
  rw[Bool.or_eq_true,Bool.or_eq_true,Bool.and_eq_true,not_or,not_or] at hs
  obtain⟨⟨a1,a2⟩,a3⟩:=hs
  have h1:¬ 1<manyN c m:=fun q=>a2 ⟨decide_eq_true q,hcr⟩
  have h0:manyN c m≠0:=fun q=>by rw[critN_none P F q hm] at hcr;cases hcr
  have h1:manyN c m=1:=by omega
  have ho:m ∉ c.outs:=fun q=>a1 (List.contains_iff_mem.2 q)
  have hf:(fanOf c m).length=1:=by
   unfold manyN at h1
   rw[List.count_eq_zero.2 ho] at h1
   exact h1
  obtain⟨⟨k,j⟩,hl⟩:=List.length_eq_one_iff.1 hf
  have hmem:(⟨k,j⟩:Ln)∈fanOf c m:=by rw[hl];exact .head _
  have hpin:=fan_mem.1 hmem
  obtain⟨x,hx,hj⟩:=insOf_node hpin
  have hk:x.kind≠14:=fun q=>a3 (List.any_eq_true.2 ⟨_,hmem,by rw[kd_eq hx,q];rfl⟩)
  have hc:=pin_comb P hx hj hk
  have o:=one_of h1 hpin
  have:=ins_lt C hx hc (List.mem_of_getElem? hj)
  rw[critN_one P F o hm,critP_gate P F hx hc hj,Bool.and_eq_true] at hcr
  obtain⟨s,hsn,hss,hr⟩:=ih k (lt_of_get hx) (by omega) hcr.2
  exact⟨s,hsn,hss,hr.step hx hc hj hcr.1 h1⟩
def PartW (c:Circ) (p:Pat) (m:Nat) (l:LnZ):Prop:=(l∈(fanOf c m).map Ln.toZ∧kd c l.node=14)∨(startB c p m=true∧InW c (valV c p) m l)
theorem toZ_mem {c:Circ}{m:Nat}{l:LnZ}:l∈(fanOf c m).map Ln.toZ ↔ ∃ j,l.pin=Int.ofNat j∧(insOf c l.node)[j]?=some m:=by
 rw[List.mem_map]
 constructor
 ·rintro⟨⟨a,b⟩,h,rfl⟩
  exact⟨b,rfl,fan_mem.1 h⟩
 ·rintro⟨j,h1,h2⟩
  refine⟨⟨l.node,j⟩,fan_mem.2 h2,?_⟩
  obtain⟨a,b⟩:=l
  dsimp only at h1
  subst h1
  rfl
theorem part_uniq {c:Circ}{p:Pat}{m m':Nat}{l:LnZ} (h:PartW c p m l) (h':PartW c p m' l):m=m':=by
 have mix:∀ {a b:Nat},(l∈(fanOf c a).map Ln.toZ∧kd c l.node=14)→InW c (valV c p) b l→False:=by
  rintro a b ⟨h1,h2⟩ ⟨_,h3⟩
  obtain⟨j,e,_⟩:=toZ_mem.1 h1
  rcases h3 with h3|⟨j',x,h3,hx,hc,_⟩
  ·rw[e] at h3;cases h3
  ·rw[kd_eq hx] at h2
   have:=of_decide_eq_true hc
   omega
 rcases h with⟨h1,h2⟩|⟨h1,h2⟩ <;> rcases h' with⟨h3,h4⟩|⟨h3,h4⟩
 ·obtain⟨j,e,g⟩:=toZ_mem.1 h1
  obtain⟨j',e',g'⟩:=toZ_mem.1 h3
  rw[e] at e'
  cases e'
  rw[g] at g'
  exact Option.some.inj g'
 ·exact (mix ⟨h1,h2⟩ h4).elim
 ·exact (mix ⟨h3,h4⟩ h2).elim
 ·exact Rch.uniq h1 h3 h2.1 h4.1
theorem line_mem {c:Circ}{l:LnZ}:l∈linesN c↔l.node<c.nodes.length∧(l.pin=Int.negSucc 0∨∃ j,l.pin=Int.ofNat j∧j<(insOf c l.node).length):=by
 unfold linesN linesTo rowL
 rw[List.mem_flatMap]
 constructor
 ·rintro⟨i,hi,h⟩
  obtain⟨j,hj,rfl⟩:=List.mem_map.1 h
  have hi:=List.mem_range.1 hi
  have hj:=List.mem_range.1 hj
  refine⟨hi,?_⟩
  cases j with
  |zero=>exact .inl rfl
  |succ j=>exact .inr ⟨j,by simp only[Int.ofNat_eq_natCast];omega,by dsimp only;omega⟩
 ·obtain⟨n,q⟩:=l
  rintro⟨h1,h2⟩
  dsimp only at h1 h2
  refine⟨n,List.mem_range.2 h1,?_⟩
  rcases h2 with rfl|⟨j,rfl,hj⟩
  ·exact List.mem_map.2 ⟨0,List.mem_range.2 (by omega),rfl⟩
  ·exact List.mem_map.2 ⟨j+1,List.mem_range.2 (by omega),by simp only[Int.ofNat_eq_natCast,LnZ.mk.injEq,true_and];omega⟩
theorem inW_line {c:Circ} (P:Plz c) {p:Pat} (_F:Full c p) {s:Nat}{l:LnZ} (hs:s<c.nodes.length) (h:InW c (valV c p) s l):l∈linesN c:=by
 obtain⟨h1,h2⟩:=h
 refine line_mem.2 ⟨h1.lt P.cir hs,?_⟩
 rcases h2 with h2|⟨j,x,h2,hx,_,hj,_⟩
 ·exact .inl h2
 ·exact .inr ⟨j,h2,by rw[insOf_eq hx];exact hj⟩
theorem part_crit {c:Circ} (P:Plz c) {p:Pat} (F:Full c p) {l:LnZ}:(∃ m,m<c.nodes.length∧PartW c p m l)↔l∈linesN c∧critL c p l=true:=by
 have C:=P.cir
 constructor
 ·rintro⟨m,hm,h⟩
  rcases h with⟨h1,h2⟩|⟨h1,h2⟩
  ·obtain⟨j,e,g⟩:=toZ_mem.1 h1
   obtain⟨x,hx,hj⟩:=insOf_node g
   rw[kd_eq hx] at h2
   have hl:=lt_of_get hj
   refine⟨line_mem.2 ⟨lt_of_get hx,.inr ⟨j,e,by rw[insOf_eq hx];exact hl⟩⟩,?_⟩
   obtain⟨a,b⟩:=l
   dsimp only at e
   subst e
   rw[critL_pin]
   exact critP_dff P F hx h2 hl
  ·refine⟨inW_line P F hm h2,?_⟩
   obtain⟨h3,h4⟩:=h2
   have hcr:=Rch.crit P F (start_crit P F h1) h3
   obtain⟨a,b⟩:=l
   dsimp only at h3 h4 hcr
   rcases h4 with rfl|⟨j,x,rfl,hx,hc,hj,hg⟩
   ·rw[critL_net];exact hcr
   ·obtain⟨y,hy⟩:=get_lt hj
    rw[critL_pin,critP_gate P F hx hc hy,hg,hcr]
    rfl
 ·rintro⟨h1,h2⟩
  obtain⟨h3,h4⟩:=line_mem.1 h1
  obtain⟨a,b⟩:=l
  dsimp only at h3 h4
  rcases h4 with rfl|⟨j,rfl,hj⟩
  ·rw[critL_net] at h2
   obtain⟨s,hs,hss,hr⟩:=crit_cover P F _ a h3 (Nat.le_refl _) h2
   exact⟨s,hs,.inr ⟨hss,hr,.inl rfl⟩⟩
  ·obtain⟨x,hx⟩:=get_lt h3
   rw[insOf_eq hx] at hj
   obtain⟨y,hy⟩:=get_lt hj
   by_cases hk:x.kind=14
   ·have hyn:=(C.good.node a x hx).ins y (List.mem_of_getElem? hy)
    exact⟨y,hyn,.inl ⟨toZ_mem.2 ⟨j,rfl,by rw[insOf_eq hx];exact hy⟩,by rw[kd_eq hx];exact hk⟩⟩
   ·have hc:=pin_comb P hx hy hk
    rw[critL_pin,critP_gate P F hx hc hy,Bool.and_eq_true] at h2
    obtain⟨s,hs,hss,hr⟩:=crit_cover P F _ a h3 (Nat.le_refl _) h2.2
    exact⟨s,hs,.inr ⟨hss,hr,.inr ⟨j,x,rfl,hx,hc,hj,h2.1⟩⟩⟩
theorem changes_vc {c:Circ} (C:Cir c) {t:List Nat} (ht:t.length=c.nodes.length) {k:Nat}{x:Node} (hx:c.nodes[k]?=some x) (hc:combB x.kind=true) (j:Nat) {K:Bool→Prop} (h:K (chgB c t k j)):traces_changes_wp c t k j K:=by
 have g:=C.good.node k x hx
 have hfew:=g.few
 unfold traces_changes_wp
 refine joinP (fun l=>l=chgL t x.ins j) (fun k1 hk1=>⟨x,hx,?_⟩) ?_
 ·refine loopW_intro (fun s=>s.2≤x.ins.length∧s.1=(chgL t x.ins j).take s.2) (fun s=>x.ins.length-s.2) ?_ ⟨Nat.zero_le _,rfl⟩
  rintro⟨l,i⟩ nx ⟨hi,hl⟩ hnx
  dsimp only at hi hl
  refine⟨fun q=>?_,fun q=>hk1 _ ?_⟩
  ·have q:i<x.ins.length:=lt_t.1 q
   obtain⟨y,hy⟩:=get_lt q
   have hyn:=g.ins y (List.mem_of_getElem? hy)
   have hv:(chgL t x.ins j)[i]?=some (if i=j then notN (t.getD y 0) else t.getD y 0):=by
    unfold chgL
    rw[List.getElem?_mapIdx,hy]
    rfl
   have hll:l.length≤16:=by rw[hl,List.length_take];omega
   refine⟨y,hy,_,getN ht hyn,joinB' (a:=if i=j then notN (t.getD y 0) else t.getD y 0) (fun G=>⟨fun q=>not_vc ?_,fun q=>?_⟩) ⟨by simp only[List.length_cons,List.length_nil];omega,by omega,hnx _ ⟨q,?_⟩ (by dsimp only;omega)⟩⟩
   ·rw[if_pos (eq_t.1 q)] at G;exact G
   ·rw[if_neg (eq_f.1 q)] at G;exact G
   ·dsimp only
    rw[hl,takeG hv]
  ·have q:x.ins.length≤i:=lt_f.1 q
   rw[hl,List.take_of_length_le (by unfold chgL;rw[List.length_mapIdx];exact q)]
 ·rintro _ rfl
  refine⟨x,hx,evalNode C hx hc (by unfold chgL;rw[List.length_mapIdx]) ⟨_,getN ht (lt_of_get hx),?_⟩⟩
  unfold chgB at h
  rw[kd_eq hx,insOf_eq hx] at h
  exact h
theorem nodupLen {α:Type} [DecidableEq α]:∀ {l m:List α},l.Nodup→(∀ x∈l,x∈m)→l.length≤m.length
 |[],_,_,_=>Nat.zero_le _
 |a::l,m,hn,hs=>by
  obtain⟨h1,h2⟩:=List.nodup_cons.1 hn
  have ha:a∈m:=hs a (.head _)
  have:=nodupLen (m:=m.erase a) h2 fun x hx=>(List.mem_erase_of_ne (fun e=>h1 (by rw[← e];exact hx))).2 (hs x (.tail _ hx))
  rw[List.length_erase_of_mem ha] at this
  have:=List.length_pos_of_mem ha
  rw[List.length_cons]
  omega
theorem nodup_snoc {α:Type}{l:List α}{a:α}:(l++[a]).Nodup↔l.Nodup∧a ∉ l:=by
 rw[List.nodup_append]
 constructor
 ·rintro⟨h1,_,h3⟩
  exact⟨h1,fun m=>h3 a m a (.head _) rfl⟩
 ·rintro⟨h1,h2⟩
  refine⟨h1,List.pairwise_singleton _ _,fun x hx y hy e=>h2 ?_⟩
  rw[List.mem_singleton] at hy
  rw[← hy,← e];exact hx
structure Wk (c:Circ) (t:List Nat) (s:Nat) (out:List LnZ) (st:List Nat) (k j:Nat):Prop where
 nd:out.Nodup
 sub:∀ l∈out,InW c t s l
 snd:st.Nodup
 stn:∀ q∈st,(⟨q,Int.negSucc 0⟩:LnZ)∈out∧∀ i:Nat,(⟨q,Int.ofNat i⟩:LnZ) ∉ out
 root:(⟨s,Int.negSucc 0⟩:LnZ)∈out
 par:∀ m,(⟨m,Int.negSucc 0⟩:LnZ)∈out→m=s∨∃ a b,(insOf c a)[b]?=some m∧(⟨a,Int.ofNat b⟩:LnZ)∈out
 cls:∀ q,(⟨q,Int.negSucc 0⟩:LnZ)∈out→q ∉ st→∀ i x y,(q=k→i<j)→c.nodes[q]?=some x→combB x.kind=true→x.ins[i]?=some y→chgB c t q i=true→(⟨q,Int.ofNat i⟩:LnZ)∈out∧(manyN c y=1→(⟨y,Int.negSucc 0⟩:LnZ)∈out)
 free:∀ i,j≤i→(⟨k,Int.ofNat i⟩:LnZ) ∉ out
 kst:k ∉ st
 own:∀ q i,(⟨q,Int.ofNat i⟩:LnZ)∈out→(⟨q,Int.negSucc 0⟩:LnZ)∈out
theorem Wk.start {c:Circ}{t:List Nat}{s:Nat} (hs:s<c.nodes.length):Wk c t s [⟨s,Int.negSucc 0⟩] [s] c.nodes.length 0 where
 nd:=List.pairwise_singleton _ _
 sub l h:=by rw[List.mem_singleton] at h;subst h;exact⟨.base,.inl rfl⟩
 snd:=List.pairwise_singleton _ _
 stn q h:=by rw[List.mem_singleton] at h;subst h;exact⟨.head _,fun i m=>by rw[List.mem_singleton] at m;cases m⟩
 root:=.head _
 par m h:=by rw[List.mem_singleton] at h;cases h;exact .inl rfl
 cls q h1 h2:=by rw[List.mem_singleton] at h1;cases h1;exact absurd (.head _) h2
 free i _ m:=by rw[List.mem_singleton] at m;cases m
 kst m:=by rw[List.mem_singleton] at m;omega
 own q i m:=by rw[List.mem_singleton] at m;cases m
theorem Wk.enter {c:Circ}{t:List Nat}{s k:Nat}{out:List LnZ}{st:List Nat} (W:Wk c t s out (st++[k]) c.nodes.length 0):Wk c t s out st k 0 where
 nd:=W.nd
 sub:=W.sub
 snd:=(nodup_snoc.1 W.snd).1
 stn q h:=W.stn q (List.mem_append.2 (.inl h))
 root:=W.root
 par:=W.par
 cls q h1 h2 i x y h3 hx:=W.cls q h1 (fun m=>by
  rcases List.mem_append.1 m with m|m
  ·exact h2 m
  ·rw[List.mem_singleton] at m
   exact absurd (h3 m) (Nat.not_lt_zero _)) i x y (fun e=>by have:=lt_of_get hx;omega) hx
 free i _:=(W.stn k (List.mem_append.2 (.inr (.head _)))).2 i
 kst:=(nodup_snoc.1 W.snd).2
 own:=W.own
theorem Wk.leave {c:Circ}{t:List Nat}{s k j:Nat}{out:List LnZ}{st:List Nat} (hs:s<c.nodes.length) (C:Cir c) (W:Wk c t s out st k j) (hk:∀ x,c.nodes[k]?=some x→combB x.kind=true→x.ins.length≤j):Wk c t s out st c.nodes.length 0 where
 nd:=W.nd
 sub:=W.sub
 snd:=W.snd
 stn:=W.stn
 root:=W.root
 par:=W.par
 cls q h1 h2 i x y _ hx hc hi:=W.cls q h1 h2 i x y (fun e=>by subst e;have:=hk x hx hc;have:=lt_of_get hi;omega) hx hc hi
 free i _ m:=by
  have:=(W.sub _ m).1.lt C hs
  dsimp only at this
  omega
 kst m:=by
  have:=(W.sub _ (W.stn _ m).1).1.lt C hs
  dsimp only at this
  omega
 own:=W.own
theorem Wk.step0 {c:Circ}{t:List Nat}{s k j:Nat}{out:List LnZ}{st:List Nat} (W:Wk c t s out st k j) (h:chgB c t k j=false):Wk c t s out st k (j+1) where
 nd:=W.nd
 sub:=W.sub
 snd:=W.snd
 stn:=W.stn
 root:=W.root
 par:=W.par
 cls q h1 h2 i x y h3 hx hc hi hg:=W.cls q h1 h2 i x y (fun e=>by
  have:=h3 e
  by_cases q:i=j
  ·subst q;rw[e,h] at hg;cases hg
  ·omega) hx hc hi hg
 free i hi:=W.free i (by omega)
 kst:=W.kst
 own:=W.own
theorem snoc_mem {α:Type}{l:List α}{a b:α}:a∈l++[b]↔a∈l∨a=b:=by rw[List.mem_append,List.mem_singleton]
theorem Wk.step1 {c:Circ}{t:List Nat}{s k j y:Nat}{x:Node}{out:List LnZ}{st:List Nat} (W:Wk c t s out st k j) (hx:c.nodes[k]?=some x) (hc:combB x.kind=true) (hj:x.ins[j]?=some y) (hk:(⟨k,Int.negSucc 0⟩:LnZ)∈out) (h:chgB c t k j=true) (hm:manyN c y≠1):Wk c t s (out++[⟨k,Int.ofNat j⟩]) st k (j+1) where
 nd:=nodup_snoc.2 ⟨W.nd,W.free j (Nat.le_refl _)⟩
 sub l m:=by
  rcases snoc_mem.1 m with m|rfl
  ·exact W.sub l m
  ·exact⟨(W.sub _ hk).1,.inr ⟨j,x,rfl,hx,hc,lt_of_get hj,h⟩⟩
 snd:=W.snd
 stn q m:=by
  obtain⟨h1,h2⟩:=W.stn q m
  refine⟨snoc_mem.2 (.inl h1),fun i m2=>?_⟩
  rcases snoc_mem.1 m2 with m2|e
  ·exact h2 i m2
  ·cases e;exact W.kst m
 root:=snoc_mem.2 (.inl W.root)
 par m hm:=by
  rcases snoc_mem.1 hm with hm|e
  ·rcases W.par m hm with e|⟨a,b,h1,h2⟩
   ·exact .inl e
   ·exact .inr ⟨a,b,h1,snoc_mem.2 (.inl h2)⟩
  ·cases e
 cls q h1 h2 i x' y' h3 hx' hc' hi hg:=by
  have h1:(⟨q,Int.negSucc 0⟩:LnZ)∈out:=by
   rcases snoc_mem.1 h1 with m|e
   ·exact m
   ·cases e
  by_cases e:q=k∧i=j
  ·obtain⟨rfl,rfl⟩:=e
   rw[hx] at hx';cases hx'
   rw[hj] at hi;cases hi
   exact⟨snoc_mem.2 (.inr rfl),fun e=>absurd e hm⟩
  ·obtain⟨a,b⟩:=W.cls q h1 h2 i x' y' (fun e2=>by have:=h3 e2;have:i≠j:=fun e3=>e ⟨e2,e3⟩;omega) hx' hc' hi hg
   exact⟨snoc_mem.2 (.inl a),fun e=>snoc_mem.2 (.inl (b e))⟩
 free i hi m:=by
  rcases snoc_mem.1 m with m|e
  ·exact W.free i (by omega) m
  ·have:=congrArg LnZ.pin e
   have:i=j:=Int.ofNat.inj this
   omega
 kst:=W.kst
 own q i m:=by
  rcases snoc_mem.1 m with m|e
  ·exact snoc_mem.2 (.inl (W.own q i m))
  ·have:=congrArg LnZ.node e
   dsimp only at this
   subst this
   exact snoc_mem.2 (.inl hk)
theorem Wk.step2 {c:Circ} (C:Cir c) {t:List Nat}{s k j y:Nat}{x:Node}{out:List LnZ}{st:List Nat} (W:Wk c t s out st k j) (hx:c.nodes[k]?=some x) (hc:combB x.kind=true) (hj:x.ins[j]?=some y) (hk:(⟨k,Int.negSucc 0⟩:LnZ)∈out) (h:chgB c t k j=true) (hm:manyN c y=1):Wk c t s ((out++[⟨k,Int.ofNat j⟩])++[⟨y,Int.negSucc 0⟩]) (st++[y]) k (j+1):=by
 have o:=one_of hm (by rw[insOf_eq hx];exact hj)
 have hlt:=ins_lt C hx hc (List.mem_of_getElem? hj)
 have hr:=(W.sub _ hk).1
 have hle:=hr.le C
 dsimp only at hle
 have hpin:(⟨k,Int.ofNat j⟩:LnZ) ∉ out:=W.free j (Nat.le_refl _)
 have hnew:(⟨y,Int.negSucc 0⟩:LnZ) ∉ out:=by
  intro m
  rcases W.par y m with e|⟨a,b,h1,h2⟩
  ·omega
  ·obtain⟨rfl,rfl⟩:=o.only a b h1
   exact hpin h2
 have up:∀ {l},l∈out→l∈(out++[(⟨k,Int.ofNat j⟩:LnZ)])++[⟨y,Int.negSucc 0⟩]:=fun m=>snoc_mem.2 (.inl (snoc_mem.2 (.inl m)))
 have net:∀ q,(⟨q,Int.negSucc 0⟩:LnZ)∈(out++[(⟨k,Int.ofNat j⟩:LnZ)])++[⟨y,Int.negSucc 0⟩]→(⟨q,Int.negSucc 0⟩:LnZ)∈out∨q=y:=by
  intro q m
  rcases snoc_mem.1 m with m|e
  ·rcases snoc_mem.1 m with m|e
   ·exact .inl m
   ·cases e
  ·cases e;exact .inr rfl
 have pin:∀ q i,(⟨q,Int.ofNat i⟩:LnZ)∈(out++[(⟨k,Int.ofNat j⟩:LnZ)])++[⟨y,Int.negSucc 0⟩]→(⟨q,Int.ofNat i⟩:LnZ)∈out∨(q=k∧i=j):=by
  intro q i m
  rcases snoc_mem.1 m with m|e
  ·rcases snoc_mem.1 m with m|e
   ·exact .inl m
   ·cases e;exact .inr ⟨rfl,rfl⟩
  ·cases e
 refine⟨nodup_snoc.2 ⟨nodup_snoc.2 ⟨W.nd,hpin⟩,fun m=>?_⟩,fun l m=>?_,nodup_snoc.2 ⟨W.snd,fun m=>hnew (W.stn y m).1⟩,fun q m=>?_,up W.root,fun m hm'=>?_,fun q h1 h2 i x' y' h3 hx' hc' hi hg=>?_,fun i hi m=>?_,fun m=>?_,fun q i m=>?_⟩
 ·rcases snoc_mem.1 m with m|e
  ·exact hnew m
  ·cases e
 ·rcases snoc_mem.1 m with m|rfl
  ·rcases snoc_mem.1 m with m|rfl
   ·exact W.sub l m
   ·exact⟨hr,.inr ⟨j,x,rfl,hx,hc,lt_of_get hj,h⟩⟩
  ·exact⟨hr.step hx hc hj h hm,.inl rfl⟩
 ·rcases snoc_mem.1 m with m|rfl
  ·obtain⟨h1,h2⟩:=W.stn q m
   refine⟨up h1,fun i m2=>?_⟩
   rcases pin q i m2 with m2|⟨rfl,rfl⟩
   ·exact h2 i m2
   ·exact W.kst m
  ·refine⟨snoc_mem.2 (.inr rfl),fun i m2=>?_⟩
   rcases pin q i m2 with m2|⟨rfl,rfl⟩
   ·exact hnew (W.own q i m2)
   ·omega
 ·rcases net m hm' with hm' | rfl
  ·rcases W.par m hm' with e|⟨a,b,h1,h2⟩
   ·exact .inl e
   ·exact .inr ⟨a,b,h1,up h2⟩
  ·exact .inr ⟨k,j,o.pin,snoc_mem.2 (.inl (snoc_mem.2 (.inr rfl)))⟩
 ·have h1:(⟨q,Int.negSucc 0⟩:LnZ)∈out:=by
   rcases net q h1 with m|rfl
   ·exact m
   ·exact absurd (snoc_mem.2 (.inr rfl)) h2
  by_cases e:q=k∧i=j
  ·obtain⟨rfl,rfl⟩:=e
   rw[hx] at hx';cases hx'
   rw[hj] at hi;cases hi
   exact⟨snoc_mem.2 (.inl (snoc_mem.2 (.inr rfl))),fun _=>snoc_mem.2 (.inr rfl)⟩
  ·obtain⟨a,b⟩:=W.cls q h1 (fun m=>h2 (snoc_mem.2 (.inl m))) i x' y' (fun e2=>by have:=h3 e2;have:i≠j:=fun e3=>e ⟨e2,e3⟩;omega) hx' hc' hi hg
   exact⟨up a,fun e=>up (b e)⟩
 ·rcases pin k i m with m|⟨_,e⟩
  ·exact W.free i (by omega) m
  ·omega
 ·rcases snoc_mem.1 m with m|e
  ·exact W.kst m
  ·omega
 ·rcases pin q i m with m|⟨rfl,rfl⟩
  ·exact up (W.own q i m)
  ·exact up hk
theorem Wk.fin {c:Circ}{t:List Nat}{s:Nat}{out:List LnZ} (W:Wk c t s out [] c.nodes.length 0) (l:LnZ):l∈out↔InW c t s l:=by
 refine⟨W.sub l,fun h=>?_⟩
 have key:∀ m,Rch c t s m→(⟨m,Int.negSucc 0⟩:LnZ)∈out:=by
  intro m h
  induction h with
  |base=>exact W.root
  |step _ hx hc hj hg h1 ih=>exact (W.cls _ ih (by simp) _ _ _ (fun e=>by have:=lt_of_get hx;omega) hx hc hj hg).2 h1
 obtain⟨h1,h2⟩:=h
 obtain⟨a,b⟩:=l
 dsimp only at h1 h2
 rcases h2 with rfl|⟨j,x,rfl,hx,hc,hj,hg⟩
 ·exact key a h1
 ·obtain⟨y,hy⟩:=get_lt hj
  exact (W.cls a (key a h1) (by simp) j x y (fun e=>by have:=lt_of_get hx;omega) hx hc hy hg).1
theorem linesN_len {c:Circ} (C:Cir c):(linesN c).length≤272:=by
 have:=linesTo_len C c.nodes.length (Nat.le_refl _)
 have:=C.len
 unfold linesN
 omega
theorem inW_mem {c:Circ} (C:Cir c) {t:List Nat}{s:Nat}{l:LnZ} (hs:s<c.nodes.length) (h:InW c t s l):l∈linesN c:=by
 obtain⟨h1,h2⟩:=h
 refine line_mem.2 ⟨h1.lt C hs,?_⟩
 rcases h2 with h2|⟨j,x,h2,hx,_,hj,_⟩
 ·exact .inl h2
 ·exact .inr ⟨j,h2,by rw[insOf_eq hx];exact hj⟩
theorem walk_vc {c:Circ} (P:Plz c) {t:List Nat} (ht:t.length=c.nodes.length) {s:Nat} (hs:s<c.nodes.length) {K:List LnZ→Prop} (h:∀ r,r.Nodup→(∀ l,l∈r↔InW c t s l)→K r):traces_walk_wp c t (manyL c) s K:=by
 have C:=P.cir
 have hlen:=C.len
 have hL:=linesN_len C
 have bound:∀ {out:List LnZ} {st:List Nat} {k j:Nat},Wk c t s out st k j→out.length≤272:=fun W=>Nat.le_trans (nodupLen W.nd fun l m=>inW_mem C hs (W.sub l m)) hL
 have stb:∀ {out:List LnZ} {st:List Nat} {k j:Nat},Wk c t s out st k j→st.length≤16:=by
  intro out st k j W
  have:=nodupLen (m:=List.range c.nodes.length) W.snd fun q m=>List.mem_range.2 (by
   have:=(W.sub _ (W.stn q m).1).1.lt C hs
   exact this)
  rw[List.length_range] at this
  omega
 unfold traces_walk_wp
 refine joinLoop (fun q=>Wk c t s q.1 q.2 c.nodes.length 0) (fun q=>2*(272-q.1.length)+q.2.length) (fun r=>r.Nodup∧∀ l,l∈r↔InW c t s l) ?_ (Wk.start hs) (fun r ⟨h1,h2⟩=>⟨List.length_pos_of_mem ((h2 ⟨s,Int.negSucc 0⟩).2 ⟨.base,.inl rfl⟩),h r h1 h2⟩)
 rintro kk ⟨out,st⟩ nx W hnx hk
 dsimp only at W hnx
 refine⟨fun q=>?_,fun q=>hk _ ?_⟩
 ·have q:0<st.length:=lt_t.1 q
  have b2:=stb W
  obtain⟨k,hkk⟩:=get_lt (show st.length-1<st.length by omega)
  have est:st=st.take (st.length-1)++[k]:=by
   rw[← takeG hkk,List.take_of_length_le (by omega)]
  have hko:(⟨k,Int.negSucc 0⟩:LnZ)∈out:=(W.stn k (List.mem_of_getElem? hkk)).1
  have hkn:k<c.nodes.length:=(W.sub _ hko).1.lt C hs
  obtain⟨x,hx⟩:=get_lt hkn
  have hfew:=(C.good.node k x hx).few
  have W0:Wk c t s out (st.take (st.length-1)) k 0:=by
   rw[est] at W
   exact W.enter
  have hl0:(st.take (st.length-1)).length=st.length-1:=by rw[List.length_take];omega
  refine⟨q,by omega,k,hkk,q,by omega,by omega,x,hx,fun e=>?_,fun e=>⟨x,hx,?_⟩⟩
  ·refine hnx _ (W0.leave hs C fun x' hx' hc=>?_) (by dsimp only;omega)
   rw[hx] at hx';cases hx'
   have:=eq_t.1 e
   have:=of_decide_eq_true hc
   omega
  ·have e:=eq_f.1 e
   refine loopW_intro (fun q=>q.2.2≤x.ins.length∧Wk c t s q.1 q.2.1 k q.2.2∧(⟨k,Int.negSucc 0⟩:LnZ)∈q.1∧2*out.length+q.2.1.length≤2*q.1.length+(st.length-1)) (fun q=>x.ins.length-q.2.2) ?_ ⟨Nat.zero_le _,W0,hko,by dsimp only;omega⟩
   rintro⟨o2,s2,j⟩ nx2 ⟨hj,W2,hk2,hb⟩ hnx2
   dsimp only at hj W2 hk2 hb
   refine⟨fun q=>?_,fun q=>?_⟩
   ·have q:j<x.ins.length:=lt_t.1 q
    obtain⟨y,hy⟩:=get_lt q
    have hc:=pin_comb P hx hy e
    have b3:=bound W2
    have b4:=stb W2
    have hyn:=(C.good.node k x hx).ins y (List.mem_of_getElem? hy)
    refine joinP (fun r=>Wk c t s r.1 r.2 k (j+1)∧(⟨k,Int.negSucc 0⟩:LnZ)∈r.1∧2*out.length+r.2.length≤2*r.1.length+(st.length-1)) (fun k3 hk3=>⟨y,hy,changes_vc C ht hx hc j ⟨fun e1=>?_,fun e1=>⟨?_,_,manyL_get hyn,fun e2=>⟨?_,?_,?_⟩,fun e2=>?_⟩⟩⟩) ?_
    ·have e1:chgB c t k j=false:=by revert e1;cases chgB c t k j <;> simp
     exact hk3 _ ⟨W2.step0 e1,hk2,hb⟩
    ·simp only[List.length_singleton];omega
    ·simp only[List.length_append,List.length_singleton];omega
    ·simp only[List.length_singleton];omega
    ·have e1:chgB c t k j=true:=by revert e1;cases chgB c t k j <;> simp
     refine hk3 _ ⟨W2.step2 C hx hc hy hk2 e1 (eq_t.1 e2),snoc_mem.2 (.inl (snoc_mem.2 (.inl hk2))),?_⟩
     simp only[List.length_append,List.length_singleton];omega
    ·have e1:chgB c t k j=true:=by revert e1;cases chgB c t k j <;> simp
     refine hk3 _ ⟨W2.step1 hx hc hy hk2 e1 (eq_f.1 e2),snoc_mem.2 (.inl hk2),?_⟩
     simp only[List.length_append,List.length_singleton];omega
    ·rintro⟨o3,s3⟩ ⟨W3,h3,h4⟩
     exact⟨by omega,hnx2 _ ⟨q,W3,h3,h4⟩ (by dsimp only;omega)⟩
   ·have q:x.ins.length≤j:=lt_f.1 q
    have b3:=bound W2
    refine hnx _ (W2.leave hs C fun x' hx' hc=>?_) ?_
    ·rw[hx] at hx';cases hx';exact q
    ·dsimp only;omega
 ·have q:st.length≤0:=lt_f.1 q
  have:st=[]:=List.length_eq_zero_iff.1 (by omega)
  subst this
  exact⟨W.nd,W.fin⟩
def dffPins (c:Circ) (m:Nat):List LnZ:=((fanOf c m).map Ln.toZ).filter fun l=>kd c l.node==14
theorem critical_vc {c:Circ} (P:Plz c) {p:Pat} (F:Full c p) {K:List LnZ→Prop} (h:∀ r,r.Nodup→(∀ l,l∈r↔l∈linesN c∧critL c p l=true)→K r):traces_critical_wp c p K:=by
 have C:=P.cir
 have hp:=F.pat
 have hlen:=C.len
 have hol:=C.good.outsLen
 have V:=V_sol C hp
 have hL:=linesN_len C
 unfold traces_critical_wp
 refine runV_vc C hp (loads_wp_vc C ?_)
 have inL:∀ {m:Nat} {l:LnZ},m<c.nodes.length→PartW c p m l→l∈linesN c:=fun hm hq=>((part_crit P F).1 ⟨_,hm,hq⟩).1
 refine joinLoop (fun s=>s.2≤c.nodes.length∧s.1.Nodup∧∀ l,l∈s.1 ↔ ∃ m,m<s.2∧PartW c p m l) (fun s=>c.nodes.length-s.2) (fun r=>r.Nodup∧∀ l,l∈r↔l∈linesN c∧critL c p l=true) ?_ ⟨Nat.zero_le _,List.nodup_nil,fun l=>⟨(fun m=>by cases m),fun ⟨m,hm,_⟩=>absurd hm (Nat.not_lt_zero _)⟩⟩ (fun r ⟨h1,h2⟩=>h r h1 h2)
 rintro k ⟨out,n⟩ nx ⟨hn,nd,mem⟩ hnx hk
 dsimp only at hn nd mem
 refine⟨fun q=>?_,fun q=>hk _ ⟨nd,fun l=>?_⟩⟩
 ·have q:n<c.nodes.length:=lt_t.1 q
  have hfl:=fan_len C.good q
  have bout:∀ {r:List LnZ},r.Nodup→(∀ l∈r,∃ m,m<n+1∧PartW c p m l)→r.length≤272:=fun h1 h2=>Nat.le_trans (nodupLen h1 fun l hl=>by
    obtain⟨m,hm,hq⟩:=h2 l hl
    exact inL (by omega) hq) hL
  refine joinP (fun r=>r.Nodup∧∀ l,l∈r ↔ ∃ m,m<n+1∧PartW c p m l) (fun k1 hk1=>containsI_vc (by omega) ?_) ?_
  ·
    refine joinB' (a:=c.outs.contains n||(decide (1<manyN c n)&&critN c p n)) (fun G=>?_) ?_
    · refine joinB' (a := !c.outs.contains n&&decide (1<manyN c n)) (fun G2=>⟨fun e=>⟨_,manyL_get q,?_⟩,fun e=>?_⟩) ⟨fun e=>⟨_,getN V.len q,not_vc ?_⟩,fun e=>?_⟩
      ·have e:c.outs.contains n=false:=nb_t e
       have:ltN 1 (manyN c n)=(!c.outs.contains n&&decide (1<manyN c n)):=by rw[ltN_eq,e];rfl
       rw[this];exact G2
      ·have e:c.outs.contains n=true:=nb_f e
       have e2:(!c.outs.contains n&&decide (1<manyN c n))=false:=by rw[e];rfl
       rw[e2] at G2;exact G2
      ·refine detects_vc C hp ⟨rfl,?_,rfl,q,show (-1:Int)≤Int.negSucc 0 by decide,?_⟩ ?_
       ·have:=V_bin P F n
        dsimp only
        rw[notN_bin this];omega
       ·exact Int.lt_of_lt_of_le (show Int.negSucc 0<0 by decide) (Int.natCast_nonneg _)
       ·rw[Bool.and_eq_true,Bool.not_eq_true'] at e
        rw[e.1,e.2,Bool.false_or,Bool.true_and] at G
        rw[det_net]
        exact G
      ·rw[Bool.and_eq_false_iff,Bool.not_eq_false'] at e
       rcases e with e|e
       ·rw[e,Bool.true_or] at G;rw[e];exact G
       ·rw[e,Bool.false_and,Bool.or_false] at G;exact G
    ·
      have es:startB c p n=((c.outs.contains n||(decide (1<manyN c n)&&critN c p n))||((fanOf c n).map Ln.toZ).any fun l=>kd c l.node==14):=by
       unfold startB
       rw[List.any_map]
       rfl
      have hdl:(((fanOf c n).map Ln.toZ).filter fun l=>kd c l.node==14).length≤1000:=Nat.le_trans (List.length_filter_le _ _) (by rw[List.length_map];exact hfl)
      have hnd:(dffPins c n).Nodup:=by
       refine List.Pairwise.filter _ (List.pairwise_map.2 ?_)
       refine (fan_nodup c n).imp fun {a b} hab e=>hab ?_
       obtain⟨a1,a2⟩:=a
       obtain⟨b1,b2⟩:=b
       unfold Ln.toZ at e
       cases e
       rfl
      have hdm:∀ l,l∈dffPins c n↔(l∈(fanOf c n).map Ln.toZ∧kd c l.node=14):=fun l=>by
       unfold dffPins
       rw[List.mem_filter,beq_iff_eq]
      have nd2:(out++dffPins c n).Nodup:=by
       refine List.nodup_append.2 ⟨nd,hnd,fun a ha b hb e=>?_⟩
       subst e
       obtain⟨m,hm,hq⟩:=(mem a).1 ha
       have:=part_uniq hq (.inl ((hdm a).1 hb))
       omega
      refine joinP (fun r=>r=(out++dffPins c n,startB c p n)) (fun k2 hk2=>⟨_,fanZ_get q,?_⟩) ?_
      ·have bo:=bout nd (fun l hl=>by obtain⟨m,hm,hq⟩:=(mem l).1 hl;exact⟨m,by omega,hq⟩)
       refine loopW_intro (fun s=>s.2.2≤(fanOf c n).length∧s.1=out++(((fanOf c n).map Ln.toZ).take s.2.2).filter (fun l=>kd c l.node==14)∧s.2.1=((c.outs.contains n||(decide (1<manyN c n)&&critN c p n))||(((fanOf c n).map Ln.toZ).take s.2.2).any fun l=>kd c l.node==14)) (fun s=>(fanOf c n).length-s.2.2) ?_ ⟨Nat.zero_le _,by simp,by simp⟩
       rintro⟨o2,b,j⟩ nx2 ⟨hj,ho2,hb⟩ hnx2
       dsimp only at hj ho2 hb
       refine⟨fun q2=>?_,fun q2=>?_⟩
       ·have q2:j<(fanOf c n).length:=by have:=lt_t.1 q2;rwa [List.length_map] at this
        obtain⟨l0,hl0⟩:=get_lt q2
        have hl:((fanOf c n).map Ln.toZ)[j]?=some l0.toZ:=by rw[List.getElem?_map,hl0];rfl
        have hln:l0.node<c.nodes.length:=fan_lt (List.mem_of_getElem? hl0)
        obtain⟨y,hy⟩:=get_lt hln
        have hb2:((((fanOf c n).map Ln.toZ).take j).filter fun l=>kd c l.node==14).length≤1000:=Nat.le_trans (List.length_filter_le _ _) (by rw[List.length_take,List.length_map];omega)
        refine joinP (fun r=>r.1=out++(((fanOf c n).map Ln.toZ).take (j+1)).filter (fun l=>kd c l.node==14)∧r.2=((c.outs.contains n||(decide (1<manyN c n)&&critN c p n))||(((fanOf c n).map Ln.toZ).take (j+1)).any fun l=>kd c l.node==14)) (fun k3 hk3=>⟨_,hl,y,hy,fun e=>⟨?_,hk3 _ ⟨?_,?_⟩⟩,fun e=>hk3 _ ⟨?_,?_⟩⟩) ?_
        ·rw[ho2,List.length_append]
         simp only[List.length_singleton]
         omega
        ·have e:kd c l0.toZ.node=14:=by rw[← eq_t.1 e];exact kd_eq hy
         dsimp only
         rw[ho2,takeG hl,List.filter_append,List.append_assoc]
         congr 2
         rw[List.filter_cons,e]
         rfl
        ·have e:kd c l0.toZ.node=14:=by rw[← eq_t.1 e];exact kd_eq hy
         dsimp only
         rw[takeG hl,List.any_append]
         simp[e]
        ·have e:¬ kd c l0.toZ.node=14:=by rw[show kd c l0.toZ.node=y.kind from kd_eq hy];exact eq_f.1 e
         dsimp only
         rw[ho2,takeG hl,List.filter_append]
         congr 1
         rw[List.filter_cons,if_neg (by simpa using e)]
         simp
        ·have e:¬ kd c l0.toZ.node=14:=by rw[show kd c l0.toZ.node=y.kind from kd_eq hy];exact eq_f.1 e
         have e':(kd c l0.toZ.node==14)=false:=by simpa using e
         dsimp only
         rw[hb,takeG hl,List.any_append,List.any_cons,e',List.any_nil]
         simp only[Bool.or_false]
        ·rintro⟨o3,b3⟩ ⟨h3,h4⟩
         exact⟨by omega,hnx2 _ ⟨q2,h3,h4⟩ (by dsimp only;omega)⟩
       ·have q2:(fanOf c n).length≤j:=by have:=lt_f.1 q2;rwa [List.length_map] at this
        rw[List.take_of_length_le (by rw[List.length_map];exact q2)] at ho2 hb
        refine hk2 _ ?_
        rw[ho2,hb,es]
        rfl
      ·rintro _ rfl
       refine⟨fun e=>walk_vc P V.len q fun r hr1 hr2=>?_,fun e=>hk1 _ ⟨nd2,fun l=>?_⟩⟩
       ·have e:startB c p n=true:=e
        have hrl:r.length≤272:=Nat.le_trans (nodupLen hr1 fun l hl=>inW_mem C q ((hr2 l).1 hl)) hL
        have bo:=bout nd2 (fun l hl=>by
         rcases List.mem_append.1 hl with hl|hl
         ·obtain⟨m,hm,hq⟩:=(mem l).1 hl;exact⟨m,by omega,hq⟩
         ·exact⟨n,by omega,.inl ((hdm l).1 hl)⟩)
        refine⟨by omega,hk1 _ ⟨List.nodup_append.2 ⟨nd2,hr1,fun a ha b hb e2=>?_⟩,fun l=>?_⟩⟩
        ·subst e2
         have hb:=(hr2 a).1 hb
         rcases List.mem_append.1 ha with ha|ha
         ·obtain⟨m,hm,hq⟩:=(mem a).1 ha
          have:=part_uniq hq (.inr ⟨e,hb⟩)
          omega
         ·have ha:=(hdm a).1 ha
          obtain⟨j,e3,_⟩:=toZ_mem.1 ha.1
          rcases hb.2 with e4|⟨j',x,_,hx,hc,_⟩
          ·rw[e3] at e4;cases e4
          ·have:=ha.2
           rw[kd_eq hx] at this
           have:=of_decide_eq_true hc
           omega
        ·rw[List.mem_append,List.mem_append,mem,hdm,hr2]
         constructor
         ·rintro ((⟨m,hm,hq⟩|hq) | hq)
          ·exact⟨m,by omega,hq⟩
          ·exact⟨n,by omega,.inl hq⟩
          ·exact⟨n,by omega,.inr ⟨e,hq⟩⟩
         ·rintro⟨m,hm,hq⟩
          by_cases e2:m=n
          ·subst e2
           rcases hq with hq|hq
           ·exact .inl (.inr hq)
           ·exact .inr hq.2
          ·exact .inl (.inl ⟨m,by omega,hq⟩)
       ·have e:startB c p n=false:=e
        rw[List.mem_append,mem,hdm]
        constructor
        ·rintro (⟨m,hm,hq⟩|hq)
         ·exact⟨m,by omega,hq⟩
         ·exact⟨n,by omega,.inl hq⟩
        ·rintro⟨m,hm,hq⟩
         by_cases e2:m=n
         ·subst e2
          rcases hq with hq|hq
          ·exact .inr hq
          ·rw[e] at hq;cases hq.1
         ·exact .inl ⟨m,by omega,hq⟩
  · rintro r ⟨h1,h2⟩
    exact⟨by omega,hnx _ ⟨q,h1,h2⟩ (by dsimp only;omega)⟩
 ·have q:c.nodes.length≤n:=lt_f.1 q
  have e:n=c.nodes.length:=by omega
  subst e
  rw[mem]
  exact part_crit P F
theorem linesN_sorted (c:Circ):(linesN c).Pairwise fun x y=>x.node<y.node∨x.node=y.node∧x.pin<y.pin:=by
 unfold linesN linesTo
 refine List.pairwise_flatMap.2 ⟨fun i _=>?_,?_⟩
 ·unfold rowL
  refine List.pairwise_map.2 (List.pairwise_lt_range.imp fun {a b} h=>.inr ⟨rfl,?_⟩)
  simp only[Int.ofNat_eq_natCast];omega
 ·refine List.pairwise_lt_range.imp fun {a b} h x hx y hy=>.inl ?_
  unfold rowL at hx hy
  obtain⟨i,_,rfl⟩:=List.mem_map.1 hx
  obtain⟨j,_,rfl⟩:=List.mem_map.1 hy
  exact h
theorem sorted_eq:∀ {l m:List LnZ},l.Pairwise (fun x y=>x.node<y.node∨x.node=y.node∧x.pin<y.pin)→m.Pairwise (fun x y=>x.node<y.node∨x.node=y.node∧x.pin<y.pin)→(∀ x,x∈l↔x∈m)→l=m
 |[],[],_,_,_=>rfl
 |[],b::m,_,_,h=>by have:=(h b).2 (.head _);cases this
 |a::l,[],_,_,h=>by have:=(h a).1 (.head _);cases this
 |a::l,b::m,h1,h2,h=>by
  obtain⟨a1,a2⟩:=List.pairwise_cons.1 h1
  obtain⟨b1,b2⟩:=List.pairwise_cons.1 h2
  have e:a=b:=by
   rcases List.mem_cons.1 ((h a).1 (.head _)) with e|e
   ·exact e
   rcases List.mem_cons.1 ((h b).2 (.head _)) with e2|e2
   ·exact e2.symm
   have q1:=b1 a e
   have q2:=a1 b e2
   omega
  subst e
  congr 1
  refine sorted_eq a2 b2 fun x=>?_
  constructor
  ·intro hx
   rcases List.mem_cons.1 ((h x).1 (.tail _ hx)) with e|e
   ·subst e;have:=a1 x hx;omega
   ·exact e
  ·intro hx
   rcases List.mem_cons.1 ((h x).2 (.tail _ hx)) with e|e
   ·subst e;have:=b1 x hx;omega
   ·exact e
theorem sorted_is {c:Circ}{q:LnZ→Bool}{r l:List LnZ} (nd:r.Nodup) (hm:∀ x,x∈r↔x∈linesN c∧q x=true) (hp:l.Perm r) (hs:l.Pairwise lnLe):l=(linesN c).filter q:=by
 have ndl:l.Nodup:=hp.nodup_iff.2 nd
 refine sorted_eq ?_ ((linesN_sorted c).filter _) fun x=>?_
 ·have:=List.Pairwise.and hs ndl
  refine this.imp fun {a b} h=>?_
  obtain⟨h1,h2⟩:=h
  have h1:=lnLe_iff.1 h1
  by_cases e:a.node=b.node∧a.pin=b.pin
  ·exact absurd (by cases a;cases b;simp only[LnZ.mk.injEq];exact e) h2
  ·omega
 ·rw[hp.mem_iff,hm,List.mem_filter]
theorem line_bd {c:Circ} (C:Cir c) {l:LnZ} (h:l∈linesN c):lnB l:=by
 have hlen:=C.len
 obtain⟨h1,h2⟩:=line_mem.1 h
 refine⟨by omega,?_⟩
 rcases h2 with e|⟨j,e,hj⟩
 ·rw[e];exact⟨by decide,by decide⟩
 ·obtain⟨x,hx⟩:=get_lt h1
  have:=(C.good.node _ x hx).few
  rw[insOf_eq hx] at hj
  rw[e]
  simp only[Int.ofNat_eq_natCast]
  omega
theorem Critical_vc {c:Circ} (P:Plz c) {p:Pat} (F:Full c p) {K:List LnZ×Nat→Prop} (h:K ((linesN c).filter (critL c p),0)):traces_Critical_wp c p K:=by
 have C:=P.cir
 have hL:=linesN_len C
 unfold traces_Critical_wp
 refine tplain_vc P ⟨(fun q=>absurd rfl (ne_t.1 q)),fun _=>tfull_vc C F ⟨(fun q=>absurd rfl (ne_t.1 q)),fun _=>critical_vc P F fun r hr1 hr2=>⟨?_,fun x hx=>line_bd C ((hr2 x).1 hx).1,fun l h1 h2=>?_⟩⟩⟩
 ·have:=nodupLen hr1 fun l hl=>((hr2 l).1 hl).1
  omega
 ·rw[sorted_is hr1 hr2 h1 h2]
  exact h
end Go.Proofs.YtmhbhclfojmjdaaGreatDoor
