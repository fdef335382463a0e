/-
  SoL, SrtL, R2, Q2, Q3, Ph, Q4, Q5, Q6: parts of the proof.
-/
import Derived.Test.YtfhldkgelipnaaaGreatDoorLe45
namespace Go.Proofs.YtfhldkgelipnaaaGreatDoor
open Go.Abs
set_option maxRecDepth 100000
def renL:Go.Shelf.Ren where
 f n:=match n with
  |6=>55
  |14=>92
  |15=>93
  |20=>112
  |21=>113
  |22=>114
  |23=>115
  |24=>116
  |25=>117
  |26=>118
  |27=>119
  |28=>120
  |29=>121
  |46=>134
  |47=>135
  |48=>136
  |49=>137
  |50=>138
  |57=>146
  |n=>n
 t n:=match n with
  |0=>0
  |3=>3
  |4=>4
  |5=>5
  |22=>59
  |24=>64
  |25=>112
  |39=>144
  |45=>174
  |46=>175
  |50=>179
  |53=>163
  |55=>166
  |66=>195
  |70=>199
  |76=>206
  |77=>129
  |n=>n
 g n:=n
theorem sortL:Go.Proofs.SlLaysF0.n6 Tryz.prog renL where
 mixed:=by kernel_rfl
 f6:=⟨Tryz.f55.name,by kernel_rfl,by kernel_rfl⟩
 f14:=⟨Tryz.f92.name,by kernel_rfl,by kernel_rfl⟩
 f15:=by kernel_rfl
 f20:=⟨Tryz.f112.name,by kernel_rfl,by kernel_rfl⟩
 f21:=⟨Tryz.f113.name,by kernel_rfl,by kernel_rfl⟩
 f22:=⟨Tryz.f114.name,by kernel_rfl,by kernel_rfl⟩
 f23:=⟨Tryz.f115.name,by kernel_rfl,by kernel_rfl⟩
 f24:=⟨Tryz.f116.name,by kernel_rfl,by kernel_rfl⟩
 f25:=⟨Tryz.f117.name,by kernel_rfl,by kernel_rfl⟩
 f26:=⟨Tryz.f118.name,by kernel_rfl,by kernel_rfl⟩
 f27:=⟨Tryz.f119.name,by kernel_rfl,by kernel_rfl⟩
 f28:=by kernel_rfl
 f29:=by kernel_rfl
 f46:=⟨Tryz.f134.name,by kernel_rfl,by kernel_rfl⟩
 f47:=by kernel_rfl
 f48:=by kernel_rfl
 f49:=⟨Tryz.f137.name,by kernel_rfl,by kernel_rfl⟩
 f50:=⟨Tryz.f138.name,by kernel_rfl,by kernel_rfl⟩
 f57:=⟨Tryz.f146.name,by kernel_rfl,by kernel_rfl⟩
 t0:=by kernel_rfl
 a0:=fun w=>by kernel_rfl
 z0:=fun w=>by kernel_rfl
 v0:=fun w=>by kernel_rfl
 t3:=by kernel_rfl
 a3:=fun w=>by kernel_rfl
 z3:=fun w=>by kernel_rfl
 v3:=fun w=>by kernel_rfl
 t4:=by kernel_rfl
 a4:=fun w=>by kernel_rfl
 z4:=fun w=>by kernel_rfl
 v4:=fun w=>by kernel_rfl
 t5:=by kernel_rfl
 a5:=fun w=>by kernel_rfl
 z5:=fun w=>by kernel_rfl
 v5:=fun w=>by kernel_rfl
 t9:=by kernel_rfl
 a9:=fun w=>by kernel_rfl
 z9:=fun w=>by kernel_rfl
 v9:=fun w=>by kernel_rfl
 t22:=by kernel_rfl
 a22:=fun w=>by kernel_rfl
 z22:=fun w=>by kernel_rfl
 v22:=fun w=>by kernel_rfl
 t25:=by kernel_rfl
 a25:=fun w=>by kernel_rfl
 z25:=fun w=>by kernel_rfl
 v25:=fun w=>by kernel_rfl
 t39:=by kernel_rfl
 a39:=fun w=>by kernel_rfl
 z39:=fun w=>by kernel_rfl
 v39:=fun w=>by kernel_rfl
 t45:=by kernel_rfl
 a45:=fun w=>by kernel_rfl
 z45:=fun w=>by kernel_rfl
 v45:=fun w=>by kernel_rfl
 t46:=by kernel_rfl
 a46:=fun w=>by kernel_rfl
 z46:=fun w=>by kernel_rfl
 v46:=fun w=>by kernel_rfl
 t50:=by kernel_rfl
 a50:=fun w=>by kernel_rfl
 z50:=fun w=>by kernel_rfl
 v50:=fun w=>by kernel_rfl
 t53:=by kernel_rfl
 a53:=fun w=>by kernel_rfl
 z53:=fun w=>by kernel_rfl
 v53:=fun w=>by kernel_rfl
 t55:=by kernel_rfl
 a55:=fun w=>by kernel_rfl
 z55:=fun w=>by kernel_rfl
 v55:=fun w=>by kernel_rfl
 t66:=by kernel_rfl
 a66:=fun w=>by kernel_rfl
 z66:=fun w=>by kernel_rfl
 v66:=fun w=>by kernel_rfl
 t70:=by kernel_rfl
 a70:=fun w=>by kernel_rfl
 z70:=fun w=>by kernel_rfl
 v70:=fun w=>by kernel_rfl
 t76:=by kernel_rfl
 a76:=fun w=>by kernel_rfl
 z76:=fun w=>by kernel_rfl
 v76:=fun w=>by kernel_rfl
 t77:=by kernel_rfl
 a77:=fun w=>by kernel_rfl
 z77:=fun w=>by kernel_rfl
 v77:=fun w=>by kernel_rfl
theorem sortL_a:∀ w,(isAgg (renL.t 24)).run Tryz.prog w=.ok true w:=fun w=>by kernel_rfl
theorem sortL_z:∀ w,(Go.sizeOf (renL.t 24)).run Tryz.prog w=.ok 4 w:=fun w=>by kernel_rfl
def cmpN (a b:Nat):Int:=if a<b then -1 else if b<a then 1 else 0
def orZ (a b:Int):Int:=if a≠0 then a else b
def cfAsg (x y:Asg):Int:=orZ (cmpN x.net y.net) (cmpN x.value y.value)
def cfLaw (x y:Lawv):Int:=orZ (cfAsg x.cond y.cond) (cfAsg x.thn y.thn)
def lawLe (x y:Lawv):Prop:=¬ cfLaw y x<0
theorem nez_t {a b:Int}:neZ a b=true↔a≠b:=by rw[neZ_eq];simp
theorem nez_f {a b:Int}:neZ a b=false↔a=b:=by rw[neZ_eq];simp
theorem cmpI_vc {a b:Nat}{K:Int→Prop} (h:K (cmpN a b)):cmp_Compare_int__wp a b K:=by
 unfold cmp_Compare_int__wp
 refine⟨fun q=>absurd rfl (ne_t.1 q),fun _=>⟨fun q=>absurd rfl (ne_t.1 q),fun _=>⟨fun q=>?_,fun q=>⟨fun q2=>?_,fun q2=>?_⟩⟩⟩⟩
 ·rw[show cmpN a b = -1 from if_pos (lt_t.1 q)] at h;exact h
 ·rw[show cmpN a b=1 from by unfold cmpN;rw[if_neg (Nat.not_lt.2 (lt_f.1 q)),if_pos (lt_t.1 q2)]] at h;exact h
 ·rw[show cmpN a b=0 from by unfold cmpN;rw[if_neg (Nat.not_lt.2 (lt_f.1 q)),if_neg (Nat.not_lt.2 (lt_f.1 q2))]] at h;exact h
theorem cmpV_vc {a b:Nat}{K:Int→Prop} (h:K (cmpN a b)):api_Value__wp a b K:=cmpI_vc h
theorem or_vc {a b:Int}{K:Int→Prop} (h:K (orZ a b)):cmp_Or_int__wp [a,b] K:=by
 unfold cmp_Or_int__wp
 refine (show loopW _ _ from⟨3,?_⟩)
 unfold orZ at h
 refine⟨fun _=>⟨a,rfl,fun q=>?_,fun q=>⟨by decide,?_⟩⟩,fun q=>absurd (lt_f.1 q) (by simp)⟩
 ·rw[if_pos (show a≠0 from nez_t.1 q)] at h;exact h
 rw[if_neg (fun e:a≠0=>e (nez_f.1 q))] at h
 refine⟨fun _=>⟨b,rfl,fun _=>h,fun q=>⟨by decide,?_⟩⟩,fun q=>absurd (lt_f.1 q) (by simp)⟩
 have e:b=0:=nez_f.1 q
 subst e
 exact⟨fun q=>absurd (lt_t.1 q) (by simp),fun _=>h⟩
theorem order_asg {a b:Asg}{K:Int→Prop} (h:K (cfAsg a b)):learns_order_wp a b K:=cmpI_vc (cmpV_vc ⟨rfl,or_vc h⟩)
theorem order_law {a b:Lawv}{K:Int→Prop} (h:K (cfLaw a b)):learns_order2_wp a b K:=order_asg (order_asg ⟨rfl,or_vc h⟩)
theorem cmpN_neg {a b:Nat}:cmpN a b<0↔a<b:=by
 unfold cmpN
 split
 ·simp only[*,iff_true];decide
 ·split
  ·simp only[*,iff_false];decide
  ·simp only[*,iff_false];decide
theorem cmpN_zero {a b:Nat}:cmpN a b=0↔a=b:=by
 unfold cmpN
 split
 ·constructor
  ·intro h;exact absurd h (by decide)
  ·intro h;omega
 ·split
  ·constructor
   ·intro h;exact absurd h (by decide)
   ·intro h;omega
  ·constructor
   ·intro _;omega
   ·intro _;rfl
theorem orZ_neg {a b:Int}:orZ a b<0↔a<0∨a=0∧b<0:=by
 unfold orZ
 split <;> omega
theorem orZ_zero {a b:Int}:orZ a b=0↔a=0∧b=0:=by
 unfold orZ
 split <;> omega
theorem cfAsg_neg {x y:Asg}:cfAsg x y<0↔x.net<y.net∨x.net=y.net∧x.value<y.value:=by
 unfold cfAsg;rw[orZ_neg,cmpN_neg,cmpN_neg,cmpN_zero]
theorem cfAsg_zero {x y:Asg}:cfAsg x y=0↔x=y:=by
 unfold cfAsg;rw[orZ_zero,cmpN_zero,cmpN_zero]
 cases x;cases y;simp
theorem cfLaw_neg {x y:Lawv}:cfLaw x y<0↔(x.cond.net<y.cond.net∨x.cond.net=y.cond.net∧x.cond.value<y.cond.value)∨x.cond=y.cond∧(x.thn.net<y.thn.net∨x.thn.net=y.thn.net∧x.thn.value<y.thn.value):=by
 unfold cfLaw;rw[orZ_neg,cfAsg_neg,cfAsg_neg,cfAsg_zero]
theorem asg_eq {x y:Asg}:x=y↔x.net=y.net∧x.value=y.value:=by cases x;cases y;simp
theorem swoLaw:Go.Sort.SWO (Go.Proofs.ltOf cfLaw) where
 irrefl x:=by unfold Go.Proofs.ltOf;rw[decide_eq_false_iff_not,cfLaw_neg];omega
 trans x y z:=by unfold Go.Proofs.ltOf;simp only[decide_eq_true_eq,cfLaw_neg,asg_eq];omega
 ntrans x y z:=by unfold Go.Proofs.ltOf;simp only[decide_eq_false_iff_not,cfLaw_neg,asg_eq];omega
instance:Inhabited Lawv:=⟨⟨⟨0,0⟩,⟨0,0⟩⟩⟩
theorem sortLaw {h0 h:Heap}{L:List Slot}{la:List Lawv}{f:Slot→List Slot}{a:Option Nat} (O:Own vars h0 L h) (A:At (a,.cells (flatC (la.map encLaw)) false) L f) (ha:a=none→la=[]) (hsz:la.length<4611686018427387904) :
  ∃ (l':List Lawv) (h':Heap),l'.Perm la∧l'.Pairwise lawLe∧CallD Tryz.prog NG 55 ⟨[growV 4 a (la.map encLaw),.func (.func 56) #[] #[]]⟩ h (.tuple #[]) h'∧Own vars h0 (f (a,.cells (flatC (l'.map encLaw)) false)) h' :=
 O.sortG (ρ:=renL) (k:=4) (encC:=fun x:Lawv=>[i64 x.cond.net,n8 x.cond.value,i64 x.thn.net,n8 x.thn.value]) (enc:=encLaw) (cf:=cfLaw) sortL sortL_a sortL_z (fun _=>rfl) (fun _=>rfl)
  (fun x v m=>by simp only[List.mem_cons,List.not_mem_nil,or_false] at m;rcases m with rfl|rfl|rfl|rfl <;> rfl) (fun x v m=>by simp only[List.mem_cons,List.not_mem_nil,or_false] at m;rcases m with rfl|rfl|rfl|rfl <;> rfl)
  swoLaw (by kernel_rfl) (Go.Proofs.enters_of Tryz.func56 (by kernel_rfl) rfl) fzVars
  (fun x y h2 hb=>by obtain⟨r,rfl,c⟩:=learns_order2_walk (p0:=x) (p1:=y) (K:=fun r=>r=cfLaw x y) (order_law rfl) hb;exact c) A ha hsz
set_option maxHeartbeats 8000000
def sl_CloneA_wp (p0:(List Asg)) (K:(List Asg)→Prop):Prop :=
 (p0.isEmpty=true→K ([]:List Asg))∧(p0.isEmpty=false→(([]:List Asg).length+p0.length)*16≤2 ^ 47∧0<(([]:List Asg)++p0).length∧K (([]:List Asg)++p0))
theorem sl_CloneA_walkO {p0:(List Asg)}{K:(List Asg)→Prop} (hm:sl_CloneA_wp p0 K) {h0:Heap} (hB:HasB vars h0):∃ v h',CallD Tryz.prog NG 62 ⟨[(encN 2 encAsg) p0]⟩ h0 v h'∧OwnRes vars h0 K (fun (r:(List Asg)) a=>growV 2 a (r.map encAsg)) (fun (r:(List Asg))=>r) encAsg false v h':=by
 unfold sl_CloneA_wp at hm
 refine fg Tryz.func62 (Q:=OwnRes vars h0 K (fun (r:(List Asg)) a=>growV 2 a (r.map encAsg)) (fun (r:(List Asg))=>r) encAsg false) ?_;have O:=Own.start hB;conv=>whnf
 refine gX ?_
 have O:=O.addNil (.cells (flatC ((([]:List Asg)).map encAsg)) false)
 refine nlN ?_;refine gX ?_
 refine br hm (fun hm=>?_) fun hm=>?_
 ·refine gX ?_
  have O:=O.addNil (.cells (flatC ((([]:List Asg)).map encAsg)) false)
  exact⟨([]:List Asg),none,hm,VLe.refl _ _,(fun _=>rfl),(fun e=>nomatch e),O.sel [0] (by decide)⟩
 ·refine gX ?_
  refine O.buildE rfl rfl rfl fun g3 h O=>?_;refine gH ?_
  refine O.appendS (enc:=encAsg) (l:=([]:List Asg)) (new:=p0) (s:=2) (b:=16) (.head _) rfl rfl rfl rfl rfl rfl rfl rfl rfl (YOk.fn rfl) (fun _=>rfl) (fun _=>rfl) (by decide) hm.1 fun g7 a8 h O=>?_;refine gX ?_
  replace hm:=hm.2
  obtain⟨hp9,hm⟩:=hm
  exact⟨(([]:List Asg)++p0),some g7,hm,O.asGrowS (.head _) (fun _=>rfl) rfl hp9,(fun e=>nomatch e),someIff hp9,O.sel [0] (by decide)⟩
def learns_joined_wp (p0:(List Nat)) (p1:(List Nat)) (K:(List Nat)→Prop):Prop :=
 1*p0.length≤2 ^ 48∧p0.length<2 ^ 63∧joinW (α:=(List Nat)) (fun k4=>loopW (S:=((List Nat)×Nat)) (fun (v5,v6) nx7=>((ltN v6 p0.length)=true→∃ x8,p0[v6]?=some x8∧∃ x9,p1[v6]?=some x9∧learns_common_wp x8 x9 (fun r10=>v6<p0.length∧∃ x11,v5[v6]?=some x11∧v6+1<2 ^ 63∧nx7 ((v5.set v6 r10),(v6+1))))∧((ltN v6 p0.length)=false→k4 v5)) ((List.replicate p0.length (0:Nat)),0)) (fun v3=>0<v3.length∧p0.length=v3.length∧K v3)
theorem learns_joined_walk {p0:(List Nat)}{p1:(List Nat)}{K:(List Nat)→Prop} (hm:learns_joined_wp p0 p1 K) {h0:Heap} (hB:HasB vars h0):∃ r,K r∧CallD Tryz.prog NG 95 ⟨[(encL 1 n8) p0,(encL 1 n8) p1,(.func (.func 96) ⟨[]⟩ ⟨[]⟩)]⟩ h0 ((encN 1 n8) r) h0:=by
 unfold learns_joined_wp at hm
 refine fw Tryz.func95 hB (enc:=(encN 1 n8)) (fun r=>pureN (fun _=>AllPure.cons (PureV.flat rfl) AllPure.nil)) fun O=>?_;conv=>whnf
 refine gX ?_
 refine O.mkL (enc:=n8) 1 1 0 hm fun g1 h O hm=>?_;refine gH ?_
 refine jn hm 32 [7] (fun s=>s) (fun v3 h=>Own vars h0 [((some g1),.cells (flatC (v3.map n8)) false)] h) (fun v3=>[]) (fun hm=>?_) ?_
 ·refine gX ?_
  refine lw 32 [0,1,2,7,13] (σ:=((List Nat)×Nat)) (fun s=>s) (fun (v5,v6) h=>Own vars h0 [((some g1),.cells (flatC (v5.map n8)) false)] h) (fun (v5,v6)=>[(14,(i64 v6))]) ((List.replicate p0.length (0:Nat)),0) hm O ?_
  clear hm;rintro⟨v5,v6⟩ nx7 base h hm O
  refine gX ?_
  refine br hm (fun hm=>?_) fun hm=>?_
  ·refine gX ?_
   refine atF hm fun x8 hx8 hm=>?_;refine gH ?_
   refine atF hm fun x9 hx9 hm=>?_;refine gH ?_
   refine ca (learns_common_walk hm O.has) fun r10 hm=>?_;refine gH ?_
   refine⟨.inl (Ext.refl _),?_⟩;refine gH ?_
   refine ix 1 hm fun x11 hx11 hm=>?_;refine gH ?_
   refine O.stE 1 (.head _) hx11 r10 fun h O=>?_;refine gH ?_
   refine gX ?_
   refine aAdd hm fun hm=>?_;refine gH ?_
   exact jx ((v5.set v6 r10),(v6+1)) hm O
  ·refine gX ?_
   exact jx v5 hm O
 ·clear hm;rintro v3 base h hm O
  refine gX ?_
  obtain⟨hp12,hn13,hm⟩:=hm
  exact⟨v3,hm,O.ext,fun h2 F=>VLe.toN (List.ne_nil_of_length_pos hp12) (O.flatL F (Nat.le_refl _) (.head _) (fun _=>rfl) hn13)⟩
def learns_saturate_f:Nat→Circ→Nat→(List Asg)→((List Nat)→Prop)→Prop
 |0,_,_,_,_=>False
 |fu+1,p0,p1,p2,K=>implies_Close_wp p0 p2 (fun r1=>((!r1.2.1)=true→K ([]))∧((!r1.2.1)=false→((eqN p1 0)=true→K r1.1)∧((eqN p1 0)=false→loopW (S:=(List Nat)) (fun v2 nx3=>learns_list_wp v2 (fun r4=>joinW (α:=(List Nat)) (fun k10=>loopW (S:=((List Nat)×Nat)) (fun (v11,v12) nx13=>((ltN v12 v2.length)=true→joinW (α:=(List Nat)) (fun k15=>∃ x16,v11[v12]?=some x16∧((neN x16 2)=true→k15 v11)∧((neN x16 2)=false→joinW (α:=((List Nat)×(List Nat))) (fun k21=>1≤p1∧p1<2 ^ 63∧learns_list_wp v11 (fun r22=>(r22.length+([(⟨v12,0⟩:Asg)]:(List Asg)).length)*16≤2 ^ 47∧learns_saturate_f fu p0 (p1-1) (r22++([(⟨v12,0⟩:Asg)]:(List Asg))) (fun r31=>1≤p1∧p1<2 ^ 63∧learns_list_wp v11 (fun r32=>(r32.length+([(⟨v12,1⟩:Asg)]:(List Asg)).length)*16≤2 ^ 47∧learns_saturate_f fu p0 (p1-1) (r32++([(⟨v12,1⟩:Asg)]:(List Asg))) (fun r41=>k21 (r31,r41)))))) (fun (v19,v20)=>joinW (α:=Bool) (fun k43=>(v19.isEmpty=true→k43 v20.isEmpty)∧(v19.isEmpty=false→k43 false)) (fun v42=>(v42=true→K ([]))∧(v42=false→(v19.isEmpty=true→k15 v20)∧(v19.isEmpty=false→(v20.isEmpty=true→k15 v19)∧(v20.isEmpty=false→learns_joined_wp v19 v20 (fun r44=>k15 r44)))))))) (fun v14=>v12+1<2 ^ 63∧nx13 (v14,(v12+1))))∧((ltN v12 v2.length)=false→k10 v11)) (v2,0)) (fun v9=>learns_list_wp v9 (fun r45=>((ltN r4.length r45.length)=true→learns_list_wp v9 (fun r50=>implies_Close_wp p0 r50 (fun r55=>((!r55.2.1)=true→K ([]))∧((!r55.2.1)=false→nx3 r55.1))))∧((ltN r4.length r45.length)=false→K v9))))) r1.1)))
def learns_saturate_wp (p0:Circ) (p1:Nat) (p2:(List Asg)) (K:(List Nat)→Prop):Prop:=∃ n,learns_saturate_f n p0 p1 p2 K
theorem learns_saturate_fwalk:∀ (n:Nat) {p0:Circ}{p1:Nat}{p2:(List Asg)}{K:(List Nat)→Prop} (_hm:learns_saturate_f n p0 p1 p2 K) {h0:Heap} (_hB:HasB vars h0),∃ r,K r∧CallD Tryz.prog NG 61 ⟨[encCirc p0,i64 p1,(encL 2 encAsg) p2]⟩ h0 ((encN 1 n8) r) h0:=by
 intro n
 induction n with
 | zero=>intro p0 p1 p2 K hm;exact False.elim hm
 | succ fu ih =>
  intro p0 p1 p2 K hm h0 hB
  unfold learns_saturate_f at hm
  refine fw Tryz.func61 hB (enc:=(encN 1 n8)) (fun r=>pureN (fun _=>AllPure.cons (PureV.flat rfl) AllPure.nil)) fun O=>?_;conv=>whnf
  refine gX ?_
  refine fz ?_;refine gX ?_
  refine ca (implies_Close_walkN hm O.has) fun r1 hm=>?_;refine gX ?_
  refine br hm (fun hm=>?_) fun hm=>?_
  ·refine gX ?_
   exact⟨[],hm,O.ext,fun h2 F=>VLe.nilN _ _ _⟩
  ·refine gX ?_
   refine br hm (fun hm=>?_) fun hm=>?_
   ·refine gX ?_
    exact fe hm O
   ·refine gX ?_
    refine lw 100 [1,3] (σ:=(List Nat)) (fun s=>s) (fun v2 h=>Own vars h0 [] h) (fun v2=>[(7,((encN 1 n8) v2))]) r1.1 hm O ?_
    clear hm;rintro v2 nx3 base h hm O
    refine gX ?_
    refine caOW (learns_list_walkO hm O.has) (LLe.cons (VLe.ofN) (LLe.nil _)) O fun r4 a5 h hx ha7 hn8 O hm=>?_;refine gH ?_
    refine jn hm 100 [1,3,10] (fun s=>s) (fun v9 h=>Own vars h0 [] h) (fun v9=>[(7,((encN 1 n8) v9))]) (fun hm=>?_) ?_
    ·refine gX ?_
     refine lmN ?_;refine gX ?_
     refine lw 100 [1,3,10,30] (σ:=((List Nat)×Nat)) (fun s=>s) (fun (v11,v12) h=>Own vars h0 [] h) (fun (v11,v12)=>[(7,((encN 1 n8) v11)),(31,(i64 v12))]) (v2,0) hm (O.sel [] (by decide)) ?_
     clear hm;rintro⟨v11,v12⟩ nx13 base h hm O
     refine gX ?_
     refine br hm (fun hm=>?_) fun hm=>?_
     ·apply Cs;conv=>whnf
      refine jn hm 100 [1,3,10,30,31] (fun s=>s) (fun v14 h=>Own vars h0 [] h) (fun v14=>[(7,((encN 1 n8) v14))]) (fun hm=>?_) ?_
      ·refine gX ?_
       refine atN hm fun x16 hx16 hm=>?_;refine gX ?_
       refine br hm (fun hm=>?_) fun hm=>?_
       ·refine gX ?_
        exact jx v11 hm O
       ·refine gX ?_
        refine O.new (anew_alloc (l:=[(.slice none 0 0),(.slice none 0 0)]) rfl rfl rfl) fun g17 h O=>?_;refine gH ?_
        refine jn hm 100 [1,3,10,12,30,31] (fun s=>s) (fun (v19,v20) h=>Own vars h0 [((some g17),.cells [((encN 1 n8) v19),((encN 1 n8) v20)] false)] h) (fun (v19,v20)=>[]) (fun hm=>?_) ?_
        ·refine gX ?_
         refine lr ?_
         refine rr 100 ?_;refine gX ?_
         refine bt ?_;refine gH ?_
         apply Cs;conv=>whnf
         apply Cs;conv=>whnf
         apply Cs;conv=>whnf
         apply Cs;conv=>whnf
         apply Cs;refine gH ?_
         refine CodeS.drawF ?_;refine gH ?_
         refine aSub hm fun hm=>?_;refine gH ?_
         refine caOW (learns_list_walkO hm O.has) (LLe.cons (VLe.ofN) (LLe.nil _)) O fun r22 a23 h hx ha25 hn26 O hm=>?_;refine gH ?_
         refine aCv (a:=0) ⟨trivial,trivial⟩ (fun _=>rfl) fun _=>?_;refine gH ?_
         refine O.buildLX (l:=([(⟨v12,0⟩:Asg)]:(List Asg))) (enc:=encAsg) (s:=2) (z:=(.agg ⟨[(i64 0),(n8 0)]⟩)) rfl rfl (by kernel_rfl) (by kernel_rfl) rfl rfl rfl rfl (fun _=>rfl) fun g27 h O=>?_;refine gH ?_
         refine O.appendL (enc:=encAsg) (l:=r22) (new:=([(⟨v12,0⟩:Asg)]:(List Asg))) (s:=2) (b:=16) (.tail _ (.head _)) ha25 rfl rfl rfl rfl rfl rfl rfl rfl (YOk.own (O.at (.head _)) rfl (fun _=>rfl) rfl) (fun _=>rfl) (fun _=>rfl) (by decide) hm.1 fun a29 h ha30 O=>?_;refine gH ?_
         replace hm:=hm.2
         refine O.useG (fun _ hb=>ih hm hb) (.tail _ (.head _)) ha30 (fun _=>rfl) (i:=2) rfl (by kernel_rfl) (fun h2 q=>(LLe.cons (VLe.refl _ _) (LLe.cons (VLe.refl _ _) (LLe.cons (q) (LLe.nil _))))) (fun r31 h hm' O=>?_);replace hm:=hm';refine gH ?_
         refine idxR rfl ?_;refine gH ?_
         refine O.stC 1 (.tail _ (.tail _ (.head _))) [((encN 1 n8) r31),(.slice none 0 0)] fun h O=>?_;refine gX ?_
         refine⟨_,addK (a:=0) (b:=1) rfl rfl (by decide),?_⟩;refine gH ?_
         refine rr 100 ?_;refine gX ?_
         refine bt ?_;refine gH ?_
         apply Cs;conv=>whnf
         apply Cs;conv=>whnf
         apply Cs;conv=>whnf
         apply Cs;conv=>whnf
         apply Cs;refine gH ?_
         refine CodeS.drawF ?_;refine gH ?_
         refine aSub hm fun hm=>?_;refine gH ?_
         refine caOW (learns_list_walkO hm O.has) (LLe.cons (VLe.ofN) (LLe.nil _)) O fun r32 a33 h hx ha35 hn36 O hm=>?_;refine gH ?_
         refine aCv (a:=1) ⟨trivial,trivial⟩ (fun _=>rfl) fun _=>?_;refine gH ?_
         refine O.buildLX (l:=([(⟨v12,1⟩:Asg)]:(List Asg))) (enc:=encAsg) (s:=2) (z:=(.agg ⟨[(i64 0),(n8 0)]⟩)) rfl rfl (by kernel_rfl) (by kernel_rfl) rfl rfl rfl rfl (fun _=>rfl) fun g37 h O=>?_;refine gH ?_
         refine O.appendL (enc:=encAsg) (l:=r32) (new:=([(⟨v12,1⟩:Asg)]:(List Asg))) (s:=2) (b:=16) (.tail _ (.head _)) ha35 rfl rfl rfl rfl rfl rfl rfl rfl (YOk.own (O.at (.head _)) rfl (fun _=>rfl) rfl) (fun _=>rfl) (fun _=>rfl) (by decide) hm.1 fun a39 h ha40 O=>?_;refine gH ?_
         replace hm:=hm.2
         refine O.useG (fun _ hb=>ih hm hb) (.tail _ (.head _)) ha40 (fun _=>rfl) (i:=2) rfl (by kernel_rfl) (fun h2 q=>(LLe.cons (VLe.refl _ _) (LLe.cons (VLe.refl _ _) (LLe.cons (q) (LLe.nil _))))) (fun r41 h hm' O=>?_);replace hm:=hm';refine gH ?_
         refine idxR rfl ?_;refine gH ?_
         refine O.stC 1 (.tail _ (.tail _ (.tail _ (.tail _ (.head _))))) [((encN 1 n8) r31),((encN 1 n8) r41)] fun h O=>?_;refine gX ?_
         refine⟨_,addK (a:=1) (b:=1) rfl rfl (by decide),?_⟩;refine gH ?_
         refine rr 100 ?_;refine gX ?_
         refine bf ?_;refine gX ?_
         exact jx (r31,r41) hm (O.sel [4] (by decide))
        ·clear hm;rintro⟨v19,v20⟩ base h hm O
         conv=>whnf
         apply Cs;conv=>whnf
         refine jn hm 100 [1,3,10,12,30,31] (fun s=>s) (fun v42 h=>Own vars h0 [((some g17),.cells [((encN 1 n8) v19),((encN 1 n8) v20)] false)] h) (fun v42=>[(62,(.bool v42))]) (fun hm=>?_) ?_
         ·refine gX ?_
          refine idxR rfl ?_;refine gH ?_
          refine nlN ?_;refine gH ?_
          refine br hm (fun hm=>?_) fun hm=>?_
          ·refine gX ?_
           refine idxR rfl ?_;refine gH ?_
           refine nlN ?_;refine gH ?_
           exact jx v20.isEmpty hm O
          ·refine gX ?_
           exact jx false hm O
         ·clear hm;rintro v42 base h hm O
          refine gX ?_
          refine br hm (fun hm=>?_) fun hm=>?_
          ·refine gX ?_
           exact⟨[],hm,O.ext,fun h2 F=>VLe.nilN _ _ _⟩
          ·refine gX ?_
           refine idxR rfl ?_;refine gH ?_
           refine nlN ?_;refine gX ?_
           refine br hm (fun hm=>?_) fun hm=>?_
           ·refine gX ?_
            refine idxR rfl ?_;refine gH ?_
            exact jx v20 hm (O.sel [] (by decide))
           ·refine gX ?_
            refine idxR rfl ?_;refine gH ?_
            refine nlN ?_;refine gX ?_
            refine br hm (fun hm=>?_) fun hm=>?_
            ·refine gX ?_
             refine idxR rfl ?_;refine gH ?_
             exact jx v19 hm (O.sel [] (by decide))
            ·refine gX ?_
             refine idxR rfl ?_;refine gH ?_
             refine idxR rfl ?_;refine gH ?_
             refine caW (learns_joined_walk hm O.has) (LLe.cons (VLe.ofN) (LLe.cons (VLe.ofN) (LLe.cons (VLe.refl _ _) (LLe.nil _)))) fun r44 hm=>?_;refine gH ?_
             exact jx r44 hm (O.sel [] (by decide))
      ·clear hm;rintro v14 base h hm O
       refine gX ?_
       refine aAdd hm fun hm=>?_;refine gH ?_
       exact jx (v14,(v12+1)) hm O
     ·refine gX ?_
      exact jx v11 hm O
    ·clear hm;rintro v9 base h hm O
     refine gX ?_
     refine caOW (learns_list_walkO hm O.has) (LLe.cons (VLe.ofN) (LLe.nil _)) O fun r45 a46 h hx ha48 hn49 O hm=>?_;refine gX ?_
     refine br hm (fun hm=>?_) fun hm=>?_
     ·refine gX ?_
      first|refine⟨.inr (.inr (rfl)),?_⟩|refine⟨.inr (.inl (by kernel_rfl)),?_⟩
      refine gX ?_
      refine caOW (learns_list_walkO hm O.has) (LLe.cons (VLe.ofN) (LLe.nil _)) O fun r50 a51 h hx ha53 hn54 O hm=>?_;refine gH ?_
      refine⟨.inl hx,?_⟩;refine gH ?_
      refine O.useG (fun _ hb=>implies_Close_walkN hm hb) (.head _) ha53 (fun _=>rfl) (i:=1) rfl (by kernel_rfl) (fun h2 q=>(LLe.cons (VLe.refl _ _) (LLe.cons (q) (LLe.nil _)))) (fun r55 h hm' O=>?_);replace hm:=hm';refine gH ?_
      refine⟨.inr (by kernel_rfl),?_⟩;refine gH ?_
      refine gX ?_
      refine br hm (fun hm=>?_) fun hm=>?_
      ·refine gX ?_
       exact⟨[],hm,O.ext,fun h2 F=>VLe.nilN _ _ _⟩
      ·refine gX ?_
       exact jx r55.1 hm (O.sel [] (by decide))
     ·refine gX ?_
      exact fe hm O
theorem learns_saturate_walk {p0:Circ}{p1:Nat}{p2:(List Asg)}{K:(List Nat)→Prop} (hm:learns_saturate_wp p0 p1 p2 K) {h0:Heap} (hB:HasB vars h0):∃ r,K r∧CallD Tryz.prog NG 61 ⟨[encCirc p0,i64 p1,(encL 2 encAsg) p2]⟩ h0 ((encN 1 n8) r) h0:=by
 obtain⟨n,hm⟩:=hm
 exact learns_saturate_fwalk n hm hB
def learns_Saturate_wp (p0:Circ) (p1:Nat) (p2:(List Asg)) (K:((List Nat)×Bool×Nat)→Prop):Prop :=
 implies_Plain_wp p0 (fun r1=>((neN r1 0)=true→K ([],false,r1))∧((neN r1 0)=false→((ltN p1 0)=true→K ([],false,1))∧((ltN p1 0)=false→((ltN 4 p1)=true→K ([],false,3))∧((ltN 4 p1)=false→learns_known_wp p0 p2 (fun r2=>((!r2)=true→K ([],false,1))∧((!r2)=false→learns_saturate_wp p0 p1 p2 (fun r3=>K (r3,!r3.isEmpty,0))))))))
theorem learns_Saturate_walk {p0:Circ}{p1:Nat}{p2:(List Asg)}{K:((List Nat)×Bool×Nat)→Prop} (hm:learns_Saturate_wp p0 p1 p2 K) {h0:Heap} (hB:HasB vars h0):∃ r,K r∧CallD Tryz.prog NG 24 ⟨[encCirc p0,i64 p1,(encL 2 encAsg) p2]⟩ h0 ((fun (r:((List Nat)×Bool×Nat))=>Value.tuple ⟨[(encN 1 n8) (r.1),Value.bool (r.2.1),i64 (r.2.2)]⟩) r) h0:=by
 unfold learns_Saturate_wp at hm
 refine fw Tryz.func24 hB (enc:=(fun (r:((List Nat)×Bool×Nat))=>Value.tuple ⟨[(encN 1 n8) (r.1),Value.bool (r.2.1),i64 (r.2.2)]⟩)) (fun r=>PureV.tup (AllPure.cons (pureN (fun _=>AllPure.cons (PureV.flat rfl) AllPure.nil)) (AllPure.cons (PureV.flat rfl) (AllPure.cons (PureV.flat rfl) (AllPure.nil))))) fun O=>?_;conv=>whnf
 refine gX ?_
 refine fz ?_;refine gX ?_
 refine ca (implies_Plain_walk hm O.has) fun r1 hm=>?_;refine gX ?_
 refine br hm (fun hm=>?_) fun hm=>?_
 ·refine gX ?_
  exact⟨([],false,r1),hm,O.ext,fun h2 F=>VLe.tup (LLe.cons (VLe.nilN _ _ _) (LLe.cons (VLe.refl _ _) (LLe.cons (VLe.refl _ _) (LLe.nil _))))⟩
 ·refine gX ?_
  refine br hm (fun hm=>?_) fun hm=>?_
  ·refine gX ?_
   exact⟨([],false,1),hm,O.ext,fun h2 F=>VLe.tup (LLe.cons (VLe.nilN _ _ _) (LLe.cons (VLe.refl _ _) (LLe.cons (VLe.refl _ _) (LLe.nil _))))⟩
  ·refine gX ?_
   refine br hm (fun hm=>?_) fun hm=>?_
   ·refine gX ?_
    exact⟨([],false,3),hm,O.ext,fun h2 F=>VLe.tup (LLe.cons (VLe.nilN _ _ _) (LLe.cons (VLe.refl _ _) (LLe.cons (VLe.refl _ _) (LLe.nil _))))⟩
   ·refine gX ?_
    refine ca (learns_known_walk hm O.has) fun r2 hm=>?_;refine gX ?_
    refine br hm (fun hm=>?_) fun hm=>?_
    ·refine gX ?_
     exact⟨([],false,1),hm,O.ext,fun h2 F=>VLe.tup (LLe.cons (VLe.nilN _ _ _) (LLe.cons (VLe.refl _ _) (LLe.cons (VLe.refl _ _) (LLe.nil _))))⟩
    ·refine gX ?_
     refine ca (learns_saturate_walk hm O.has) fun r3 hm=>?_;refine gX ?_
     refine nnN ?_;refine gX ?_
     exact⟨(r3,!r3.isEmpty,0),hm,O.ext,fun h2 F=>VLe.tup (LLe.cons (VLe.refl _ _) (LLe.cons (VLe.refl _ _) (LLe.cons (VLe.refl _ _) (LLe.nil _))))⟩
def learns_Close_wp (p0:Circ) (p1:(List Lawv)) (p2:(List Asg)) (K:((List Nat)×Bool×Nat)→Prop):Prop :=
 implies_Plain_wp p0 (fun r1=>((neN r1 0)=true→K ([],false,r1))∧((neN r1 0)=false→learns_known_wp p0 p2 (fun r2=>((!r2)=true→K ([],false,1))∧((!r2)=false→joinW (α:=Unit) (fun k3=>loopW (S:=Nat) (fun v4 nx5=>((ltN v4 p1.length)=true→∃ x6,p1[v4]?=some x6∧learns_known_wp p0 ([x6.cond,x6.thn]:(List Asg)) (fun r9=>((!r9)=true→K ([],false,1))∧((!r9)=false→v4+1<2 ^ 63∧nx5 (v4+1))))∧((ltN v4 p1.length)=false→k3 ())) 0) (fun _=>sl_CloneA_wp p2 (fun r10=>loopW (S:=(List Asg)) (fun v16 nx18=>implies_Close_wp p0 v16 (fun r19=>((!r19.2.1)=true→K ([],false,0))∧((!r19.2.1)=false→learns_list_wp r19.1 (fun r20=>joinW (α:=((List Asg)×Bool)) (fun k29=>loopW (S:=((List Asg)×Bool×Nat)) (fun (v31,v32,v33) nx35=>((ltN v33 p1.length)=true→joinW (α:=((List Asg)×Bool)) (fun k40=>∃ x41,p1[v33]?=some x41∧joinW (α:=Bool) (fun k46=>∃ x47,r19.1[x41.cond.net]?=some x47∧((eqN x47 x41.cond.value)=true→∃ x48,r19.1[x41.thn.net]?=some x48∧k46 (neN x48 x41.thn.value))∧((eqN x47 x41.cond.value)=false→k46 false)) (fun v44=>(v44=true→(v31.length+([x41.thn]:(List Asg)).length)*16≤2 ^ 47∧k40 ((v31++([x41.thn]:(List Asg))),true))∧(v44=false→k40 (v31,v32)))) (fun (v37,v38)=>v33+1<2 ^ 63∧nx35 (v37,v38,(v33+1))))∧((ltN v33 p1.length)=false→k29 (v31,v32))) (r20,false,0)) (fun (v26,v27)=>(v27=true→nx18 v26)∧(v27=false→K (r19.1,true,0))))))) r10))))))
theorem learns_Close_walk {p0:Circ}{p1:(List Lawv)}{p2:(List Asg)}{K:((List Nat)×Bool×Nat)→Prop} (hm:learns_Close_wp p0 p1 p2 K) {h0:Heap} (hB:HasB vars h0):∃ r,K r∧CallD Tryz.prog NG 28 ⟨[encCirc p0,(encL 4 encLaw) p1,(encN 2 encAsg) p2]⟩ h0 ((fun (r:((List Nat)×Bool×Nat))=>Value.tuple ⟨[(encL 1 n8) (r.1),Value.bool (r.2.1),i64 (r.2.2)]⟩) r) h0:=by
 unfold learns_Close_wp at hm
 refine fw Tryz.func28 hB (enc:=(fun (r:((List Nat)×Bool×Nat))=>Value.tuple ⟨[(encL 1 n8) (r.1),Value.bool (r.2.1),i64 (r.2.2)]⟩)) (fun r=>PureV.tup (AllPure.cons (pureL (fun _=>AllPure.cons (PureV.flat rfl) AllPure.nil)) (AllPure.cons (PureV.flat rfl) (AllPure.cons (PureV.flat rfl) (AllPure.nil))))) fun O=>?_;conv=>whnf
 refine gX ?_
 refine fz ?_;refine gX ?_
 refine ca (implies_Plain_walk hm O.has) fun r1 hm=>?_;refine gX ?_
 refine br hm (fun hm=>?_) fun hm=>?_
 ·refine gX ?_
  exact⟨([],false,r1),hm,O.ext,fun h2 F=>VLe.tup (LLe.cons (VLe.nil _ _) (LLe.cons (VLe.refl _ _) (LLe.cons (VLe.refl _ _) (LLe.nil _))))⟩
 ·refine gX ?_
  refine caW (learns_known_walk hm O.has) (LLe.cons (VLe.refl _ _) (LLe.cons (VLe.ofN) (LLe.nil _))) fun r2 hm=>?_;refine gX ?_
  refine br hm (fun hm=>?_) fun hm=>?_
  ·refine gX ?_
   exact⟨([],false,1),hm,O.ext,fun h2 F=>VLe.tup (LLe.cons (VLe.nil _ _) (LLe.cons (VLe.refl _ _) (LLe.cons (VLe.refl _ _) (LLe.nil _))))⟩
  ·apply Cs;conv=>whnf
   refine jn hm 92 [1,2,3] (fun s=>s) (fun _ h=>Own vars h0 [] h) (fun _=>[]) (fun hm=>?_) ?_
   ·refine gX ?_
    refine lw 92 [1,2,3,28,29] (σ:=Nat) (fun s=>s) (fun v4 h=>Own vars h0 [] h) (fun v4=>[(30,(i64 v4))]) 0 hm O ?_
    clear hm;rintro v4 nx5 base h hm O
    refine gX ?_
    refine br hm (fun hm=>?_) fun hm=>?_
    ·refine gX ?_
     refine atF hm fun x6 hx6 hm=>?_;refine gH ?_
     refine O.new (anew_alloc (l:=[(i64 0),(n8 0),(i64 0),(n8 0)]) rfl rfl rfl) fun g7 h O=>?_;refine gH ?_
     refine O.stC 4 (.head _) [(i64 x6.cond.net),(n8 x6.cond.value),(i64 x6.thn.net),(n8 x6.thn.value)] fun h O=>?_;refine gX ?_
     refine ldA (O.at (.head _)) ?_;refine gH ?_
     refine ldA (O.at (.head _)) ?_;refine gH ?_
     refine fz ?_;refine gH ?_
     refine ca (learns_known_walk hm O.has) fun r9 hm=>?_;refine gX ?_
     refine br hm (fun hm=>?_) fun hm=>?_
     ·refine gX ?_
      exact⟨([],false,1),hm,O.ext,fun h2 F=>VLe.tup (LLe.cons (VLe.nil _ _) (LLe.cons (VLe.refl _ _) (LLe.cons (VLe.refl _ _) (LLe.nil _))))⟩
     ·refine gX ?_
      refine aAdd hm fun hm=>?_;refine gH ?_
      exact jx (v4+1) hm (O.sel [] (by decide))
    ·refine gX ?_
     exact jx () hm O
   ·clear hm;rintro _ base h hm O
    refine gX ?_
    refine caO (sl_CloneA_walkO hm O.has) O fun r10 a11 h hx ha13 hn14 O hm=>?_;refine gX ?_
    refine lw 92 [1,3] (σ:=(List Asg)×Option Nat) (fun s=>s.1) (fun (v16,a15) h=>(a15=none→v16=[])∧Own vars h0 [(a15,.cells (flatC (v16.map encAsg)) false)] h) (fun (v16,a15)=>[(12,(growV 2 a15 (v16.map encAsg)))]) (r10,a11) hm ⟨ha13,O⟩ ?_
    clear hm;rintro⟨v16,a15⟩ nx18 base h hm ⟨ha17,O⟩
    refine gX ?_
    refine O.useG (fun _ hb=>implies_Close_walkN hm hb) (.head _) ha17 (fun _=>rfl) (i:=1) rfl (by kernel_rfl) (fun h2 q=>(LLe.cons (VLe.refl _ _) (LLe.cons (q) (LLe.nil _)))) (fun r19 h hm' O=>?_);replace hm:=hm';refine gX ?_
    refine br hm (fun hm=>?_) fun hm=>?_
    ·refine gX ?_
     exact⟨([],false,0),hm,O.ext,fun h2 F=>VLe.tup (LLe.cons (VLe.nil _ _) (LLe.cons (VLe.refl _ _) (LLe.cons (VLe.refl _ _) (LLe.nil _))))⟩
    ·refine gX ?_
     refine caOW (learns_list_walkO hm O.has) (LLe.cons (VLe.ofN) (LLe.nil _)) O fun r20 a21 h hx ha23 hn24 O hm=>?_;refine gH ?_
     apply Cs;conv=>whnf
     apply Cs;refine gH ?_
     refine jn (σ:=((List Asg)×Bool)×Option Nat) hm 92 [1,3,13] (fun s=>s.1) (fun ((v26,v27),a25) h=>(a25=none→v26=[])∧Own vars h0 [(a25,.cells (flatC (v26.map encAsg)) false)] h) (fun ((v26,v27),a25)=>[(12,(growV 2 a25 (v26.map encAsg))),(16,(.bool v27))]) (fun hm=>?_) ?_
     ·refine gX ?_
      refine lw 92 [1,3,13,56,57] (σ:=((List Asg)×Bool×Nat)×Option Nat) (fun s=>s.1) (fun ((v31,v32,v33),a30) h=>(a30=none→v31=[])∧Own vars h0 [(a30,.cells (flatC (v31.map encAsg)) false)] h) (fun ((v31,v32,v33),a30)=>[(12,(growV 2 a30 (v31.map encAsg))),(16,(.bool v32)),(58,(i64 v33))]) ((r20,false,0),a21) hm ⟨ha23,(O.sel [0] (by decide))⟩ ?_
      clear hm;rintro⟨⟨v31,v32,v33⟩,a30⟩ nx35 base h hm ⟨ha34,O⟩
      refine gX ?_
      refine br hm (fun hm=>?_) fun hm=>?_
      ·apply Cs;conv=>whnf
       refine jn (σ:=((List Asg)×Bool)×Option Nat) hm 92 [1,3,13,56,57,58] (fun s=>s.1) (fun ((v37,v38),a36) h=>(a36=none→v37=[])∧Own vars h0 [(a36,.cells (flatC (v37.map encAsg)) false)] h) (fun ((v37,v38),a36)=>[(12,(growV 2 a36 (v37.map encAsg))),(16,(.bool v38))]) (fun hm=>?_) ?_
       ·refine gX ?_
        refine atF hm fun x41 hx41 hm=>?_;refine gH ?_
        refine O.new (anew_alloc (l:=[(i64 0),(n8 0),(i64 0),(n8 0)]) rfl rfl rfl) fun g42 h O=>?_;refine gH ?_
        refine O.stC 4 (.head _) [(i64 x41.cond.net),(n8 x41.cond.value),(i64 x41.thn.net),(n8 x41.thn.value)] fun h O=>?_;refine gH ?_
        refine jn hm 92 [1,3,12,13,16,18,56,57,58] (fun s=>s) (fun v44 h=>(a30=none→v31=[])∧Own vars h0 [(a30,.cells (flatC (v31.map encAsg)) false),((some g42),.cells [(i64 x41.cond.net),(n8 x41.cond.value),(i64 x41.thn.net),(n8 x41.thn.value)] false)] h) (fun v44=>[(83,(.bool v44))]) (fun hm=>?_) ?_
        ·refine gX ?_
         refine atN hm fun x47 hx47 hm=>?_;refine gH ?_
         refine br hm (fun hm=>?_) fun hm=>?_
         ·refine gX ?_
          refine atN hm fun x48 hx48 hm=>?_;refine gH ?_
          exact jx (neN x48 x41.thn.value) hm ⟨ha34,(O.sel [1,0] (by decide))⟩
         ·refine gX ?_
          exact jx false hm ⟨ha34,(O.sel [1,0] (by decide))⟩
        ·clear hm;rintro v44 base h hm ⟨ha45,O⟩
         refine gX ?_
         refine br hm (fun hm=>?_) fun hm=>?_
         ·refine gX ?_
          refine ldA (O.at (.tail _ (.head _))) ?_;refine gH ?_
          refine fz ?_;refine gH ?_
          refine O.apL (enc:=encAsg) (l:=v31) (new:=([x41.thn]:(List Asg))) 2 (.head _) ha45 hm fun a49 h ha50 O hm=>?_;refine gX ?_
          exact jx (((v31++([x41.thn]:(List Asg))),true),a49) hm ⟨ha50,(O.sel [0] (by decide))⟩
         ·refine gX ?_
          exact jx ((v31,v32),a30) hm ⟨ha45,(O.sel [0] (by decide))⟩
       ·clear hm;rintro⟨⟨v37,v38⟩,a36⟩ base h hm ⟨ha39,O⟩
        refine gX ?_
        refine aAdd hm fun hm=>?_;refine gH ?_
        exact jx ((v37,v38,(v33+1)),a36) hm ⟨ha39,O⟩
      ·refine gX ?_
       exact jx ((v31,v32),a30) hm ⟨ha34,O⟩
     ·clear hm;rintro⟨⟨v26,v27⟩,a25⟩ base h hm ⟨ha28,O⟩
      refine gX ?_
      refine br hm (fun hm=>?_) fun hm=>?_
      ·refine gX ?_
       exact jx (v26,a25) hm ⟨ha28,O⟩
      ·refine gX ?_
       exact⟨(r19.1,true,0),hm,O.ext,fun h2 F=>VLe.tup (LLe.cons (VLe.ofN) (LLe.cons (VLe.refl _ _) (LLe.cons (VLe.refl _ _) (LLe.nil _))))⟩
def learns_Static_wp (p0:Circ) (K:((List Lawv)×Nat)→Prop):Prop :=
 implies_Plain_wp p0 (fun r1=>((neN r1 0)=true→K ([],r1))∧((neN r1 0)=false→((ltN 512 p0.nodes.length)=true→K ([],3))∧((ltN 512 p0.nodes.length)=false→2*p0.nodes.length<2 ^ 63∧24*(2*p0.nodes.length)≤2 ^ 48∧(2*p0.nodes.length)<2 ^ 63∧joinW (α:=(List (List Nat))) (fun k5=>loopW (S:=((List (List Nat))×Nat)) (fun (v6,v7) nx8=>((ltN v7 (2*p0.nodes.length))=true→0<2∧v7<2 ^ 63∧0<2∧implies_Close_wp p0 ([(⟨(v7/2),((v7%2)%256)⟩:Asg)]:(List Asg)) (fun r9=>v7<(2*p0.nodes.length)∧∃ x10,v6[v7]?=some x10∧v7+1<2 ^ 63∧nx8 ((v6.set v7 r9.1),(v7+1))))∧((ltN v7 (2*p0.nodes.length))=false→k5 v6)) ((List.replicate (2*p0.nodes.length) ([]:(List Nat))),0)) (fun v4=>joinW (α:=(List Lawv)) (fun k15=>loopW (S:=((List Lawv)×Nat)) (fun (v17,v18) nx20=>((ltN v18 (2*p0.nodes.length))=true→joinW (α:=(List Lawv)) (fun k24=>v18<(2*p0.nodes.length)∧∃ x25,v4[v18]?=some x25∧0<2∧v18<2 ^ 63∧0<2∧((v18%2)%256)≤1∧1<256∧(x25.isEmpty=true→(v17.length+([(⟨(⟨(v18/2),((v18%2)%256)⟩:Asg),(⟨(v18/2),(1-((v18%2)%256))⟩:Asg)⟩:Lawv)]:(List Lawv)).length)*32≤2 ^ 47∧k24 (v17++([(⟨(⟨(v18/2),((v18%2)%256)⟩:Asg),(⟨(v18/2),(1-((v18%2)%256))⟩:Asg)⟩:Lawv)]:(List Lawv))))∧(x25.isEmpty=false→learns_list_wp x25 (fun r32=>loopW (S:=((List Lawv)×Nat)) (fun (v34,v35) nx37=>((ltN v35 r32.length)=true→joinW (α:=(List Lawv)) (fun k41=>∃ x42,r32[v35]?=some x42∧2*x42.net<2 ^ 63∧x42.value≤1∧1<256∧(1-x42.value)<256∧(2*x42.net)+(1-x42.value)<2 ^ 63∧((2*x42.net)+(1-x42.value))<(2*p0.nodes.length)∧∃ x45,v4[((2*x42.net)+(1-x42.value))]?=some x45∧joinW (α:=Bool) (fun k48=>((neN x42.net (v18/2))=true→((!x45.isEmpty)=true→∃ x49,x45[(v18/2)]?=some x49∧k48 (neN x49 (1-((v18%2)%256))))∧((!x45.isEmpty)=false→k48 false))∧((neN x42.net (v18/2))=false→k48 false)) (fun v46=>(v46=true→x42.value≤1∧1<256∧(v34.length+([(⟨(⟨x42.net,(1-x42.value)⟩:Asg),(⟨(v18/2),(1-((v18%2)%256))⟩:Asg)⟩:Lawv)]:(List Lawv)).length)*32≤2 ^ 47∧k41 (v34++([(⟨(⟨x42.net,(1-x42.value)⟩:Asg),(⟨(v18/2),(1-((v18%2)%256))⟩:Asg)⟩:Lawv)]:(List Lawv))))∧(v46=false→k41 v34))) (fun v39=>v35+1<2 ^ 63∧nx37 (v39,(v35+1))))∧((ltN v35 r32.length)=false→k24 v34)) (v17,0)))) (fun v22=>v18+1<2 ^ 63∧nx20 (v22,(v18+1))))∧((ltN v18 (2*p0.nodes.length))=false→k15 v17)) (([]:List Lawv),0)) (fun v13=>v13.length<4611686018427387904∧∀ x52:List Lawv,x52.Perm v13→x52.Pairwise lawLe→K (x52,0))))))
theorem learns_Static_walk {p0:Circ}{K:((List Lawv)×Nat)→Prop} (hm:learns_Static_wp p0 K) {h0:Heap} (hB:HasB vars h0):∃ r,K r∧CallD Tryz.prog NG 21 ⟨[encCirc p0]⟩ h0 ((fun (r:((List Lawv)×Nat))=>Value.tuple ⟨[(encL 4 encLaw) (r.1),i64 (r.2)]⟩) r) h0:=by
 unfold learns_Static_wp at hm
 refine fw Tryz.func21 hB (enc:=(fun (r:((List Lawv)×Nat))=>Value.tuple ⟨[(encL 4 encLaw) (r.1),i64 (r.2)]⟩)) (fun r=>PureV.tup (AllPure.cons (pureL (fun _=>pure_lawC _)) (AllPure.cons (PureV.flat rfl) (AllPure.nil)))) fun O=>?_;conv=>whnf
 refine gX ?_
 refine fz ?_;refine gX ?_
 refine ca (implies_Plain_walk hm O.has) fun r1 hm=>?_;refine gX ?_
 refine br hm (fun hm=>?_) fun hm=>?_
 ·refine gX ?_
  exact⟨([],r1),hm,O.ext,fun h2 F=>VLe.tup (LLe.cons (VLe.nil _ _) (LLe.cons (VLe.refl _ _) (LLe.nil _)))⟩
 ·refine gX ?_
  refine br hm (fun hm=>?_) fun hm=>?_
  ·refine gX ?_
   exact⟨([],3),hm,O.ext,fun h2 F=>VLe.tup (LLe.cons (VLe.nil _ _) (LLe.cons (VLe.refl _ _) (LLe.nil _)))⟩
  ·refine gX ?_
   refine aMul hm fun hm=>?_;refine gH ?_
   refine O.mkL (enc:=fun _:Unit=>Value.slice none 0 0) 24 1 () hm fun g2 h O hm=>?_;refine gH ?_
   refine CodeS.ghostLe (cs':=flatC ((List.replicate (2*p0.nodes.length) ([]:(List Nat))).map (encN 1 n8))) O (.head _) (t2:=5) rfl rfl (nilRep ..) fun h O=>?_
   refine jn hm 132 [5] (fun s=>s) (fun v4 h=>Own vars h0 [((some g2),.cells (flatC (v4.map (encN 1 n8))) false)] h) (fun v4=>[]) (fun hm=>?_) ?_
   ·refine gX ?_
    refine lw 132 [1,5,30] (σ:=((List (List Nat))×Nat)) (fun s=>s) (fun (v6,v7) h=>Own vars h0 [((some g2),.cells (flatC (v6.map (encN 1 n8))) false)] h) (fun (v6,v7)=>[(31,(i64 v7))]) ((List.replicate (2*p0.nodes.length) ([]:(List Nat))),0) hm O ?_
    clear hm;rintro⟨v6,v7⟩ nx8 base h hm O
    refine gX ?_
    refine br hm (fun hm=>?_) fun hm=>?_
    ·refine gX ?_
     refine aQuo hm fun hm=>?_;refine gH ?_
     refine aRem hm fun hm=>?_;refine gH ?_
     refine aCw ?_;refine gH ?_
     refine fz ?_;refine gH ?_
     refine ca (implies_Close_walkN hm O.has) fun r9 hm=>?_;refine gH ?_
     refine ix 1 hm fun x10 hx10 hm=>?_;refine gH ?_
     refine O.stE 1 (.head _) hx10 r9.1 fun h O=>?_;refine gX ?_
     refine aAdd hm fun hm=>?_;refine gH ?_
     exact jx ((v6.set v7 r9.1),(v7+1)) hm O
    ·refine gX ?_
     exact jx v6 hm O
   ·clear hm;rintro v4 base h hm O
    conv=>whnf
    apply Cs;conv=>whnf
    apply Cs;refine gH ?_
    have O:=O.addNil (.cells (flatC ((([]:List Lawv)).map encLaw)) false)
    refine jn (σ:=(List Lawv)×Option Nat) hm 132 [] (fun s=>s.1) (fun (v13,a12) h=>(a12=none→v13=[])∧Own vars h0 [(a12,.cells (flatC (v13.map encLaw)) false)] h) (fun (v13,a12)=>[(7,(growV 4 a12 (v13.map encLaw)))]) (fun hm=>?_) ?_
    ·refine gX ?_
     refine lw 132 [5,51,52] (σ:=((List Lawv)×Nat)×Option Nat) (fun s=>s.1) (fun ((v17,v18),a16) h=>(a16=none→v17=[])∧Own vars h0 [((some g2),.cells (flatC (v4.map (encN 1 n8))) false),(a16,.cells (flatC (v17.map encLaw)) false)] h) (fun ((v17,v18),a16)=>[(7,(growV 4 a16 (v17.map encLaw))),(53,(i64 v18))]) ((([]:List Lawv),0),none) hm ⟨(fun _=>rfl),(O.sel [1,0] (by decide))⟩ ?_
     clear hm;rintro⟨⟨v17,v18⟩,a16⟩ nx20 base h hm ⟨ha19,O⟩
     refine gX ?_
     refine br hm (fun hm=>?_) fun hm=>?_
     ·apply Cs;conv=>whnf
      refine jn (σ:=(List Lawv)×Option Nat) hm 132 [5,51,52,53] (fun s=>s.1) (fun (v22,a21) h=>(a21=none→v22=[])∧Own vars h0 [((some g2),.cells (flatC (v4.map (encN 1 n8))) false),(a21,.cells (flatC (v22.map encLaw)) false)] h) (fun (v22,a21)=>[(7,(growV 4 a21 (v22.map encLaw)))]) (fun hm=>?_) ?_
      ·refine gX ?_
       refine ix 1 hm fun x25 hx25 hm=>?_;refine gH ?_
       refine ldE (s:=1) (i:=0) (O.at (.head _)) hx25 ?_;refine gX ?_
       refine aQuo hm fun hm=>?_;refine gH ?_
       refine aRem hm fun hm=>?_;refine gH ?_
       refine aCw ?_;refine gH ?_
       refine O.new (anew_alloc (l:=[(i64 0),(n8 0)]) rfl rfl rfl) fun g26 h O=>?_;refine gH ?_
       refine O.stC 2 (.head _) [(i64 (v18/2)),(n8 ((v18%2)%256))] fun h O=>?_;refine gX ?_
       refine aSub8 hm fun hm=>?_;refine gH ?_
       refine O.new (anew_alloc (l:=[(i64 0),(n8 0)]) rfl rfl rfl) fun g28 h O=>?_;refine gH ?_
       refine O.stC 2 (.head _) [(i64 (v18/2)),(n8 (1-((v18%2)%256)))] fun h O=>?_;refine gX ?_
       refine nlN ?_;refine gX ?_
       refine br hm (fun hm=>?_) fun hm=>?_
       ·refine gX ?_
        refine ldA (O.at (.tail _ (.head _))) ?_;refine gH ?_
        refine ldA (O.at (.head _)) ?_;refine gH ?_
        refine fz ?_;refine gH ?_
        refine O.apL (enc:=encLaw) (l:=v17) (new:=([(⟨(⟨(v18/2),((v18%2)%256)⟩:Asg),(⟨(v18/2),(1-((v18%2)%256))⟩:Asg)⟩:Lawv)]:(List Lawv))) 4 (.tail _ (.tail _ (.tail _ (.head _)))) ha19 hm fun a30 h ha31 O hm=>?_;refine gX ?_
        exact jx ((v17++([(⟨(⟨(v18/2),((v18%2)%256)⟩:Asg),(⟨(v18/2),(1-((v18%2)%256))⟩:Asg)⟩:Lawv)]:(List Lawv))),a30) hm ⟨ha31,(O.sel [2,3] (by decide))⟩
       ·refine gX ?_
        refine caW (learns_list_walk hm O.has) (LLe.cons (VLe.ofN) (LLe.nil _)) fun r32 hm=>?_;refine gX ?_
        refine lw 132 [5,10,11,51,52,53,79,80] (σ:=((List Lawv)×Nat)×Option Nat) (fun s=>s.1) (fun ((v34,v35),a33) h=>(a33=none→v34=[])∧Own vars h0 [((some g2),.cells (flatC (v4.map (encN 1 n8))) false),(a33,.cells (flatC (v34.map encLaw)) false),((some g26),.cells [(i64 (v18/2)),(n8 ((v18%2)%256))] false),((some g28),.cells [(i64 (v18/2)),(n8 (1-((v18%2)%256)))] false)] h) (fun ((v34,v35),a33)=>[(7,(growV 4 a33 (v34.map encLaw))),(81,(i64 v35))]) ((v17,0),a16) hm ⟨ha19,(O.sel [2,3,1,0] (by decide))⟩ ?_
        clear hm;rintro⟨⟨v34,v35⟩,a33⟩ nx37 base h hm ⟨ha36,O⟩
        refine gX ?_
        refine br hm (fun hm=>?_) fun hm=>?_
        ·apply Cs;conv=>whnf
         refine jn (σ:=(List Lawv)×Option Nat) hm 132 [5,10,11,51,52,53,79,80,81] (fun s=>s.1) (fun (v39,a38) h=>(a38=none→v39=[])∧Own vars h0 [((some g2),.cells (flatC (v4.map (encN 1 n8))) false),(a38,.cells (flatC (v39.map encLaw)) false),((some g26),.cells [(i64 (v18/2)),(n8 ((v18%2)%256))] false),((some g28),.cells [(i64 (v18/2)),(n8 (1-((v18%2)%256)))] false)] h) (fun (v39,a38)=>[(7,(growV 4 a38 (v39.map encLaw)))]) (fun hm=>?_) ?_
         ·refine gX ?_
          refine atF hm fun x42 hx42 hm=>?_;refine gH ?_
          refine O.new (anew_alloc (l:=[(i64 0),(n8 0)]) rfl rfl rfl) fun g43 h O=>?_;refine gH ?_
          refine O.stC 2 (.head _) [(i64 x42.net),(n8 x42.value)] fun h O=>?_;refine gX ?_
          refine aMul hm fun hm=>?_;refine gH ?_
          refine aSub8 hm fun hm=>?_;refine gH ?_
          refine aCv hm wI8 fun hm=>?_;refine gH ?_
          refine aAdd hm fun hm=>?_;refine gH ?_
          refine ix 1 hm fun x45 hx45 hm=>?_;refine gH ?_
          refine ldE (s:=1) (i:=0) (O.at (.tail _ (.head _))) hx45 ?_;refine gH ?_
          refine jn hm 132 [5,7,10,11,13,51,52,53,79,80,81] (fun s=>s) (fun v46 h=>(a33=none→v34=[])∧Own vars h0 [((some g2),.cells (flatC (v4.map (encN 1 n8))) false),(a33,.cells (flatC (v34.map encLaw)) false),((some g26),.cells [(i64 (v18/2)),(n8 ((v18%2)%256))] false),((some g28),.cells [(i64 (v18/2)),(n8 (1-((v18%2)%256)))] false),((some g43),.cells [(i64 x42.net),(n8 x42.value)] false)] h) (fun v46=>[(114,(.bool v46))]) (fun hm=>?_) ?_
          ·refine gX ?_
           refine ldO (O.at (.tail _ (.tail _ (.tail _ (.head _))))) ?_;refine gH ?_
           refine br hm (fun hm=>?_) fun hm=>?_
           ·refine gX ?_
            refine nnN ?_;refine gH ?_
            refine br hm (fun hm=>?_) fun hm=>?_
            ·refine gX ?_
             refine ldO (O.at (.tail _ (.tail _ (.tail _ (.head _))))) ?_;refine gH ?_
             refine atN hm fun x49 hx49 hm=>?_;refine gH ?_
             refine ldO (O.at (.tail _ (.tail _ (.tail _ (.tail _ (.head _)))))) ?_;refine gH ?_
             exact jx (neN x49 (1-((v18%2)%256))) hm ⟨ha36,(O.sel [1,2,3,4,0] (by decide))⟩
            ·refine gX ?_
             exact jx false hm ⟨ha36,(O.sel [1,2,3,4,0] (by decide))⟩
           ·refine gX ?_
            refine bf ?_;refine gH ?_
            exact jx false hm ⟨ha36,(O.sel [1,2,3,4,0] (by decide))⟩
          ·clear hm;rintro v46 base h hm ⟨ha47,O⟩
           refine gX ?_
           refine br hm (fun hm=>?_) fun hm=>?_
           ·refine gX ?_
            refine ldO (O.at (.tail _ (.tail _ (.tail _ (.tail _ (.head _)))))) ?_;refine gH ?_
            refine ldO (O.at (.tail _ (.tail _ (.tail _ (.tail _ (.head _)))))) ?_;refine gH ?_
            refine aSub8 hm fun hm=>?_;refine gH ?_
            refine ldA (O.at (.tail _ (.tail _ (.tail _ (.head _))))) ?_;refine gH ?_
            refine fz ?_;refine gH ?_
            refine O.apL (enc:=encLaw) (l:=v34) (new:=([(⟨(⟨x42.net,(1-x42.value)⟩:Asg),(⟨(v18/2),(1-((v18%2)%256))⟩:Asg)⟩:Lawv)]:(List Lawv))) 4 (.tail _ (.head _)) ha47 hm fun a50 h ha51 O hm=>?_;refine gH ?_
            exact jx ((v34++([(⟨(⟨x42.net,(1-x42.value)⟩:Asg),(⟨(v18/2),(1-((v18%2)%256))⟩:Asg)⟩:Lawv)]:(List Lawv))),a50) hm ⟨ha51,(O.sel [0,1,2,3] (by decide))⟩
           ·refine gX ?_
            exact jx (v34,a33) hm ⟨ha47,(O.sel [0,1,2,3] (by decide))⟩
         ·clear hm;rintro⟨v39,a38⟩ base h hm ⟨ha40,O⟩
          refine gX ?_
          refine aAdd hm fun hm=>?_;refine gH ?_
          exact jx ((v39,(v35+1)),a38) hm ⟨ha40,O⟩
        ·refine gX ?_
         exact jx (v34,a33) hm ⟨ha36,(O.sel [0,1] (by decide))⟩
      ·clear hm;rintro⟨v22,a21⟩ base h hm ⟨ha23,O⟩
       refine gX ?_
       refine aAdd hm fun hm=>?_;refine gH ?_
       exact jx ((v22,(v18+1)),a21) hm ⟨ha23,O⟩
     ·refine gX ?_
      exact jx (v17,a16) hm ⟨ha19,(O.sel [1] (by decide))⟩
    ·clear hm;rintro⟨v13,a12⟩ base h hm ⟨ha14,O⟩
     refine gX ?_
     obtain⟨x52,h,hp53,hs54,hcall,O⟩:=sortLaw O (.head _) ha14 hm.1
     refine⟨_,_,hcall,?_⟩;refine gH ?_
     replace hm:=hm.2 x52 hp53 hs54
     have ha55:a12=none→x52=[]:=fun e=>by have:=ha14 e;rw[this] at hp53;exact hp53.eq_nil
     have he:(x52.map encLaw).length=(v13.map encLaw).length:=by simp[hp53.length_eq]
     (try rw[← growVe (s:=4) (a:=a12) he]);(try rw[← he])
     refine gX ?_
     refine fg Tryz.func59 ?_;refine gX ?_
     refine clipK (s:=4) (enc:=encLaw) (l:=x52) (n:=x52.length) (m:=x52.length) rfl rfl rfl rfl rfl rfl rfl ?_;refine gX ?_
     exact⟨(x52,0),hm,O.ext,fun h2 F=>VLe.tup (LLe.cons (O.clipL F (Nat.le_refl _) (.head _) ha55 (fun _=>rfl)) (LLe.cons (VLe.refl _ _) (LLe.nil _)))⟩
structure CC (c:Circ):Prop where
 p:Pln c
 f3:Few3 c
theorem cw_split {c:Circ}{given:List Asg}{t:List Nat}:CW c given t↔CW c [] t∧Ext given t :=
 ⟨fun h=>⟨⟨h.len,h.le,fun _ m=>(by cases m),h.cls⟩,h.ext⟩,fun ⟨h,e⟩=>⟨h.len,h.le,e,h.cls⟩⟩
def LeN (n:Nat) (v t:List Nat):Prop:=v.length=n∧∀ i,Blw (v.getD i 0) (t.getD i 0)
theorem LeN.refl (v:List Nat):LeN v.length v v:=⟨rfl,fun _=>.inr rfl⟩
theorem LeN.trans {n:Nat}{a b d:List Nat} (h:LeN n a b) (k:LeN n b d):LeN n a d:=⟨h.1,fun i=>(h.2 i).trans (k.2 i)⟩
theorem LeN.anti {n:Nat}{a b:List Nat} (h:LeN n a b) (k:LeN n b a):a=b:=blw_antisymm (h.1.trans k.1.symm) h.2 k.2
theorem LeN.ext {n:Nat}{a b:List Nat} (h:LeN n a b) {given:List Asg} (hv:∀ x∈given,x.value≤1) (e:Ext given a):Ext given b:=fun x m=>by
 have:=e x m
 have:=hv x m
 rcases h.2 x.net with q|q
 ·omega
 ·rw[← q];assumption
def cm (x y:Nat):Nat:=if x=y then x else 2
theorem cm_l (x y:Nat):Blw (cm x y) x:=by unfold cm;split;exact .inr rfl;exact .inl rfl
theorem cm_r (x y:Nat):Blw (cm x y) y:=by unfold cm;split;(rename_i e;exact .inr e);exact .inl rfl
theorem cm_mono {x y a b:Nat} (h:Blw x a) (k:Blw y b):Blw (cm x y) (cm a b):=by
 unfold cm
 split
 ·rename_i e
  subst e
  rcases h with h|h
  ·exact .inl h
  ·rcases k with k|k
   ·exact .inl k
   ·right;subst h;subst k;rw[if_pos rfl]
 ·exact .inl rfl
def joinedN (a b:List Nat):List Nat:=(List.range a.length).map fun i=>cm (a.getD i 0) (b.getD i 0)
theorem joinedN_len (a b:List Nat):(joinedN a b).length=a.length:=by unfold joinedN;simp
theorem joinedN_get {a b:List Nat} (h:a.length=b.length) (i:Nat):(joinedN a b).getD i 0=cm (a.getD i 0) (b.getD i 0):=by
 by_cases q:i<a.length
 ·unfold joinedN
  rw[List.getD,List.getElem?_map,List.getElem?_range q]
  rfl
 ·rw[getD_out (by rw[joinedN_len];omega),getD_out (by omega),getD_out (by omega)]
  rfl
def meetO:Option (List Nat)→Option (List Nat)→Option (List Nat)
 |none,b=>b
 |some a,none=>some a
 |some a,some b=>some (joinedN a b)
def leO (n:Nat) (o:Option (List Nat)) (t:List Nat):Prop:=∃ v,o=some v∧LeN n v t
def leOO (n:Nat) (o p:Option (List Nat)):Prop:=∀ w,p=some w→w.length=n∧leO n o w
theorem meet_le {n:Nat}{o1 o2 p1 p2:Option (List Nat)}{t:List Nat} (h1:leOO n o1 p1) (h2:leOO n o2 p2) (l1:∀ v,o1=some v→v.length=n) (l2:∀ v,o2=some v→v.length=n) (h:leO n (meetO p1 p2) t):leO n (meetO o1 o2) t:=by
 have jl:∀ a b:List Nat,a.length=n→b.length=n→LeN n (joinedN a b) a∧LeN n (joinedN a b) b:=fun a b ha hb =>
  ⟨⟨by rw[joinedN_len,ha],fun i=>by rw[joinedN_get (ha.trans hb.symm)];exact cm_l _ _⟩,⟨by rw[joinedN_len,ha],fun i=>by rw[joinedN_get (ha.trans hb.symm)];exact cm_r _ _⟩⟩
 obtain⟨v,e,hv⟩:=h
 cases p1 with
 |none =>
  have e:p2=some v:=e
  obtain⟨_,b,rfl,hb⟩:=h2 v e
  cases o1 with
  |none=>exact⟨b,rfl,hb.trans hv⟩
  |some a=>exact⟨_,rfl,((jl a b (l1 a rfl) hb.1).2.trans hb).trans hv⟩
 |some p1 =>
  obtain⟨hp1,a,rfl,ha⟩:=h1 p1 rfl
  cases p2 with
  |none =>
   cases e
   cases o2 with
   |none=>exact⟨a,rfl,ha.trans hv⟩
   |some b=>exact⟨_,rfl,((jl a b ha.1 (l2 b rfl)).1.trans ha).trans hv⟩
  |some p2 =>
   obtain⟨hp2,b,rfl,hb⟩:=h2 p2 rfl
   cases e
   refine⟨_,rfl,LeN.trans ⟨by rw[joinedN_len];exact ha.1,fun i=>?_⟩ hv⟩
   rw[joinedN_get (ha.1.trans hb.1.symm),joinedN_get (hp1.trans hp2.symm)]
   exact cm_mono (ha.2 i) (hb.2 i)
def knownP (v:List Nat) (i:Nat):List Asg:=((List.range i).filter fun k=>v.getD k 0 != 2).map fun k=>⟨k,v.getD k 0⟩
def knownA (v:List Nat):List Asg:=knownP v v.length
theorem mem_known {v:List Nat}{a:Asg}:a∈knownA v↔a.net<v.length∧v.getD a.net 0≠2∧a.value=v.getD a.net 0:=by
 unfold knownA knownP
 rw[List.mem_map]
 constructor
 ·rintro⟨k,m,rfl⟩
  rw[List.mem_filter,List.mem_range] at m
  exact⟨m.1,by simpa using m.2,rfl⟩
 ·rintro⟨h1,h2,h3⟩
  refine⟨a.net,?_,?_⟩
  ·rw[List.mem_filter,List.mem_range];exact⟨h1,by simpa using h2⟩
  ·cases a;simp only at h3 ⊢;rw[h3]
theorem known_ext {n:Nat}{v t:List Nat} (hl:v.length=n) (ht:t.length=n):Ext (knownA v) t↔LeN n v t:=by
 constructor
 ·refine fun h=>⟨hl,fun i=>?_⟩
  by_cases q:i<v.length
  ·by_cases e:v.getD i 0=2
   ·exact .inl e
   ·exact .inr (h ⟨i,v.getD i 0⟩ (mem_known.2 ⟨q,e,rfl⟩)).symm
  ·right;rw[getD_out (by omega),getD_out (by omega)]
 ·intro h a m
  obtain⟨h1,h2,h3⟩:=mem_known.1 m
  rw[h3]
  exact ((h.2 a.net).resolve_left h2).symm
theorem knownP_len (v:List Nat) (i:Nat):(knownP v i).length≤i:=by
 unfold knownP
 rw[List.length_map]
 refine Nat.le_trans (List.length_filter_le _ _) ?_
 simp
theorem known_len (v:List Nat):(knownA v).length≤v.length:=knownP_len v _
theorem known_grow {n:Nat}{v t:List Nat} (h:LeN n v t) (ht:t.length=n):(knownA v).length≤(knownA t).length∧((knownA t).length≤(knownA v).length→v=t):=by
 unfold knownA knownP
 rw[List.length_map,List.length_map,h.1,ht]
 have e:(List.range n).filter (fun k=>v.getD k 0 != 2)=((List.range n).filter fun k=>t.getD k 0 != 2).filter fun k=>v.getD k 0 != 2:=by
  rw[List.filter_filter]
  refine List.filter_congr fun k _=>?_
  rcases h.2 k with q|q
  ·rw[q];rfl
  ·rw[q];simp
 have s:((List.range n).filter fun k=>v.getD k 0 != 2).Sublist ((List.range n).filter fun k=>t.getD k 0 != 2):=by
  rw[e];exact List.filter_sublist
 refine⟨s.length_le,fun q=>?_⟩
 have e2:=s.eq_of_length_le q
 refine h.anti ⟨ht,fun i=>?_⟩
 by_cases hi:i<n
 ·rcases h.2 i with q|q
  ·left
   have m:i ∉ (List.range n).filter (fun k=>v.getD k 0 != 2):=by
    rw[List.mem_filter,q];simp
   rw[e2,List.mem_filter,List.mem_range] at m
   simpa[hi] using m
  ·exact .inr q.symm
 ·right;rw[getD_out (by omega),getD_out (by rw[h.1];omega)]
theorem list_vc {v:List Nat} (hl:v.length≤2 ^ 40) {K:List Asg→Prop} (h:K (knownA v)):learns_list_wp v K:=by
 unfold learns_list_wp
 refine joinLoop (fun s=>s.2≤v.length∧s.1=knownP v s.2) (fun s=>v.length-s.2) (fun a=>a=knownA v) ?_ ⟨Nat.zero_le _,rfl⟩ (fun a e=>by rw[e];exact h)
 rintro k ⟨o,i⟩ nx ⟨hi,hI⟩ hnx hk
 dsimp only at hi hI
 refine⟨fun q=>?_,fun q=>?_⟩
 ·have q:=lt_t.1 q
  (try dsimp only at q)
  have hb:o.length≤2 ^ 40:=by rw[hI];have:=knownP_len v i;omega
  refine joinI ⟨_,getD_some q,fun e=>?_,fun e=>?_⟩
  ·have e:=ne_t.1 e
   refine⟨by simp only[List.length_singleton];omega,by omega,hnx _ ⟨q,?_⟩ (by dsimp only;omega)⟩
   dsimp only
   rw[hI]
   unfold knownP
   rw[filt_step,if_pos (by simpa using e),List.map_append]
   rfl
  ·have e:=ne_f.1 e
   refine⟨by omega,hnx _ ⟨q,?_⟩ (by dsimp only;omega)⟩
   dsimp only
   rw[hI]
   unfold knownP
   rw[filt_step,if_neg (by rw[e];simp),List.append_nil]
 ·have q:=lt_f.1 q
  (try dsimp only at q)
  have:i=v.length:=by omega
  subst this
  exact hk o hI
structure Lst (P:List Nat→Prop) (given:List Asg) (v:List Nat):Prop where
 mem:P v
 ext:Ext given v
 low:∀ t,P t→Ext given t→LeN v.length v t
theorem lst_close {c:Circ}{given:List Asg}{v:List Nat} (C:CloseOk c given v):Lst (CW c []) given v :=
 ⟨(cw_split.1 C.cw).1,C.giv,fun t h e=>⟨rfl,C.snd t (cw_split.2 ⟨h,e⟩)⟩⟩
theorem Lst.eq {P:List Nat→Prop}{given:List Asg}{v w:List Nat} (hl:v.length=w.length) (h:Lst P given v) (k:Lst P given w):v=w :=
 (h.low w k.mem k.ext).anti (by have:=k.low v h.mem h.ext;rw[← hl] at this;exact this)
open Classical in
noncomputable def lstO (P:List Nat→Prop) (given:List Asg):Option (List Nat):=if h:∃ v,Lst P given v then some (Classical.choose h) else none
theorem lstO_some {P:List Nat→Prop}{given:List Asg}{v:List Nat} (h:lstO P given=some v):Lst P given v:=by
 unfold lstO at h
 split at h
 ·rename_i e
  cases h
  exact Classical.choose_spec e
 ·cases h
theorem lstO_ok {P:List Nat→Prop}{n:Nat} (hP:∀ t,P t→t.length=n) {given:List Asg}{v:List Nat} (h:Lst P given v):lstO P given=some v:=by
 unfold lstO
 rw[dif_pos ⟨v,h⟩]
 have k:=Classical.choose_spec (⟨v,h⟩:∃ v,Lst P given v)
 exact congrArg some (k.eq ((hP _ k.mem).trans (hP _ h.mem).symm) h)
theorem lstO_none {P:List Nat→Prop}{given:List Asg} (h:∀ t,P t→¬ Ext given t):lstO P given=none:=by
 unfold lstO
 rw[dif_neg (fun ⟨v,k⟩=>h v k.mem k.ext)]
def satP (c:Circ):Nat→(List Nat→Prop)
 |0=>fun t=>CW c [] t
 |d+1=>fun t=>CW c [] t∧∀ n,n<c.nodes.length→t.getD n 0=2→leO c.nodes.length (meetO (lstO (satP c d) (knownA t++[⟨n,0⟩])) (lstO (satP c d) (knownA t++[⟨n,1⟩]))) t
noncomputable def satO (c:Circ) (d:Nat) (given:List Asg):Option (List Nat):=lstO (satP c d) given
theorem satP_cw {c:Circ}:∀ {d:Nat}{t:List Nat},satP c d t→CW c [] t
 |0,_,h=>h
 |_+1,_,h=>h.1
theorem satP_len {c:Circ}{d:Nat} (t:List Nat) (h:satP c d t):t.length=c.nodes.length:=(satP_cw h).len
def SatD (c:Circ) (d:Nat):Prop:=∀ given,GivOk c given→(∃ v,Lst (satP c d) given v)∨∀ t,satP c d t→¬ Ext given t
theorem giv_known {c:Circ}{v:List Nat} (hl:v.length=c.nodes.length) (hc:c.nodes.length≤16) (le:∀ i,v.getD i 0≤2):GivOk c (knownA v):=by
 refine⟨fun a m=>?_,?_⟩
 ·obtain⟨h1,h2,h3⟩:=mem_known.1 m
  have:=le a.net
  exact⟨by omega,by omega⟩
 ·have:=known_len v
  omega
theorem GivOk.snoc {c:Circ}{l:List Asg} (h:GivOk c l) (hl:l.length<2 ^ 50) {a:Asg} (h1:a.net<c.nodes.length) (h2:a.value≤1):GivOk c (l++[a]):=by
 refine⟨fun b m=>?_,?_⟩
 ·rcases List.mem_append.1 m with m|m
  ·exact h.ok b m
  ·rw[List.mem_singleton.1 m];exact⟨h1,h2⟩
 ·rw[List.length_append,List.length_singleton];omega
theorem ext_snoc {l:List Asg}{a:Asg}{t:List Nat}:Ext (l++[a]) t↔Ext l t∧t.getD a.net 0=a.value :=
 ⟨fun h=>⟨fun b m=>h b (List.mem_append_left _ m),h a (List.mem_append_right _ (List.mem_singleton.2 rfl))⟩,fun ⟨h,k⟩ b m=>by
  rcases List.mem_append.1 m with m|m
  ·exact h b m
  ·rw[List.mem_singleton.1 m];exact k⟩
theorem satO_le {P Q:List Nat→Prop}{n:Nat} (lP:∀ t,P t→t.length=n) (hPQ:∀ t,Q t→P t) {g g':List Asg} (hg:∀ t,Q t→Ext g' t→Ext g t) (D:(∃ v,Lst P g v)∨∀ t,P t→¬ Ext g t):leOO n (lstO P g) (lstO Q g'):=by
 intro w e
 have L:=lstO_some e
 have hw:=hPQ w L.mem
 refine⟨lP w hw,?_⟩
 rcases D with⟨v,V⟩|D
 ·refine⟨v,lstO_ok lP V,?_⟩
  have:=V.low w hw (hg w L.mem L.ext)
  rw[lP v V.mem] at this
  exact this
 ·exact absurd (hg w L.mem L.ext) (D w hw)
theorem satP_down {c:Circ} (hc:c.nodes.length≤16):∀ {d:Nat},(∀ e,e<d→SatD c e)→∀ {t:List Nat},satP c (d+1) t→satP c d t
 |0,_,_,h=>h.1
 |d+1,D,t,h=>by
  refine⟨h.1,fun n hn h2=>?_⟩
  have C:=satP_cw h
  have G:=giv_known C.len hc C.le
  have gl:(knownA t).length<2 ^ 50:=by have:=known_len t;have:=C.len;omega
  have IH:∀ {t:List Nat},satP c (d+1) t→satP c d t:=satP_down hc (d:=d) fun e he=>D e (by omega)
  exact meet_le (satO_le satP_len (fun t=>IH) (fun _ _ e=>e) (D d (by omega) _ (G.snoc gl hn (Nat.zero_le _)))) (satO_le satP_len (fun t=>IH) (fun _ _ e=>e) (D d (by omega) _ (G.snoc gl hn (Nat.le_refl _))))
   (fun v e=>satP_len v (lstO_some e).mem) (fun v e=>satP_len v (lstO_some e).mem) (h.2 n hn h2)
theorem sat_meet {c:Circ} (hc:c.nodes.length≤16) {d:Nat} (D:∀ e,e≤d→SatD c e) {v t:List Nat} (T:satP c (d+1) t) (hv:LeN c.nodes.length v t) (le:∀ i,v.getD i 0≤2) {n:Nat} (hn:n<c.nodes.length) :
  leO c.nodes.length (meetO (satO c d (knownA v++[⟨n,0⟩])) (satO c d (knownA v++[⟨n,1⟩]))) t:=by
 have C:=satP_cw T
 have G:=giv_known hv.1 hc le
 have gl:(knownA v).length<2 ^ 50:=by have:=known_len v;have:=hv.1;omega
 have G0:GivOk c (knownA v++[⟨n,0⟩]):=G.snoc gl hn (Nat.zero_le _)
 have G1:GivOk c (knownA v++[⟨n,1⟩]):=G.snoc gl hn (Nat.le_refl _)
 have E:=(known_ext hv.1 C.len).2 hv
 have lenO:∀ {g:List Asg} (w:List Nat),satO c d g=some w→w.length=c.nodes.length:=fun w e=>satP_len w (lstO_some e).mem
 have Td:satP c d t:=satP_down hc (fun e he=>D e (by omega)) T
 have mono:∀ x,leOO c.nodes.length (satO c d (knownA v++[⟨n,x⟩])) (satO c d (knownA t++[⟨n,x⟩]))∨¬ x≤1:=fun x=>by
  by_cases hx:x≤1
  ·left
   refine satO_le satP_len (fun _ h=>h) (fun w W e=>?_) (D d (Nat.le_refl _) _ (G.snoc gl hn hx))
   obtain⟨e1,e2⟩:=ext_snoc.1 e
   exact ext_snoc.2 ⟨(known_ext hv.1 (satP_len w W)).2 (hv.trans ((known_ext C.len (satP_len w W)).1 e1)),e2⟩
  ·exact .inr hx
 have side:∀ x,x≤1→t.getD n 0=x→leO c.nodes.length (satO c d (knownA v++[⟨n,x⟩])) t:=fun x hx e=>by
  rcases D d (Nat.le_refl _) _ (G.snoc (a:=⟨n,x⟩) gl hn hx) with⟨w,W⟩|N
  ·refine⟨w,lstO_ok satP_len W,?_⟩
   have:=W.low t Td (ext_snoc.2 ⟨E,e⟩)
   rw[satP_len w W.mem] at this
   exact this
  ·exact absurd (ext_snoc.2 ⟨E,e⟩) (N t Td)
 have tot:∀ (o:Option (List Nat)),leOO c.nodes.length o none:=fun o w e=>by cases e
 have self:t.length=c.nodes.length:=C.len
 have own:∀ {o:Option (List Nat)},leO c.nodes.length o t→leOO c.nodes.length o (some t):=fun h w e=>by cases e;exact⟨self,h⟩
 have rt:LeN c.nodes.length t t:=⟨self,fun _=>.inr rfl⟩
 by_cases h2:t.getD n 0=2
 ·exact meet_le ((mono 0).resolve_right (by omega)) ((mono 1).resolve_right (by omega)) lenO lenO (T.2 n hn h2)
 ·have:=C.le n
  by_cases h0:t.getD n 0=0
  ·exact meet_le (own (side 0 (by omega) h0)) (tot _) lenO lenO (p1:=some t) (p2:=none) ⟨t,rfl,rt⟩
  ·exact meet_le (tot _) (own (side 1 (by omega) (by omega))) lenO lenO (p1:=none) (p2:=some t) ⟨t,rfl,rt⟩
def ofO (o:Option (List Nat)):List Nat:=match o with
 |some v=>v
 |none=>[]
theorem joined_vc {a b:List Nat} (h:a.length=b.length) (h0:0<a.length) (hl:a.length≤2 ^ 40) {K:List Nat→Prop} (k:K (joinedN a b)):learns_joined_wp a b K:=by
 unfold learns_joined_wp
 refine⟨by omega,by omega,?_⟩
 refine joinLoop (fun s=>s.2≤a.length∧s.1.length=a.length∧∀ i,i<s.2→s.1.getD i 0=cm (a.getD i 0) (b.getD i 0)) (fun s=>a.length-s.2) (fun v=>v=joinedN a b) ?_ ⟨Nat.zero_le _,by simp,fun i hi=>absurd hi (Nat.not_lt_zero _)⟩ ?_
 ·rintro kk ⟨v,i⟩ nx ⟨hi,hv,hI⟩ hnx hk
  dsimp only at hi hv hI
  refine⟨fun q=>?_,fun q=>?_⟩
  ·have q:=lt_t.1 q
   (try dsimp only at q)
   refine⟨_,getD_some q,_,getN h.symm q,?_⟩
   have step:∀ x,x=cm (a.getD i 0) (b.getD i 0)→(i<a.length∧∃ y,v[i]?=some y∧i+1<2 ^ 63∧nx (v.set i x,i+1)):=fun x e=>by
    refine⟨q,_,getN hv q,by omega,hnx _ ⟨q,by dsimp only;rw[List.length_set];exact hv,fun j hj=>?_⟩ (by dsimp only;omega)⟩
    dsimp only at hj ⊢
    rw[getD_set (by omega)]
    split
    ·rename_i e2;subst e2;exact e
    ·exact hI j (by omega)
   refine⟨fun e=>step _ ?_,fun e=>step _ ?_⟩
   ·unfold cm;rw[if_pos (eq_t.1 e)]
   ·unfold cm;rw[if_neg (eq_f.1 e)]
  ·have q:=lt_f.1 q
   (try dsimp only at q)
   refine hk v (List.ext_getElem (by rw[joinedN_len];exact hv) fun j h1 h2=>?_)
   have:=hI j (by omega)
   rw[← joinedN_get h,List.getD,List.getElem?_eq_getElem h1,List.getD,List.getElem?_eq_getElem h2] at this
   exact this
 ·rintro v rfl
  have:=joinedN_len a b
  exact⟨by omega,by omega,k⟩
theorem meet_ge {n:Nat}{w a b:List Nat} (ha:a.length=n) (hb:b.length=n) (h1:LeN n w a) (h2:LeN n w b):LeN n w (joinedN a b):=by
 refine⟨h1.1,fun i=>?_⟩
 rw[joinedN_get (ha.trans hb.symm)]
 have:=cm_mono (h1.2 i) (h2.2 i)
 unfold cm at this
 rw[if_pos rfl] at this
 exact this
def SatV (c:Circ) (d:Nat):Prop:=∀ given,GivOk c given→∀ K:List Nat→Prop,(∀ v,Lst (satP c d) given v→K v)→((∀ t,satP c d t→¬ Ext given t)→K [])→learns_saturate_f (d+1) c d given K
theorem SatV.get {c:Circ}{d:Nat} (V:SatV c d) {given:List Asg} (g:GivOk c given) {K:List Nat→Prop} (k:K (ofO (satO c d given))):learns_saturate_f (d+1) c d given K:=by
 refine V given g K (fun v L=>?_) fun N=>?_
 ·rw[show satO c d given=some v from lstO_ok satP_len L] at k;exact k
 ·rw[show satO c d given=none from lstO_none N] at k;exact k
theorem SatV.dec {c:Circ}{d:Nat} (V:SatV c d):SatD c d:=fun given g=>by
 obtain⟨r,h,_⟩:=learns_saturate_walk ⟨d+1,V given g (fun _=>(∃ v,Lst (satP c d) given v)∨∀ t,satP c d t→¬ Ext given t) (fun v L=>.inl ⟨v,L⟩) (fun N=>.inr N)⟩ (h0:=heapOf vars) (fun i o e=>by rw[heapOf_get];exact e)
 exact h
theorem sat_zero {c:Circ} (C:CC c):SatV c 0:=by
 intro given g K h1 h2
 unfold learns_saturate_f
 refine close_vc C.p C.f3 g.ok g.len (fun v D=>⟨(fun e=>by cases e),fun _=>⟨fun _=>h1 v (lst_close D),fun e=>absurd rfl (eq_f.1 e)⟩⟩) fun N=>⟨fun _=>h2 fun t T E=>N t (cw_split.2 ⟨T,E⟩),(fun e=>by cases e)⟩
theorem sat_succ {c:Circ} (C:CC c) {d:Nat} (hd:d<100) (V:SatV c d) (D:∀ e,e≤d→SatD c e):SatV c (d+1):=by
 intro given g K h1 h2
 have hc:=C.p.good.len
 have hpos:=C.p.good.pos
 unfold learns_saturate_f
 refine close_vc C.p C.f3 g.ok g.len (fun v0 D0=>⟨(fun e=>by cases e),fun _=>⟨fun e=>absurd (eq_t.1 e) (by omega),fun _=>?_⟩⟩) fun N=>⟨fun _=>h2 fun t T E=>N t (cw_split.2 ⟨satP_cw T,E⟩),(fun e=>by cases e)⟩
 refine loopW_intro (fun v=>CW c [] v∧Ext given v∧∀ t,satP c (d+1) t→Ext given t→LeN c.nodes.length v t) (fun v=>16-(knownA v).length) ?_ ⟨(cw_split.1 D0.cw).1,D0.giv,fun t T E=>⟨D0.len,D0.snd t (cw_split.2 ⟨satP_cw T,E⟩)⟩⟩
 intro v next ⟨W,E,low⟩ hnext
 have hvl:=W.len
 refine list_vc (by omega) ?_
 refine joinLoop (fun s=>s.2≤v.length∧LeN c.nodes.length v s.1∧s.1.length=c.nodes.length∧(∀ i,s.1.getD i 0≤2)∧(∀ t,satP c (d+1) t→Ext given t→LeN c.nodes.length s.1 t)∧(s.1=v→∀ m,m<s.2→v.getD m 0=2→leO c.nodes.length (meetO (satO c d (knownA v++[⟨m,0⟩])) (satO c d (knownA v++[⟨m,1⟩]))) v))
  (fun s=>v.length-s.2) (fun w=>LeN c.nodes.length v w∧w.length=c.nodes.length∧(∀ i,w.getD i 0≤2)∧(∀ t,satP c (d+1) t→Ext given t→LeN c.nodes.length w t)∧(w=v→∀ m,m<v.length→v.getD m 0=2→leO c.nodes.length (meetO (satO c d (knownA v++[⟨m,0⟩])) (satO c d (knownA v++[⟨m,1⟩]))) v)) ?_ ⟨Nat.zero_le _,⟨hvl,fun _=>.inr rfl⟩,hvl,W.le,low,fun _ m hm=>absurd hm (Nat.not_lt_zero _)⟩ ?_
 ·rintro k ⟨w,i⟩ nx ⟨hi,hge,hwl,hle,hlow,hsat⟩ hnx hk
  dsimp only at hi hge hwl hle hlow hsat
  refine⟨fun q=>?_,fun q=>?_⟩
  ·have q:=lt_t.1 q
   (try dsimp only at q)
   have hin:i<c.nodes.length:=by omega
   refine joinI ⟨_,getN hwl hin,fun e=>?_,fun e=>?_⟩
   ·have e:=ne_t.1 e
    refine⟨by omega,hnx _ ⟨q,hge,hwl,hle,hlow,fun ew m hm h2=>?_⟩ (by dsimp only;omega)⟩
    dsimp only at ew hm
    by_cases em:m=i
    ·subst em;rw[ew] at e;exact absurd h2 e
    ·exact hsat ew m (by omega) h2
   ·have e:=ne_f.1 e
    have G:=giv_known hwl hc hle
    have hkl:(knownA w).length≤16:=by have:=known_len w;omega
    have G0:GivOk c (knownA w++[⟨i,0⟩]):=G.snoc (by omega) hin (Nat.zero_le _)
    have G1:GivOk c (knownA w++[⟨i,1⟩]):=G.snoc (by omega) hin (Nat.le_refl _)
    refine joinI ⟨by omega,by omega,list_vc (by omega) ⟨by simp only[List.length_singleton];omega,V.get G0 ⟨by omega,by omega,list_vc (by omega) ⟨by simp only[List.length_singleton];omega,V.get G1 ?_⟩⟩⟩⟩
    have targ:∀ t,satP c (d+1) t→Ext given t→leO c.nodes.length (meetO (satO c d (knownA w++[⟨i,0⟩])) (satO c d (knownA w++[⟨i,1⟩]))) t:=fun t T Et=>sat_meet hc D T (hlow t T Et) hle hin
    have side:∀ {x:Nat} {a:List Nat},satO c d (knownA w++[⟨i,x⟩])=some a→LeN c.nodes.length w a∧a.length=c.nodes.length∧∀ j,a.getD j 0≤2:=fun {x a} ea=>by
     have L:=lstO_some ea
     have al:=satP_len a L.mem
     exact⟨(known_ext hwl al).1 (ext_snoc.1 L.ext).1,al,(satP_cw L.mem).le⟩
    have go:∀ w',meetO (satO c d (knownA w++[⟨i,0⟩])) (satO c d (knownA w++[⟨i,1⟩]))=some w'→LeN c.nodes.length w w'→w'.length=c.nodes.length→(∀ j,w'.getD j 0≤2)→i+1<2 ^ 63∧nx (w',i+1):=fun w' em hw' hl' hle'=>by
     refine⟨by omega,hnx _ ⟨q,hge.trans hw',hl',hle',fun t T Et=>?_,fun ew m hm h2=>?_⟩ (by dsimp only;omega)⟩
     ·obtain⟨z,ez,hz⟩:=targ t T Et
      rw[em] at ez;cases ez;exact hz
     ·dsimp only at ew hm
      have ewv:w=v:=by subst ew;exact hw'.anti hge
      by_cases emi:m=i
      ·subst emi
       rw[← ewv,em]
       exact⟨w',rfl,by rw[ewv,ew];exact⟨hvl,fun _=>.inr rfl⟩⟩
      ·exact hsat ewv m (by omega) h2
    have ne:∀ {a:List Nat},a.length=c.nodes.length→a.isEmpty=false:=fun {a} h=>by cases a with
     |nil=>simp only[List.length_nil] at h;omega
     |cons _ _=>rfl
    have s0:=@side 0
    have s1:=@side 1
    clear side
    generalize satO c d (knownA w++[⟨i,0⟩])=o0 at targ s0 go ⊢
    generalize satO c d (knownA w++[⟨i,1⟩])=o1 at targ s1 go ⊢
    cases o0 with
    |none =>
     cases o1 with
     |none=>exact joinB (a:=true) (fun F=>⟨fun _=>F,(fun e=>by cases e)⟩) ⟨fun _=>h2 fun t T Et=>(by obtain⟨z,ez,_⟩:=targ t T Et;cases ez),(fun e=>by cases e)⟩
     |some b =>
      obtain⟨b1,b2,b3⟩:=s1 rfl
      have eb:(ofO (some b)).isEmpty=false:=ne b2
      exact joinB (a:=(ofO (some b)).isEmpty) (fun F=>⟨fun _=>F,(fun e=>by cases e)⟩) ⟨fun e=>(by rw[eb] at e;cases e),fun _=>⟨fun _=>go b rfl b1 b2 b3,(fun e=>by cases e)⟩⟩
    |some a =>
     obtain⟨a1,a2,a3⟩:=s0 rfl
     have ea:(ofO (some a)).isEmpty=false:=ne a2
     refine joinB (a:=false) (fun F=>⟨fun e=>(by rw[ea] at e;cases e),fun _=>F⟩) ⟨(fun e=>by cases e),fun _=>⟨fun e=>(by rw[ea] at e;cases e),fun _=>?_⟩⟩
     cases o1 with
     |none=>exact⟨fun _=>go a rfl a1 a2 a3,(fun e=>by cases e)⟩
     |some b =>
      obtain⟨b1,b2,b3⟩:=s1 rfl
      have eb:(ofO (some b)).isEmpty=false:=ne b2
      refine⟨fun e=>(by rw[eb] at e;cases e),fun _=>joined_vc (a:=a) (b:=b) (a2.trans b2.symm) (by omega) (by omega) (go _ rfl (meet_ge a2 b2 a1 b1) (by rw[joinedN_len];exact a2) fun j=>?_)⟩
      rw[joinedN_get (a2.trans b2.symm)]
      unfold cm
      split
      ·exact a3 j
      ·exact Nat.le_refl _
  ·have q:=lt_f.1 q
   (try dsimp only at q)
   have:i=v.length:=by omega
   subst this
   exact hk w ⟨hge,hwl,hle,hlow,hsat⟩
 ·rintro w ⟨hge,hwl,hle,hlow,hsat⟩
  have kg:=known_grow hge hwl
  refine list_vc (by omega) ⟨fun q=>?_,fun q=>?_⟩
  ·have q:=lt_t.1 q
   have G:=giv_known hwl hc hle
   refine list_vc (by omega) (close_vc C.p C.f3 G.ok G.len (fun v' D'=>⟨(fun e=>by cases e),fun _=>?_⟩) fun N=>⟨fun _=>h2 fun t T Et=>N t (cw_split.2 ⟨satP_cw T,(known_ext hwl (satP_len t T)).2 (hlow t T Et)⟩),(fun e=>by cases e)⟩)
   have hwv:LeN c.nodes.length w v':=(known_ext hwl D'.len).1 D'.giv
   refine hnext v' ⟨(cw_split.1 D'.cw).1,(hge.trans hwv).ext (fun x m=>(g.ok x m).2) E,fun t T Et=>⟨D'.len,D'.snd t (cw_split.2 ⟨satP_cw T,(known_ext hwl (satP_len t T)).2 (hlow t T Et)⟩)⟩⟩ ?_
   have:=(known_grow hwv D'.len).1
   have:=known_len v'
   have:=D'.len
   omega
  ·have q:=lt_f.1 q
   have ev:=kg.2 q
   subst ev
   refine h1 _ ⟨⟨W,fun m hm h2=>hsat rfl m (by omega) h2⟩,E,fun t T Et=>?_⟩
   rw[hvl]
   exact low t T Et
theorem sat_all {c:Circ} (C:CC c):∀ d,d<100→SatV c d∧∀ e,e≤d→SatD c e
 |0,_=>⟨sat_zero C,fun e he=>by
  have:e=0:=by omega
  subst this;exact (sat_zero C).dec⟩
 |d+1,h=>by
  obtain⟨V,D⟩:=sat_all C d (by omega)
  have V':=sat_succ C (by omega) V D
  refine⟨V',fun e he=>?_⟩
  by_cases q:e=d+1
  ·subst q;exact V'.dec
  ·exact D e (by omega)
theorem saturate_vc {c:Circ} (C:CC c) {d:Nat} (hd:d<100) {given:List Asg} (g:GivOk c given) {K:List Nat→Prop} (k:K (ofO (satO c d given))):learns_saturate_wp c d given K :=
 ⟨d+1,(sat_all C d hd).1.get g k⟩
theorem satD {c:Circ} (C:CC c) {d:Nat} (hd:d<100):SatD c d:=(sat_all C d hd).2 d (Nat.le_refl _)
inductive CloseR (c:Circ) (given:List Asg):List Nat×Bool×Nat→Prop
 |ok (v:List Nat) (C:CloseOk c given v):CloseR c given (v,true,0)
 |no (h:∀ t,¬ CW c given t):CloseR c given ([],false,0)
theorem CloseR.yes {c:Circ}{given:List Asg}{r:List Nat×Bool×Nat} (R:CloseR c given r) (h:r.2.1=true):CloseOk c given r.1:=by
 cases R with
 |ok v C=>exact C
 |no _=>cases h
theorem CloseR.not {c:Circ}{given:List Asg}{r:List Nat×Bool×Nat} (R:CloseR c given r) (h:r.2.1=false):r.1=[]∧∀ t,¬ CW c given t:=by
 cases R with
 |ok v C=>cases h
 |no q=>exact⟨rfl,q⟩
theorem lknown_vc {c:Circ}{l:List Asg} (h:∀ a∈l,a.net<c.nodes.length∧a.value≤1) (hl:l.length<2 ^ 60) {K:Bool→Prop} (k:K true):learns_known_wp c l K:=by
 unfold learns_known_wp
 refine joinLoop (fun i=>i≤l.length) (fun i=>l.length-i) (fun _=>True) ?_ (Nat.zero_le _) (fun _ _=>k)
 rintro kk i nx hi hnx hk
 refine⟨fun q=>?_,fun _=>hk () trivial⟩
 have q:=lt_t.1 q
 obtain⟨a,ha⟩:=get_lt q
 obtain⟨g1,g2⟩:=h a (List.mem_of_getElem? ha)
 refine⟨a,ha,joinB (a:=false) (fun F=>⟨fun e=>absurd (lt_t.1 e) (Nat.not_lt_zero _),fun _=>⟨fun e=>absurd (nlt_t.1 e) (by omega),fun _=>known_vc ?_⟩⟩) ⟨(fun e=>by cases e),fun _=>⟨by omega,hnx _ q (by omega)⟩⟩⟩
 rw[decide_eq_true g2]
 exact F
theorem cloR_sat {o:Option (List Nat)} (h:∀ v,o=some v→0<v.length):(ofO o,!(ofO o).isEmpty,0)=cloR o:=by
 cases o with
 |none=>rfl
 |some v=>cases v with
  |nil=>have:=h [] rfl;simp at this
  |cons _ _=>rfl
theorem satO_pos {c:Circ} (C:CC c) {d:Nat}{given:List Asg}:∀ v,satO c d given=some v→0<v.length:=fun v e=>by
 rw[satP_len v (lstO_some e).mem];exact C.p.good.pos
theorem lSaturate_vc {c:Circ} (C:CC c) {d:Nat} (hd:d≤4) {given:List Asg} (g:GivOk c given) {K:List Nat×Bool×Nat→Prop} (k:K (cloR (satO c d given))):learns_Saturate_wp c d given K:=by
 unfold learns_Saturate_wp
 refine plain_vc C.p ⟨fun q=>absurd rfl (ne_t.1 q),fun _=>⟨fun q=>absurd (lt_t.1 q) (Nat.not_lt_zero _),fun _=>⟨fun q=>absurd (lt_t.1 q) (by omega),fun _=>lknown_vc g.ok g.len ⟨(fun e=>by cases e),fun _=>saturate_vc C (by omega) g ?_⟩⟩⟩⟩
 rw[cloR_sat (satO_pos C)]
 exact k
def lawP (c:Circ) (laws:List Lawv):List Nat→Prop:=fun t=>CW c [] t∧∀ l∈laws,t.getD l.cond.net 0=l.cond.value→t.getD l.thn.net 0=l.thn.value
noncomputable def lawO (c:Circ) (laws:List Lawv) (given:List Asg):Option (List Nat):=lstO (lawP c laws) given
theorem lawP_len {c:Circ}{laws:List Lawv} (t:List Nat) (h:lawP c laws t):t.length=c.nodes.length:=h.1.len
structure LawsOk (c:Circ) (laws:List Lawv):Prop where
 ok:∀ l∈laws,(l.cond.net<c.nodes.length∧l.cond.value≤1)∧l.thn.net<c.nodes.length∧l.thn.value≤1
 len:laws.length<2 ^ 30
theorem clone_vc {l:List Asg} (hl:l.length<2 ^ 40) {K:List Asg→Prop} (k:K l):sl_CloneA_wp l K:=by
 unfold sl_CloneA_wp
 cases l with
 |nil=>exact⟨fun _=>k,(fun e=>by cases e)⟩
 |cons a l=>exact⟨(fun e=>by cases e),fun _=>⟨by simp only[List.length_nil];omega,by simp,k⟩⟩
open Classical in
noncomputable def cloM (c:Circ) (all:List Asg):Nat:=match clo c all with
 |none=>0
 |some v=>17-(knownA v).length
theorem lClose_vc' {c:Circ} (C:CC c) {laws:List Lawv} (L:LawsOk c laws) {given:List Asg} (g:GivOk c given) (gl:given.length<2 ^ 40) {K:List Nat×Bool×Nat→Prop} (h1:∀ v,Lst (lawP c laws) given v→K (v,true,0)) (h2:(∀ t,lawP c laws t→¬ Ext given t)→K ([],false,0)):learns_Close_wp c laws given K:=by
 have hc:=C.p.good.len
 unfold learns_Close_wp
 refine plain_vc C.p ⟨fun q=>absurd rfl (ne_t.1 q),fun _=>lknown_vc g.ok g.len ⟨(fun e=>by cases e),fun _=>?_⟩⟩
 refine joinLoop (fun i=>i≤laws.length) (fun i=>laws.length-i) (fun _=>True) ?_ (Nat.zero_le _) fun _ _=>?_
 ·rintro kk i nx hi hnx hk
  refine⟨fun q=>?_,fun _=>hk () trivial⟩
  have q:=lt_t.1 q
  obtain⟨l,hl⟩:=get_lt q
  obtain⟨l1,l2⟩:=L.ok l (List.mem_of_getElem? hl)
  have:=L.len
  refine⟨l,hl,lknown_vc (fun a m=>?_) (by simp) ⟨(fun e=>by cases e),fun _=>⟨by omega,hnx _ q (by omega)⟩⟩⟩
  rcases List.mem_cons.1 m with rfl|m
  ·exact l1
  ·rw[List.mem_singleton.1 m];exact l2
 refine clone_vc gl ?_
 refine loopW_intro (fun all=>GivOk c all∧(∀ t,lawP c laws t→Ext given t→Ext all t)∧∀ t,CW c [] t→Ext all t→Ext given t) (cloM c) ?_ ⟨g,fun _ _ e=>e,fun _ _ e=>e⟩
 intro all next ⟨ga,ha1,ha2⟩ hnext
 refine close_vc C.p C.f3 ga.ok ga.len (fun v D=>⟨(fun e=>by cases e),fun _=>?_⟩) fun N=>⟨fun _=>h2 fun t T E=>N t (cw_split.2 ⟨T.1,ha1 t T E⟩),(fun e=>by cases e)⟩
 have hvl:=D.len
 have hkl:(knownA v).length≤16:=by have:=known_len v;omega
 have hlow:∀ t,lawP c laws t→Ext given t→LeN c.nodes.length v t:=fun t T E=>⟨hvl,D.snd t (cw_split.2 ⟨T.1,ha1 t T E⟩)⟩
 refine list_vc (v:=v) (by omega) ?_
 refine joinLoop (fun s=>s.2.2≤laws.length∧(∀ a∈s.1,a.net<c.nodes.length∧a.value≤1)∧s.1.length≤16+s.2.2∧(∀ t,lawP c laws t→Ext given t→Ext s.1 t)∧(∀ t,Ext s.1 t→Ext (knownA v) t)∧(s.2.1=true→∃ a∈s.1,v.getD a.net 0≠a.value)∧(s.2.1=false→s.1=knownA v∧∀ j l,j<s.2.2→laws[j]?=some l→v.getD l.cond.net 0=l.cond.value→v.getD l.thn.net 0=l.thn.value))
  (fun s=>laws.length-s.2.2) (fun s=>(∀ a∈s.1,a.net<c.nodes.length∧a.value≤1)∧s.1.length≤16+laws.length∧(∀ t,lawP c laws t→Ext given t→Ext s.1 t)∧(∀ t,Ext s.1 t→Ext (knownA v) t)∧(s.2=true→∃ a∈s.1,v.getD a.net 0≠a.value)∧(s.2=false→s.1=knownA v∧∀ l∈laws,v.getD l.cond.net 0=l.cond.value→v.getD l.thn.net 0=l.thn.value)) ?_
  ⟨Nat.zero_le _,(giv_known hvl hc D.le).ok,hkl,fun t T E=>(known_ext hvl (lawP_len t T)).2 (hlow t T E),fun _ e=>e,(fun e=>by cases e),fun _=>⟨rfl,fun _ _ h=>absurd h (Nat.not_lt_zero _)⟩⟩ ?_
 ·rintro kk ⟨l,b,i⟩ nx ⟨hi,hok,hll,i1,i2,i3,i4⟩ hnx hk
  dsimp only at hi hok hll i1 i2 i3 i4
  have:=L.len
  refine⟨fun q=>?_,fun q=>?_⟩
  ·have q:=lt_t.1 q
   (try dsimp only at q)
   obtain⟨x,hx⟩:=get_lt q
   obtain⟨⟨x1,x2⟩,x3,x4⟩:=L.ok x (List.mem_of_getElem? hx)
   have no:¬ (v.getD x.cond.net 0=x.cond.value∧v.getD x.thn.net 0≠x.thn.value)→i+1<2 ^ 63∧nx (l,b,i+1):=fun hn=>by
    refine⟨by omega,hnx _ ⟨q,hok,by dsimp only;omega,i1,i2,i3,fun e=>⟨(i4 e).1,fun j y hj hy hc2=>?_⟩⟩ (by dsimp only;omega)⟩
    by_cases ej:j=i
    ·subst ej
     rw[hx] at hy;cases hy
     exact Classical.byContradiction fun h=>hn ⟨hc2,h⟩
    ·exact (i4 e).2 j y (by dsimp only at hj;omega) hy hc2
   have fin:∀ z,(z=true→v.getD x.cond.net 0=x.cond.value∧v.getD x.thn.net 0≠x.thn.value)→(z=false→¬ (v.getD x.cond.net 0=x.cond.value∧v.getD x.thn.net 0≠x.thn.value)) →
     (z=true→(l.length+([x.thn]:List Asg).length)*16≤2 ^ 47∧i+1<2 ^ 63∧nx (l++([x.thn]:List Asg),true,i+1))∧(z=false→i+1<2 ^ 63∧nx (l,b,i+1)):=fun z z1 z2=>by
    refine⟨fun e=>?_,fun e=>no (z2 e)⟩
    obtain⟨c1,c2⟩:=z1 e
    refine⟨by simp only[List.length_singleton];omega,by omega,hnx _ ⟨q,fun a m=>?_,by simp only[List.length_append,List.length_singleton];omega,fun t T E=>ext_snoc.2 ⟨i1 t T E,?_⟩,fun t E=>i2 t (ext_snoc.1 E).1,fun _=>⟨x.thn,List.mem_append_right _ (List.mem_singleton.2 rfl),c2⟩,(fun e=>by cases e)⟩ (by dsimp only;omega)⟩
    ·rcases List.mem_append.1 m with m|m
     ·exact hok a m
     ·rw[List.mem_singleton.1 m];exact⟨x3,x4⟩
    ·refine T.2 x (List.mem_of_getElem? hx) ?_
     rcases (hlow t T E).2 x.cond.net with h|h
     ·omega
     ·rw[← h];exact c1
   refine joinI ⟨x,hx,joinI ⟨_,getN hvl x1,fun e=>⟨_,getN hvl x3,fin _ (fun e2=>⟨eq_t.1 e,ne_t.1 e2⟩) (fun e2 h=>h.2 (ne_f.1 e2))⟩,fun e=>fin _ (fun e2=>by cases e2) (fun _ h=>absurd h.1 (eq_f.1 e))⟩⟩
  ·have q:=lt_f.1 q
   (try dsimp only at q)
   exact hk (l,b) ⟨hok,by dsimp only;omega,i1,i2,i3,fun e=>⟨(i4 e).1,fun y m=>by
    obtain⟨j,hj,ey⟩:=List.getElem_of_mem m
    exact (i4 e).2 j y (by omega) (by rw[List.getElem?_eq_getElem hj,ey])⟩⟩
 ·rintro⟨l,b⟩ ⟨hok,hll,i1,i2,i3,i4⟩
  dsimp only at hok hll i1 i2 i3 i4
  have:=L.len
  refine⟨fun e=>?_,fun e=>?_⟩
  ·have gl:GivOk c l:=⟨hok,by omega⟩
   refine hnext l ⟨gl,i1,fun t T E=>ha2 t T ?_⟩ ?_
   ·exact ((known_ext hvl T.len).1 (i2 t E)).ext (fun x m=>(ga.ok x m).2) D.giv
   ·unfold cloM
    rw[clo_ok D]
    rcases clo_cases C.p C.f3 gl with⟨v',D',e'⟩|⟨_,e'⟩
    ·rw[e']
     have hvv:=(known_ext hvl D'.len).1 (i2 v' D'.giv)
     have kg:=known_grow hvv D'.len
     obtain⟨a,m,ne⟩:=i3 e
     have:¬ (knownA v').length≤(knownA v).length:=fun h=>by
      have:=kg.2 h
      subst this
      exact ne (D'.giv a m)
     have:=known_len v'
     have:=D'.len
     dsimp only
     omega
    ·rw[e']
     dsimp only
     omega
  ·exact h1 v ⟨⟨(cw_split.1 D.cw).1,(i4 e).2⟩,ha2 v (cw_split.1 D.cw).1 D.giv,fun t T E=>by rw[hvl];exact hlow t T E⟩
theorem lClose_vc {c:Circ} (C:CC c) {laws:List Lawv} (L:LawsOk c laws) {given:List Asg} (g:GivOk c given) (gl:given.length<2 ^ 40) {K:List Nat×Bool×Nat→Prop} (k:K (cloR (lawO c laws given))):learns_Close_wp c laws given K:=by
 refine lClose_vc' C L g gl (fun v V=>?_) fun N=>?_
 ·rw[show lawO c laws given=some v from lstO_ok lawP_len V] at k;exact k
 ·rw[show lawO c laws given=none from lstO_none N] at k;exact k
theorem equal_vc {a:List Nat}{x:Bool} (hl:a.length<2 ^ 60) {K:Bool→Prop} (k:K true):probecardlaw25_equal_wp a x a x K:=by
 unfold probecardlaw25_equal_wp
 refine joinB (a:=false) (fun F=>⟨fun e=>(by cases x <;> cases e),fun _=>(by rw[ne_f.2 rfl];exact F)⟩) ⟨(fun e=>by cases e),fun _=>?_⟩
 refine joinLoop (fun i=>i≤a.length) (fun i=>a.length-i) (fun _=>True) ?_ (Nat.zero_le _) (fun _ _=>k)
 rintro kk i nx hi hnx hk
 refine⟨fun q=>?_,fun _=>hk () trivial⟩
 have q:=lt_t.1 q
 obtain⟨y,hy⟩:=get_lt q
 exact⟨y,hy,y,hy,fun e=>absurd rfl (ne_t.1 e),fun _=>⟨by omega,hnx _ q (by omega)⟩⟩
theorem cloR_fst (o:Option (List Nat)):(cloR o).1=ofO o:=by cases o <;> rfl
theorem one_giv {c:Circ}{m w:Nat} (hm:m<c.nodes.length) (hw:w≤1):GivOk c [⟨m,w⟩]:=by
 refine⟨fun a h=>?_,by simp⟩
 rw[List.mem_singleton.1 h];exact⟨hm,hw⟩
noncomputable def keepR (c:Circ) (i:Nat) (a:Asg):Bool:=neN a.net (i/2)&&match clo c [⟨a.net,1-a.value⟩] with
 |none=>false
 |some w=>neN (w.getD (i/2) 0) (1-i%2)
def lawR (i:Nat) (a:Asg):Lawv:=⟨⟨a.net,1-a.value⟩,⟨i/2,1-i%2⟩⟩
noncomputable def rowR (c:Circ) (i:Nat):List Lawv:=match clo c [⟨i/2,i%2⟩] with
 |none=>[⟨⟨i/2,i%2⟩,⟨i/2,1-i%2⟩⟩]
 |some v=>((knownA v).filter (keepR c i)).map (lawR i)
noncomputable def outR (c:Circ):List Lawv:=(List.range (2*c.nodes.length)).flatMap (rowR c)
theorem rowR_len {c:Circ} (C:CC c) (i:Nat):(rowR c i).length≤17:=by
 unfold rowR
 cases h:clo c [⟨i/2,i%2⟩] with
 |none=>simp
 |some v =>
  dsimp only
  rw[List.length_map]
  have:=List.length_filter_le (keepR c i) (knownA v)
  have:=known_len v
  have:=(clo_some h).len
  have:=C.p.good.len
  omega
theorem outP_len {c:Circ} (C:CC c):∀ i,((List.range i).flatMap (rowR c)).length≤17*i
 |0=>by simp
 |i+1=>by
  rw[List.range_succ,List.flatMap_append,List.length_append]
  have:=outP_len C i
  have:=rowR_len C i
  simp only[List.flatMap_cons,List.flatMap_nil,List.append_nil]
  omega
theorem mod_w (i:Nat):i%2%256=i%2:=Nat.mod_eq_of_lt (by omega)
theorem static_vc {c:Circ} (C:CC c) {K:List Lawv×Nat→Prop} (k:∀ l:List Lawv,l.Perm (outR c)→l.Pairwise lawLe→K (l,0)):learns_Static_wp c K:=by
 have hc:=C.p.good.len
 have hpos:=C.p.good.pos
 unfold learns_Static_wp
 refine plain_vc C.p ⟨fun q=>absurd rfl (ne_t.1 q),fun _=>⟨fun q=>absurd (lt_t.1 q) (by omega),fun _=>⟨by omega,by omega,by omega,?_⟩⟩⟩
 refine joinLoop (fun s=>s.2≤2*c.nodes.length∧s.1.length=2*c.nodes.length∧∀ j,j<s.2→s.1[j]?=some (ofO (clo c [⟨j/2,j%2⟩]))) (fun s=>2*c.nodes.length-s.2) (fun s=>s.length=2*c.nodes.length∧∀ j,j<2*c.nodes.length→s[j]?=some (ofO (clo c [⟨j/2,j%2⟩]))) ?_ ⟨Nat.zero_le _,by simp,fun j hj=>absurd hj (Nat.not_lt_zero _)⟩ ?_
 ·rintro kk ⟨all,i⟩ nx ⟨hi,hl,hI⟩ hnx hk
  dsimp only at hi hl hI
  refine⟨fun q=>?_,fun q=>?_⟩
  ·have q:=lt_t.1 q
   (try dsimp only at q)
   refine⟨by omega,by omega,by omega,?_⟩
   rw[mod_w]
   refine clo_vc C.p C.f3 (one_giv (by omega) (by omega)) ?_
   obtain⟨x,hx⟩:=get_lt (l:=all) (i:=i) (by omega)
   refine⟨q,x,hx,by omega,hnx _ ⟨q,by dsimp only;rw[List.length_set];exact hl,fun j hj=>?_⟩ (by dsimp only;omega)⟩
   dsimp only at hj ⊢
   rw[List.getElem?_set]
   by_cases e:i=j
   ·subst e;rw[if_pos rfl,if_pos (by omega),cloR_fst]
   ·rw[if_neg e];exact hI j (by omega)
  ·have q:=lt_f.1 q
   (try dsimp only at q)
   exact hk all ⟨hl,fun j hj=>hI j (by omega)⟩
 rintro all ⟨hl,hI⟩
 refine joinLoop (fun s=>s.2≤2*c.nodes.length∧s.1=(List.range s.2).flatMap (rowR c)) (fun s=>2*c.nodes.length-s.2) (fun s=>s=outR c) ?_ ⟨Nat.zero_le _,rfl⟩ ?_
 ·rintro kk ⟨out,i⟩ nx ⟨hi,hI2⟩ hnx hk
  dsimp only at hi hI2
  have hol:out.length≤17*i:=by rw[hI2];exact outP_len C i
  refine⟨fun q=>?_,fun q=>?_⟩
  ·have q:=lt_t.1 q
   (try dsimp only at q)
   have go:∀ o,o=out++rowR c i→i+1<2 ^ 63∧nx (o,i+1):=fun o e=>by
    refine⟨by omega,hnx _ ⟨q,?_⟩ (by dsimp only;omega)⟩
    dsimp only
    rw[e,hI2,List.range_succ,List.flatMap_append]
    simp only[List.flatMap_cons,List.flatMap_nil,List.append_nil]
   have hx:=hI i q
   refine joinI ⟨q,_,hx,by omega,by omega,by omega,?_⟩
   rw[mod_w]
   refine⟨by omega,by omega,?_⟩
   cases hcl:clo c [⟨i/2,i%2⟩] with
   |none =>
    refine⟨fun _=>⟨by simp only[List.length_singleton];omega,go _ ?_⟩,(fun e=>by cases e)⟩
    unfold rowR
    rw[hcl]
   |some v =>
    have D:=clo_some hcl
    have hvl:=D.len
    have hne:(ofO (some v)).isEmpty=false:=by cases v with
     |nil=>simp only[List.length_nil] at hvl;omega
     |cons _ _=>rfl
    refine⟨fun e=>(by rw[hne] at e;cases e),fun _=>list_vc (v:=v) (by omega) ?_⟩
    have hkl:=known_len v
    refine loopW_intro (fun s=>s.2≤(knownA v).length∧s.1=out++(((knownA v).take s.2).filter (keepR c i)).map (lawR i)) (fun s=>(knownA v).length-s.2) ?_ ⟨Nat.zero_le _,by simp⟩
    rintro⟨o,j⟩ nx2 ⟨hj,hJ⟩ hnx2
    dsimp only at hj hJ
    have hol2:o.length≤17*i+16:=by
     rw[hJ,List.length_append,List.length_map]
     have:=List.length_filter_le (keepR c i) ((knownA v).take j)
     rw[List.length_take] at this
     omega
    refine⟨fun q2=>?_,fun q2=>?_⟩
    ·have q2:=lt_t.1 q2
     (try dsimp only at q2)
     obtain⟨a,ha⟩:=get_lt q2
     obtain⟨l1,l2⟩:=List.getElem?_eq_some_iff.1 ha
     obtain⟨a1,a2,a3⟩:=mem_known.1 (List.mem_of_getElem? ha)
     have hav:=D.le a.net
     have av:a.value≤1:=by omega
     have go2:∀ b,b=keepR c i a→(b=true→(o.length+([lawR i a]:List Lawv).length)*32≤2 ^ 47∧j+1<2 ^ 63∧nx2 (o++([lawR i a]:List Lawv),j+1))∧(b=false→j+1<2 ^ 63∧nx2 (o,j+1)):=fun b eb=>by
      refine⟨fun e=>⟨by simp only[List.length_singleton];omega,by omega,hnx2 _ ⟨q2,?_⟩ (by dsimp only;omega)⟩,fun e=>⟨by omega,hnx2 _ ⟨q2,?_⟩ (by dsimp only;omega)⟩⟩
      ·dsimp only
       rw[hJ,List.take_succ_eq_append_getElem l1,l2,List.filter_append,List.filter_cons,if_pos (by rw[← eb];exact e),List.filter_nil,List.map_append,List.append_assoc]
       rfl
      ·dsimp only
       rw[hJ,List.take_succ_eq_append_getElem l1,l2,List.filter_append,List.filter_cons,if_neg (by rw[← eb,e];simp),List.filter_nil,List.append_nil]
     have hidx:2*a.net+(1-a.value)<2*c.nodes.length:=by omega
     have hx2:=hI _ hidx
     rw[show (2*a.net+(1-a.value))/2=a.net by omega,show (2*a.net+(1-a.value))%2=1-a.value by omega] at hx2
     refine joinI ⟨a,ha,by omega,av,by omega,by omega,by omega,by omega,_,hx2,?_⟩
     have fin:∀ b,b=keepR c i a→(b=true→a.value≤1∧1<256∧(o.length+([(⟨(⟨a.net,(1-a.value)⟩:Asg),(⟨(i/2),(1-(i%2))⟩:Asg)⟩:Lawv)]:(List Lawv)).length)*32≤2 ^ 47∧j+1<2 ^ 63∧nx2 (o++([(⟨(⟨a.net,(1-a.value)⟩:Asg),(⟨(i/2),(1-(i%2))⟩:Asg)⟩:Lawv)]:(List Lawv)),j+1))∧(b=false→j+1<2 ^ 63∧nx2 (o,j+1)):=fun b eb=>⟨fun e=>⟨av,by decide,(go2 b eb).1 e⟩,(go2 b eb).2⟩
     refine joinI ⟨fun e=>?_,fun e=>fin _ ?_⟩
     ·unfold keepR at fin
      rw[e] at fin
      cases hc2:clo c [⟨a.net,1-a.value⟩] with
      |none =>
       rw[hc2] at fin
       exact⟨(fun e=>by cases e),fun _=>fin _ rfl⟩
      |some w =>
       have hwl:=(clo_some hc2).len
       have hne2:(ofO (some w)).isEmpty=false:=by cases w with
        |nil=>simp only[List.length_nil] at hwl;omega
        |cons _ _=>rfl
       rw[hc2] at fin
       refine⟨fun _=>⟨_,getN hwl (by omega),fin _ ?_⟩,fun e=>(by rw[hne2] at e;cases e)⟩
       rfl
     ·unfold keepR
      rw[e]
      rfl
    ·have q2:=lt_f.1 q2
     (try dsimp only at q2)
     refine go o ?_
     rw[hJ,List.take_of_length_le q2]
     unfold rowR
     rw[hcl]
  ·have q:=lt_f.1 q
   (try dsimp only at q)
   have:i=2*c.nodes.length:=by omega
   subst this
   exact hk out hI2
 ·rintro out rfl
  have:=outP_len C (2*c.nodes.length)
  exact⟨by unfold outR;omega,fun l hp hs=>k l hp hs⟩
end Go.Proofs.YtfhldkgelipnaaaGreatDoor
