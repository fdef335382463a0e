/-
  SoL, P1, SrtL, R2: parts of the proof.
-/
import Derived.Test.YteanlacbmiiloaaGreatDoorLk43
namespace Go.Proofs.YteanlacbmiiloaaGreatDoor
open Go.Abs
set_option maxRecDepth 100000
def renL:Go.Shelf.Ren where
 f n:=match n with
  |6=>55
  |14=>92
  |15=>93
  |20=>112
  |21=>113
  |22=>114
  |23=>115
  |24=>116
  |25=>117
  |26=>118
  |27=>119
  |28=>120
  |29=>121
  |46=>134
  |47=>135
  |48=>136
  |49=>137
  |50=>138
  |57=>146
  |n=>n
 t n:=match n with
  |0=>0
  |3=>3
  |4=>4
  |5=>5
  |22=>59
  |24=>64
  |25=>112
  |39=>144
  |45=>174
  |46=>175
  |50=>179
  |53=>163
  |55=>166
  |66=>195
  |70=>199
  |76=>206
  |77=>129
  |n=>n
 g n:=n
theorem sortL:Go.Proofs.SlLaysF0.n6 Tryz.prog renL where
 mixed:=by kernel_rfl
 f6:=⟨Tryz.f55.name,by kernel_rfl,by kernel_rfl⟩
 f14:=⟨Tryz.f92.name,by kernel_rfl,by kernel_rfl⟩
 f15:=by kernel_rfl
 f20:=⟨Tryz.f112.name,by kernel_rfl,by kernel_rfl⟩
 f21:=⟨Tryz.f113.name,by kernel_rfl,by kernel_rfl⟩
 f22:=⟨Tryz.f114.name,by kernel_rfl,by kernel_rfl⟩
 f23:=⟨Tryz.f115.name,by kernel_rfl,by kernel_rfl⟩
 f24:=⟨Tryz.f116.name,by kernel_rfl,by kernel_rfl⟩
 f25:=⟨Tryz.f117.name,by kernel_rfl,by kernel_rfl⟩
 f26:=⟨Tryz.f118.name,by kernel_rfl,by kernel_rfl⟩
 f27:=⟨Tryz.f119.name,by kernel_rfl,by kernel_rfl⟩
 f28:=by kernel_rfl
 f29:=by kernel_rfl
 f46:=⟨Tryz.f134.name,by kernel_rfl,by kernel_rfl⟩
 f47:=by kernel_rfl
 f48:=by kernel_rfl
 f49:=⟨Tryz.f137.name,by kernel_rfl,by kernel_rfl⟩
 f50:=⟨Tryz.f138.name,by kernel_rfl,by kernel_rfl⟩
 f57:=⟨Tryz.f146.name,by kernel_rfl,by kernel_rfl⟩
 t0:=by kernel_rfl
 a0:=fun w=>by kernel_rfl
 z0:=fun w=>by kernel_rfl
 v0:=fun w=>by kernel_rfl
 t3:=by kernel_rfl
 a3:=fun w=>by kernel_rfl
 z3:=fun w=>by kernel_rfl
 v3:=fun w=>by kernel_rfl
 t4:=by kernel_rfl
 a4:=fun w=>by kernel_rfl
 z4:=fun w=>by kernel_rfl
 v4:=fun w=>by kernel_rfl
 t5:=by kernel_rfl
 a5:=fun w=>by kernel_rfl
 z5:=fun w=>by kernel_rfl
 v5:=fun w=>by kernel_rfl
 t9:=by kernel_rfl
 a9:=fun w=>by kernel_rfl
 z9:=fun w=>by kernel_rfl
 v9:=fun w=>by kernel_rfl
 t22:=by kernel_rfl
 a22:=fun w=>by kernel_rfl
 z22:=fun w=>by kernel_rfl
 v22:=fun w=>by kernel_rfl
 t25:=by kernel_rfl
 a25:=fun w=>by kernel_rfl
 z25:=fun w=>by kernel_rfl
 v25:=fun w=>by kernel_rfl
 t39:=by kernel_rfl
 a39:=fun w=>by kernel_rfl
 z39:=fun w=>by kernel_rfl
 v39:=fun w=>by kernel_rfl
 t45:=by kernel_rfl
 a45:=fun w=>by kernel_rfl
 z45:=fun w=>by kernel_rfl
 v45:=fun w=>by kernel_rfl
 t46:=by kernel_rfl
 a46:=fun w=>by kernel_rfl
 z46:=fun w=>by kernel_rfl
 v46:=fun w=>by kernel_rfl
 t50:=by kernel_rfl
 a50:=fun w=>by kernel_rfl
 z50:=fun w=>by kernel_rfl
 v50:=fun w=>by kernel_rfl
 t53:=by kernel_rfl
 a53:=fun w=>by kernel_rfl
 z53:=fun w=>by kernel_rfl
 v53:=fun w=>by kernel_rfl
 t55:=by kernel_rfl
 a55:=fun w=>by kernel_rfl
 z55:=fun w=>by kernel_rfl
 v55:=fun w=>by kernel_rfl
 t66:=by kernel_rfl
 a66:=fun w=>by kernel_rfl
 z66:=fun w=>by kernel_rfl
 v66:=fun w=>by kernel_rfl
 t70:=by kernel_rfl
 a70:=fun w=>by kernel_rfl
 z70:=fun w=>by kernel_rfl
 v70:=fun w=>by kernel_rfl
 t76:=by kernel_rfl
 a76:=fun w=>by kernel_rfl
 z76:=fun w=>by kernel_rfl
 v76:=fun w=>by kernel_rfl
 t77:=by kernel_rfl
 a77:=fun w=>by kernel_rfl
 z77:=fun w=>by kernel_rfl
 v77:=fun w=>by kernel_rfl
theorem sortL_a:∀ w,(isAgg (renL.t 24)).run Tryz.prog w=.ok true w:=fun w=>by kernel_rfl
theorem sortL_z:∀ w,(Go.sizeOf (renL.t 24)).run Tryz.prog w=.ok 4 w:=fun w=>by kernel_rfl
theorem lt_t {a b:Nat}:ltN a b=true↔a<b:=by rw[ltN_eq];simp
theorem lt_f {a b:Nat}:ltN a b=false↔b≤a:=by rw[ltN_eq];simp
theorem eq_t {a b:Nat}:eqN a b=true↔a=b:=by rw[eqN_eq];simp
theorem eq_f {a b:Nat}:eqN a b=false ↔ ¬ a=b:=by rw[eqN_eq];simp
theorem ne_t {a b:Nat}:neN a b=true ↔ ¬ a=b:=by rw[neN_eq];simp
theorem ne_f {a b:Nat}:neN a b=false↔a=b:=by rw[neN_eq];simp
theorem nlt_t {a b:Nat}:(!ltN a b)=true↔b≤a:=by rw[ltN_eq];simp
theorem nlt_f {a b:Nat}:(!ltN a b)=false↔a<b:=by rw[ltN_eq];simp
theorem neq_t {a b:Nat}:(!eqN a b)=true ↔ ¬ a=b:=by rw[eqN_eq];simp
theorem neq_f {a b:Nat}:(!eqN a b)=false↔a=b:=by rw[eqN_eq];simp
theorem joinI {α:Type}{first:(α→Prop)→Prop}{rest:α→Prop} (h:first rest):joinW first rest:=h
theorem get_lt {α:Type}{l:List α}{i:Nat} (h:i<l.length):∃ x,l[i]?=some x:=⟨l[i],List.getElem?_eq_getElem h⟩
theorem search_none {α:Type}{l:List α}{body:(Unit→Prop)→Nat→(Nat→Prop)→Prop}{rest:Unit→Prop}
  (step:∀ k i nx x,l[i]?=some x→i+1≤l.length→nx (i+1)→body k i nx)
  (fin:∀ k i nx,l.length≤i→k ()→body k i nx) (h:rest ()):joinW (fun k=>loopW (fun i nx=>body k i nx) 0) rest:=by
 refine joinLoop (fun i=>i≤l.length) (fun i=>l.length-i) (fun _=>True) ?_ (Nat.zero_le _) (fun _ _=>h)
 intro k i nx hi hn hk
 by_cases c:i<l.length
 ·obtain⟨x,hx⟩:=get_lt c
  exact step k i nx x hx c (hn (i+1) c (by omega))
 ·exact fin k i nx (by omega) (hk () trivial)
def notN (v:Nat):Nat:=if v≤1 then 1-v else 2
def decN (low high:Nat):List Nat→Nat→Nat
 |[],out=>out
 |v::r,out=>if v=low then low else decN low high r (if v=high then out else 2)
def xorN:List Nat→Nat→Nat
 |[],o=>o
 |v::r,o=>if v≤1 then xorN r (o ^^^ v) else 2
def muxN (s a b:Nat):Nat:=if s=0 then min a 2 else if s=1 then min b 2 else if a=b then min a 2 else 2
def evalN (k:Nat) (l:List Nat):Nat :=
 if k=1 then 0 else if k=2 then 1 else if k=3 then min (l.getD 0 0) 2 else if k=4 then notN (l.getD 0 0)
 else if k=5 then decN 0 1 l 1 else if k=6 then notN (decN 0 1 l 1) else if k=7 then decN 1 0 l 0 else if k=8 then notN (decN 1 0 l 0)
 else if k=9 then xorN l 0 else if k=10 then notN (xorN l 0) else if k=11 then muxN (l.getD 0 0) (l.getD 1 0) (l.getD 2 0) else 2
theorem known_vc {p:Nat}{K:Bool→Prop} (h:K (decide (p≤1))):logic_Known_wp p K:=by
 unfold logic_Known_wp
 have:(!ltN 1 p)=decide (p≤1):=by
  rw[Bool.eq_iff_iff,nlt_t];simp
 rw[this];exact h
theorem drop_some {α:Type}{l:List α}{i:Nat}{x:α} (h:l[i]?=some x):l.drop i=x::l.drop (i+1):=by
 obtain⟨h1,rfl⟩:=List.getElem?_eq_some_iff.1 h
 exact List.drop_eq_getElem_cons h1
def Arity (k n:Nat):Prop:=loN k≤n∧(Int.ofNat n≤hiZ k)
instance (k n:Nat):Decidable (Arity k n):=by unfold Arity;exact inferInstance
theorem ltZ_f {a b:Int}:ltI a b=false↔b≤a:=by rw[ltI_eq];simp
theorem fanin_vc {k:Nat}{K:Nat×Int→Prop} (hk:k<256) (h:K (loN k,hiZ k)):logic_Fanin_wp k K:=⟨hk,h⟩
theorem getD_some {l:List Nat}{i:Nat} (h:i<l.length):l[i]?=some (l.getD i 0):=by
 rw[List.getD,List.getElem?_eq_getElem h];rfl
def cmpN (a b:Nat):Int:=if a<b then -1 else if b<a then 1 else 0
def orZ (a b:Int):Int:=if a≠0 then a else b
def cfAsg (x y:Asg):Int:=orZ (cmpN x.net y.net) (cmpN x.value y.value)
def cfLaw (x y:Lawv):Int:=orZ (cfAsg x.cond y.cond) (cfAsg x.thn y.thn)
def lawLe (x y:Lawv):Prop:=¬ cfLaw y x<0
theorem nez_t {a b:Int}:neZ a b=true↔a≠b:=by rw[neZ_eq];simp
theorem nez_f {a b:Int}:neZ a b=false↔a=b:=by rw[neZ_eq];simp
theorem cmpI_vc {a b:Nat}{K:Int→Prop} (h:K (cmpN a b)):cmp_Compare_int__wp a b K:=by
 unfold cmp_Compare_int__wp
 refine⟨fun q=>absurd rfl (ne_t.1 q),fun _=>⟨fun q=>absurd rfl (ne_t.1 q),fun _=>⟨fun q=>?_,fun q=>⟨fun q2=>?_,fun q2=>?_⟩⟩⟩⟩
 ·rw[show cmpN a b = -1 from if_pos (lt_t.1 q)] at h;exact h
 ·rw[show cmpN a b=1 from by unfold cmpN;rw[if_neg (Nat.not_lt.2 (lt_f.1 q)),if_pos (lt_t.1 q2)]] at h;exact h
 ·rw[show cmpN a b=0 from by unfold cmpN;rw[if_neg (Nat.not_lt.2 (lt_f.1 q)),if_neg (Nat.not_lt.2 (lt_f.1 q2))]] at h;exact h
theorem cmpV_vc {a b:Nat}{K:Int→Prop} (h:K (cmpN a b)):api_Value__wp a b K:=cmpI_vc h
theorem or_vc {a b:Int}{K:Int→Prop} (h:K (orZ a b)):cmp_Or_int__wp [a,b] K:=by
 unfold cmp_Or_int__wp
 refine (show loopW _ _ from⟨3,?_⟩)
 unfold orZ at h
 refine⟨fun _=>⟨a,rfl,fun q=>?_,fun q=>⟨by decide,?_⟩⟩,fun q=>absurd (lt_f.1 q) (by simp)⟩
 ·rw[if_pos (show a≠0 from nez_t.1 q)] at h;exact h
 rw[if_neg (fun e:a≠0=>e (nez_f.1 q))] at h
 refine⟨fun _=>⟨b,rfl,fun _=>h,fun q=>⟨by decide,?_⟩⟩,fun q=>absurd (lt_f.1 q) (by simp)⟩
 have e:b=0:=nez_f.1 q
 subst e
 exact⟨fun q=>absurd (lt_t.1 q) (by simp),fun _=>h⟩
theorem order_asg {a b:Asg}{K:Int→Prop} (h:K (cfAsg a b)):learns_order_wp a b K:=cmpI_vc (cmpV_vc ⟨rfl,or_vc h⟩)
theorem order_law {a b:Lawv}{K:Int→Prop} (h:K (cfLaw a b)):learns_order2_wp a b K:=order_asg (order_asg ⟨rfl,or_vc h⟩)
theorem cmpN_neg {a b:Nat}:cmpN a b<0↔a<b:=by
 unfold cmpN
 split
 ·simp only[*,iff_true];decide
 ·split
  ·simp only[*,iff_false];decide
  ·simp only[*,iff_false];decide
theorem cmpN_zero {a b:Nat}:cmpN a b=0↔a=b:=by
 unfold cmpN
 split
 ·constructor
  ·intro h;exact absurd h (by decide)
  ·intro h;omega
 ·split
  ·constructor
   ·intro h;exact absurd h (by decide)
   ·intro h;omega
  ·constructor
   ·intro _;omega
   ·intro _;rfl
theorem orZ_neg {a b:Int}:orZ a b<0↔a<0∨a=0∧b<0:=by
 unfold orZ
 split <;> omega
theorem orZ_zero {a b:Int}:orZ a b=0↔a=0∧b=0:=by
 unfold orZ
 split <;> omega
theorem cfAsg_neg {x y:Asg}:cfAsg x y<0↔x.net<y.net∨x.net=y.net∧x.value<y.value:=by
 unfold cfAsg;rw[orZ_neg,cmpN_neg,cmpN_neg,cmpN_zero]
theorem cfAsg_zero {x y:Asg}:cfAsg x y=0↔x=y:=by
 unfold cfAsg;rw[orZ_zero,cmpN_zero,cmpN_zero]
 cases x;cases y;simp
theorem cfLaw_neg {x y:Lawv}:cfLaw x y<0↔(x.cond.net<y.cond.net∨x.cond.net=y.cond.net∧x.cond.value<y.cond.value)∨x.cond=y.cond∧(x.thn.net<y.thn.net∨x.thn.net=y.thn.net∧x.thn.value<y.thn.value):=by
 unfold cfLaw;rw[orZ_neg,cfAsg_neg,cfAsg_neg,cfAsg_zero]
theorem asg_eq {x y:Asg}:x=y↔x.net=y.net∧x.value=y.value:=by cases x;cases y;simp
theorem swoLaw:Go.Sort.SWO (Go.Proofs.ltOf cfLaw) where
 irrefl x:=by unfold Go.Proofs.ltOf;rw[decide_eq_false_iff_not,cfLaw_neg];omega
 trans x y z:=by unfold Go.Proofs.ltOf;simp only[decide_eq_true_eq,cfLaw_neg,asg_eq];omega
 ntrans x y z:=by unfold Go.Proofs.ltOf;simp only[decide_eq_false_iff_not,cfLaw_neg,asg_eq];omega
instance:Inhabited Lawv:=⟨⟨⟨0,0⟩,⟨0,0⟩⟩⟩
theorem sortLaw {h0 h:Heap}{L:List Slot}{la:List Lawv}{f:Slot→List Slot}{a:Option Nat} (O:Own vars h0 L h) (A:At (a,.cells (flatC (la.map encLaw)) false) L f) (ha:a=none→la=[]) (hsz:la.length<4611686018427387904) :
  ∃ (l':List Lawv) (h':Heap),l'.Perm la∧l'.Pairwise lawLe∧CallD Tryz.prog NG 55 ⟨[growV 4 a (la.map encLaw),.func (.func 56) #[] #[]]⟩ h (.tuple #[]) h'∧Own vars h0 (f (a,.cells (flatC (l'.map encLaw)) false)) h' :=
 O.sortG (ρ:=renL) (k:=4) (encC:=fun x:Lawv=>[i64 x.cond.net,n8 x.cond.value,i64 x.thn.net,n8 x.thn.value]) (enc:=encLaw) (cf:=cfLaw) sortL sortL_a sortL_z (fun _=>rfl) (fun _=>rfl)
  (fun x v m=>by simp only[List.mem_cons,List.not_mem_nil,or_false] at m;rcases m with rfl|rfl|rfl|rfl <;> rfl) (fun x v m=>by simp only[List.mem_cons,List.not_mem_nil,or_false] at m;rcases m with rfl|rfl|rfl|rfl <;> rfl)
  swoLaw (by kernel_rfl) (Go.Proofs.enters_of Tryz.func56 (by kernel_rfl) rfl) fzVars
  (fun x y h2 hb=>by obtain⟨r,rfl,c⟩:=learns_order2_walk (p0:=x) (p1:=y) (K:=fun r=>r=cfLaw x y) (order_law rfl) hb;exact c) A ha hsz
set_option maxHeartbeats 8000000
def sl_CloneA_wp (p0:(List Asg)) (K:(List Asg)→Prop):Prop :=
 (p0.isEmpty=true→K ([]:List Asg))∧(p0.isEmpty=false→(([]:List Asg).length+p0.length)*16≤2 ^ 47∧0<(([]:List Asg)++p0).length∧K (([]:List Asg)++p0))
theorem sl_CloneA_walkO {p0:(List Asg)}{K:(List Asg)→Prop} (hm:sl_CloneA_wp p0 K) {h0:Heap} (hB:HasB vars h0):∃ v h',CallD Tryz.prog NG 62 ⟨[(encN 2 encAsg) p0]⟩ h0 v h'∧OwnRes vars h0 K (fun (r:(List Asg)) a=>growV 2 a (r.map encAsg)) (fun (r:(List Asg))=>r) encAsg false v h':=by
 unfold sl_CloneA_wp at hm
 refine fg Tryz.func62 (Q:=OwnRes vars h0 K (fun (r:(List Asg)) a=>growV 2 a (r.map encAsg)) (fun (r:(List Asg))=>r) encAsg false) ?_;have O:=Own.start hB;conv=>whnf
 refine gX ?_
 have O:=O.addNil (.cells (flatC ((([]:List Asg)).map encAsg)) false)
 refine nlN ?_;refine gX ?_
 refine br hm (fun hm=>?_) fun hm=>?_
 ·refine gX ?_
  have O:=O.addNil (.cells (flatC ((([]:List Asg)).map encAsg)) false)
  exact⟨([]:List Asg),none,hm,VLe.refl _ _,(fun _=>rfl),(fun e=>nomatch e),O.sel [0] (by decide)⟩
 ·refine gX ?_
  refine O.buildE rfl rfl rfl fun g3 h O=>?_;refine gH ?_
  refine O.appendS (enc:=encAsg) (l:=([]:List Asg)) (new:=p0) (s:=2) (b:=16) (.head _) rfl rfl rfl rfl rfl rfl rfl rfl rfl (YOk.fn rfl) (fun _=>rfl) (fun _=>rfl) (by decide) hm.1 fun g7 a8 h O=>?_;refine gX ?_
  replace hm:=hm.2
  obtain⟨hp9,hm⟩:=hm
  exact⟨(([]:List Asg)++p0),some g7,hm,O.asGrowS (.head _) (fun _=>rfl) rfl hp9,(fun e=>nomatch e),someIff hp9,O.sel [0] (by decide)⟩
def learns_joined_wp (p0:(List Nat)) (p1:(List Nat)) (K:(List Nat)→Prop):Prop :=
 1*p0.length≤2 ^ 48∧p0.length<2 ^ 63∧joinW (α:=(List Nat)) (fun k4=>loopW (S:=((List Nat)×Nat)) (fun (v5,v6) nx7=>((ltN v6 p0.length)=true→∃ x8,p0[v6]?=some x8∧∃ x9,p1[v6]?=some x9∧learns_common_wp x8 x9 (fun r10=>v6<p0.length∧∃ x11,v5[v6]?=some x11∧v6+1<2 ^ 63∧nx7 ((v5.set v6 r10),(v6+1))))∧((ltN v6 p0.length)=false→k4 v5)) ((List.replicate p0.length (0:Nat)),0)) (fun v3=>0<v3.length∧p0.length=v3.length∧K v3)
theorem learns_joined_walk {p0:(List Nat)}{p1:(List Nat)}{K:(List Nat)→Prop} (hm:learns_joined_wp p0 p1 K) {h0:Heap} (hB:HasB vars h0):∃ r,K r∧CallD Tryz.prog NG 95 ⟨[(encL 1 n8) p0,(encL 1 n8) p1,(.func (.func 96) ⟨[]⟩ ⟨[]⟩)]⟩ h0 ((encN 1 n8) r) h0:=by
 unfold learns_joined_wp at hm
 refine fw Tryz.func95 hB (enc:=(encN 1 n8)) (fun r=>pureN (fun _=>AllPure.cons (PureV.flat rfl) AllPure.nil)) fun O=>?_;conv=>whnf
 refine gX ?_
 refine O.mkL (enc:=n8) 1 1 0 hm fun g1 h O hm=>?_;refine gH ?_
 refine jn hm 32 [7] (fun s=>s) (fun v3 h=>Own vars h0 [((some g1),.cells (flatC (v3.map n8)) false)] h) (fun v3=>[]) (fun hm=>?_) ?_
 ·refine gX ?_
  refine lw 32 [0,1,2,7,13] (σ:=((List Nat)×Nat)) (fun s=>s) (fun (v5,v6) h=>Own vars h0 [((some g1),.cells (flatC (v5.map n8)) false)] h) (fun (v5,v6)=>[(14,(i64 v6))]) ((List.replicate p0.length (0:Nat)),0) hm O ?_
  clear hm;rintro⟨v5,v6⟩ nx7 base h hm O
  refine gX ?_
  refine br hm (fun hm=>?_) fun hm=>?_
  ·refine gX ?_
   refine atF hm fun x8 hx8 hm=>?_;refine gH ?_
   refine atF hm fun x9 hx9 hm=>?_;refine gH ?_
   refine ca (learns_common_walk hm O.has) fun r10 hm=>?_;refine gH ?_
   refine⟨.inl (Ext.refl _),?_⟩;refine gH ?_
   refine ix 1 hm fun x11 hx11 hm=>?_;refine gH ?_
   refine O.stE 1 (.head _) hx11 r10 fun h O=>?_;refine gH ?_
   refine gX ?_
   refine aAdd hm fun hm=>?_;refine gH ?_
   exact jx ((v5.set v6 r10),(v6+1)) hm O
  ·refine gX ?_
   exact jx v5 hm O
 ·clear hm;rintro v3 base h hm O
  refine gX ?_
  obtain⟨hp12,hn13,hm⟩:=hm
  exact⟨v3,hm,O.ext,fun h2 F=>VLe.toN (List.ne_nil_of_length_pos hp12) (O.flatL F (Nat.le_refl _) (.head _) (fun _=>rfl) hn13)⟩
def learns_saturate_f:Nat→Circ→Nat→(List Asg)→((List Nat)→Prop)→Prop
 |0,_,_,_,_=>False
 |fu+1,p0,p1,p2,K=>implies_Close_wp p0 p2 (fun r1=>((!r1.2.1)=true→K ([]))∧((!r1.2.1)=false→((eqN p1 0)=true→K r1.1)∧((eqN p1 0)=false→loopW (S:=(List Nat)) (fun v2 nx3=>learns_list_wp v2 (fun r4=>joinW (α:=(List Nat)) (fun k10=>loopW (S:=((List Nat)×Nat)) (fun (v11,v12) nx13=>((ltN v12 v2.length)=true→joinW (α:=(List Nat)) (fun k15=>∃ x16,v11[v12]?=some x16∧((neN x16 2)=true→k15 v11)∧((neN x16 2)=false→joinW (α:=((List Nat)×(List Nat))) (fun k21=>1≤p1∧p1<2 ^ 63∧learns_list_wp v11 (fun r22=>(r22.length+([(⟨v12,0⟩:Asg)]:(List Asg)).length)*16≤2 ^ 47∧learns_saturate_f fu p0 (p1-1) (r22++([(⟨v12,0⟩:Asg)]:(List Asg))) (fun r31=>1≤p1∧p1<2 ^ 63∧learns_list_wp v11 (fun r32=>(r32.length+([(⟨v12,1⟩:Asg)]:(List Asg)).length)*16≤2 ^ 47∧learns_saturate_f fu p0 (p1-1) (r32++([(⟨v12,1⟩:Asg)]:(List Asg))) (fun r41=>k21 (r31,r41)))))) (fun (v19,v20)=>joinW (α:=Bool) (fun k43=>(v19.isEmpty=true→k43 v20.isEmpty)∧(v19.isEmpty=false→k43 false)) (fun v42=>(v42=true→K ([]))∧(v42=false→(v19.isEmpty=true→k15 v20)∧(v19.isEmpty=false→(v20.isEmpty=true→k15 v19)∧(v20.isEmpty=false→learns_joined_wp v19 v20 (fun r44=>k15 r44)))))))) (fun v14=>v12+1<2 ^ 63∧nx13 (v14,(v12+1))))∧((ltN v12 v2.length)=false→k10 v11)) (v2,0)) (fun v9=>learns_list_wp v9 (fun r45=>((ltN r4.length r45.length)=true→learns_list_wp v9 (fun r50=>implies_Close_wp p0 r50 (fun r55=>((!r55.2.1)=true→K ([]))∧((!r55.2.1)=false→nx3 r55.1))))∧((ltN r4.length r45.length)=false→K v9))))) r1.1)))
def learns_saturate_wp (p0:Circ) (p1:Nat) (p2:(List Asg)) (K:(List Nat)→Prop):Prop:=∃ n,learns_saturate_f n p0 p1 p2 K
theorem learns_saturate_fwalk:∀ (n:Nat) {p0:Circ}{p1:Nat}{p2:(List Asg)}{K:(List Nat)→Prop} (_hm:learns_saturate_f n p0 p1 p2 K) {h0:Heap} (_hB:HasB vars h0),∃ r,K r∧CallD Tryz.prog NG 61 ⟨[encCirc p0,i64 p1,(encL 2 encAsg) p2]⟩ h0 ((encN 1 n8) r) h0:=by
 intro n
 induction n with
 | zero=>intro p0 p1 p2 K hm;exact False.elim hm
 | succ fu ih =>
  intro p0 p1 p2 K hm h0 hB
  unfold learns_saturate_f at hm
  refine fw Tryz.func61 hB (enc:=(encN 1 n8)) (fun r=>pureN (fun _=>AllPure.cons (PureV.flat rfl) AllPure.nil)) fun O=>?_;conv=>whnf
  refine gX ?_
  refine fz ?_;refine gX ?_
  refine ca (implies_Close_walkN hm O.has) fun r1 hm=>?_;refine gX ?_
  refine br hm (fun hm=>?_) fun hm=>?_
  ·refine gX ?_
   exact⟨[],hm,O.ext,fun h2 F=>VLe.nilN _ _ _⟩
  ·refine gX ?_
   refine br hm (fun hm=>?_) fun hm=>?_
   ·refine gX ?_
    exact fe hm O
   ·refine gX ?_
    refine lw 100 [1,3] (σ:=(List Nat)) (fun s=>s) (fun v2 h=>Own vars h0 [] h) (fun v2=>[(7,((encN 1 n8) v2))]) r1.1 hm O ?_
    clear hm;rintro v2 nx3 base h hm O
    refine gX ?_
    refine caOW (learns_list_walkO hm O.has) (LLe.cons (VLe.ofN) (LLe.nil _)) O fun r4 a5 h hx ha7 hn8 O hm=>?_;refine gH ?_
    refine jn hm 100 [1,3,10] (fun s=>s) (fun v9 h=>Own vars h0 [] h) (fun v9=>[(7,((encN 1 n8) v9))]) (fun hm=>?_) ?_
    ·refine gX ?_
     refine lmN ?_;refine gX ?_
     refine lw 100 [1,3,10,30] (σ:=((List Nat)×Nat)) (fun s=>s) (fun (v11,v12) h=>Own vars h0 [] h) (fun (v11,v12)=>[(7,((encN 1 n8) v11)),(31,(i64 v12))]) (v2,0) hm (O.sel [] (by decide)) ?_
     clear hm;rintro⟨v11,v12⟩ nx13 base h hm O
     refine gX ?_
     refine br hm (fun hm=>?_) fun hm=>?_
     ·apply Cs;conv=>whnf
      refine jn hm 100 [1,3,10,30,31] (fun s=>s) (fun v14 h=>Own vars h0 [] h) (fun v14=>[(7,((encN 1 n8) v14))]) (fun hm=>?_) ?_
      ·refine gX ?_
       refine atN hm fun x16 hx16 hm=>?_;refine gX ?_
       refine br hm (fun hm=>?_) fun hm=>?_
       ·refine gX ?_
        exact jx v11 hm O
       ·refine gX ?_
        refine O.new (anew_alloc (l:=[(.slice none 0 0),(.slice none 0 0)]) rfl rfl rfl) fun g17 h O=>?_;refine gH ?_
        refine jn hm 100 [1,3,10,12,30,31] (fun s=>s) (fun (v19,v20) h=>Own vars h0 [((some g17),.cells [((encN 1 n8) v19),((encN 1 n8) v20)] false)] h) (fun (v19,v20)=>[]) (fun hm=>?_) ?_
        ·refine gX ?_
         refine lr ?_
         refine rr 100 ?_;refine gX ?_
         refine bt ?_;refine gH ?_
         apply Cs;conv=>whnf
         apply Cs;conv=>whnf
         apply Cs;conv=>whnf
         apply Cs;conv=>whnf
         apply Cs;refine gH ?_
         refine CodeS.drawF ?_;refine gH ?_
         refine aSub hm fun hm=>?_;refine gH ?_
         refine caOW (learns_list_walkO hm O.has) (LLe.cons (VLe.ofN) (LLe.nil _)) O fun r22 a23 h hx ha25 hn26 O hm=>?_;refine gH ?_
         refine aCv (a:=0) ⟨trivial,trivial⟩ (fun _=>rfl) fun _=>?_;refine gH ?_
         refine O.buildLX (l:=([(⟨v12,0⟩:Asg)]:(List Asg))) (enc:=encAsg) (s:=2) (z:=(.agg ⟨[(i64 0),(n8 0)]⟩)) rfl rfl (by kernel_rfl) (by kernel_rfl) rfl rfl rfl rfl (fun _=>rfl) fun g27 h O=>?_;refine gH ?_
         refine O.appendL (enc:=encAsg) (l:=r22) (new:=([(⟨v12,0⟩:Asg)]:(List Asg))) (s:=2) (b:=16) (.tail _ (.head _)) ha25 rfl rfl rfl rfl rfl rfl rfl rfl (YOk.own (O.at (.head _)) rfl (fun _=>rfl) rfl) (fun _=>rfl) (fun _=>rfl) (by decide) hm.1 fun a29 h ha30 O=>?_;refine gH ?_
         replace hm:=hm.2
         refine O.useG (fun _ hb=>ih hm hb) (.tail _ (.head _)) ha30 (fun _=>rfl) (i:=2) rfl (by kernel_rfl) (fun h2 q=>(LLe.cons (VLe.refl _ _) (LLe.cons (VLe.refl _ _) (LLe.cons (q) (LLe.nil _))))) (fun r31 h hm' O=>?_);replace hm:=hm';refine gH ?_
         refine idxR rfl ?_;refine gH ?_
         refine O.stC 1 (.tail _ (.tail _ (.head _))) [((encN 1 n8) r31),(.slice none 0 0)] fun h O=>?_;refine gX ?_
         refine⟨_,addK (a:=0) (b:=1) rfl rfl (by decide),?_⟩;refine gH ?_
         refine rr 100 ?_;refine gX ?_
         refine bt ?_;refine gH ?_
         apply Cs;conv=>whnf
         apply Cs;conv=>whnf
         apply Cs;conv=>whnf
         apply Cs;conv=>whnf
         apply Cs;refine gH ?_
         refine CodeS.drawF ?_;refine gH ?_
         refine aSub hm fun hm=>?_;refine gH ?_
         refine caOW (learns_list_walkO hm O.has) (LLe.cons (VLe.ofN) (LLe.nil _)) O fun r32 a33 h hx ha35 hn36 O hm=>?_;refine gH ?_
         refine aCv (a:=1) ⟨trivial,trivial⟩ (fun _=>rfl) fun _=>?_;refine gH ?_
         refine O.buildLX (l:=([(⟨v12,1⟩:Asg)]:(List Asg))) (enc:=encAsg) (s:=2) (z:=(.agg ⟨[(i64 0),(n8 0)]⟩)) rfl rfl (by kernel_rfl) (by kernel_rfl) rfl rfl rfl rfl (fun _=>rfl) fun g37 h O=>?_;refine gH ?_
         refine O.appendL (enc:=encAsg) (l:=r32) (new:=([(⟨v12,1⟩:Asg)]:(List Asg))) (s:=2) (b:=16) (.tail _ (.head _)) ha35 rfl rfl rfl rfl rfl rfl rfl rfl (YOk.own (O.at (.head _)) rfl (fun _=>rfl) rfl) (fun _=>rfl) (fun _=>rfl) (by decide) hm.1 fun a39 h ha40 O=>?_;refine gH ?_
         replace hm:=hm.2
         refine O.useG (fun _ hb=>ih hm hb) (.tail _ (.head _)) ha40 (fun _=>rfl) (i:=2) rfl (by kernel_rfl) (fun h2 q=>(LLe.cons (VLe.refl _ _) (LLe.cons (VLe.refl _ _) (LLe.cons (q) (LLe.nil _))))) (fun r41 h hm' O=>?_);replace hm:=hm';refine gH ?_
         refine idxR rfl ?_;refine gH ?_
         refine O.stC 1 (.tail _ (.tail _ (.tail _ (.tail _ (.head _))))) [((encN 1 n8) r31),((encN 1 n8) r41)] fun h O=>?_;refine gX ?_
         refine⟨_,addK (a:=1) (b:=1) rfl rfl (by decide),?_⟩;refine gH ?_
         refine rr 100 ?_;refine gX ?_
         refine bf ?_;refine gX ?_
         exact jx (r31,r41) hm (O.sel [4] (by decide))
        ·clear hm;rintro⟨v19,v20⟩ base h hm O
         conv=>whnf
         apply Cs;conv=>whnf
         refine jn hm 100 [1,3,10,12,30,31] (fun s=>s) (fun v42 h=>Own vars h0 [((some g17),.cells [((encN 1 n8) v19),((encN 1 n8) v20)] false)] h) (fun v42=>[(62,(.bool v42))]) (fun hm=>?_) ?_
         ·refine gX ?_
          refine idxR rfl ?_;refine gH ?_
          refine nlN ?_;refine gH ?_
          refine br hm (fun hm=>?_) fun hm=>?_
          ·refine gX ?_
           refine idxR rfl ?_;refine gH ?_
           refine nlN ?_;refine gH ?_
           exact jx v20.isEmpty hm O
          ·refine gX ?_
           exact jx false hm O
         ·clear hm;rintro v42 base h hm O
          refine gX ?_
          refine br hm (fun hm=>?_) fun hm=>?_
          ·refine gX ?_
           exact⟨[],hm,O.ext,fun h2 F=>VLe.nilN _ _ _⟩
          ·refine gX ?_
           refine idxR rfl ?_;refine gH ?_
           refine nlN ?_;refine gX ?_
           refine br hm (fun hm=>?_) fun hm=>?_
           ·refine gX ?_
            refine idxR rfl ?_;refine gH ?_
            exact jx v20 hm (O.sel [] (by decide))
           ·refine gX ?_
            refine idxR rfl ?_;refine gH ?_
            refine nlN ?_;refine gX ?_
            refine br hm (fun hm=>?_) fun hm=>?_
            ·refine gX ?_
             refine idxR rfl ?_;refine gH ?_
             exact jx v19 hm (O.sel [] (by decide))
            ·refine gX ?_
             refine idxR rfl ?_;refine gH ?_
             refine idxR rfl ?_;refine gH ?_
             refine caW (learns_joined_walk hm O.has) (LLe.cons (VLe.ofN) (LLe.cons (VLe.ofN) (LLe.cons (VLe.refl _ _) (LLe.nil _)))) fun r44 hm=>?_;refine gH ?_
             exact jx r44 hm (O.sel [] (by decide))
      ·clear hm;rintro v14 base h hm O
       refine gX ?_
       refine aAdd hm fun hm=>?_;refine gH ?_
       exact jx (v14,(v12+1)) hm O
     ·refine gX ?_
      exact jx v11 hm O
    ·clear hm;rintro v9 base h hm O
     refine gX ?_
     refine caOW (learns_list_walkO hm O.has) (LLe.cons (VLe.ofN) (LLe.nil _)) O fun r45 a46 h hx ha48 hn49 O hm=>?_;refine gX ?_
     refine br hm (fun hm=>?_) fun hm=>?_
     ·refine gX ?_
      first|refine⟨.inr (.inr (rfl)),?_⟩|refine⟨.inr (.inl (by kernel_rfl)),?_⟩
      refine gX ?_
      refine caOW (learns_list_walkO hm O.has) (LLe.cons (VLe.ofN) (LLe.nil _)) O fun r50 a51 h hx ha53 hn54 O hm=>?_;refine gH ?_
      refine⟨.inl hx,?_⟩;refine gH ?_
      refine O.useG (fun _ hb=>implies_Close_walkN hm hb) (.head _) ha53 (fun _=>rfl) (i:=1) rfl (by kernel_rfl) (fun h2 q=>(LLe.cons (VLe.refl _ _) (LLe.cons (q) (LLe.nil _)))) (fun r55 h hm' O=>?_);replace hm:=hm';refine gH ?_
      refine⟨.inr (by kernel_rfl),?_⟩;refine gH ?_
      refine gX ?_
      refine br hm (fun hm=>?_) fun hm=>?_
      ·refine gX ?_
       exact⟨[],hm,O.ext,fun h2 F=>VLe.nilN _ _ _⟩
      ·refine gX ?_
       exact jx r55.1 hm (O.sel [] (by decide))
     ·refine gX ?_
      exact fe hm O
theorem learns_saturate_walk {p0:Circ}{p1:Nat}{p2:(List Asg)}{K:(List Nat)→Prop} (hm:learns_saturate_wp p0 p1 p2 K) {h0:Heap} (hB:HasB vars h0):∃ r,K r∧CallD Tryz.prog NG 61 ⟨[encCirc p0,i64 p1,(encL 2 encAsg) p2]⟩ h0 ((encN 1 n8) r) h0:=by
 obtain⟨n,hm⟩:=hm
 exact learns_saturate_fwalk n hm hB
def learns_Saturate_wp (p0:Circ) (p1:Nat) (p2:(List Asg)) (K:((List Nat)×Bool×Nat)→Prop):Prop :=
 implies_Plain_wp p0 (fun r1=>((neN r1 0)=true→K ([],false,r1))∧((neN r1 0)=false→((ltN p1 0)=true→K ([],false,1))∧((ltN p1 0)=false→((ltN 4 p1)=true→K ([],false,3))∧((ltN 4 p1)=false→learns_known_wp p0 p2 (fun r2=>((!r2)=true→K ([],false,1))∧((!r2)=false→learns_saturate_wp p0 p1 p2 (fun r3=>K (r3,!r3.isEmpty,0))))))))
theorem learns_Saturate_walk {p0:Circ}{p1:Nat}{p2:(List Asg)}{K:((List Nat)×Bool×Nat)→Prop} (hm:learns_Saturate_wp p0 p1 p2 K) {h0:Heap} (hB:HasB vars h0):∃ r,K r∧CallD Tryz.prog NG 24 ⟨[encCirc p0,i64 p1,(encL 2 encAsg) p2]⟩ h0 ((fun (r:((List Nat)×Bool×Nat))=>Value.tuple ⟨[(encN 1 n8) (r.1),Value.bool (r.2.1),i64 (r.2.2)]⟩) r) h0:=by
 unfold learns_Saturate_wp at hm
 refine fw Tryz.func24 hB (enc:=(fun (r:((List Nat)×Bool×Nat))=>Value.tuple ⟨[(encN 1 n8) (r.1),Value.bool (r.2.1),i64 (r.2.2)]⟩)) (fun r=>PureV.tup (AllPure.cons (pureN (fun _=>AllPure.cons (PureV.flat rfl) AllPure.nil)) (AllPure.cons (PureV.flat rfl) (AllPure.cons (PureV.flat rfl) (AllPure.nil))))) fun O=>?_;conv=>whnf
 refine gX ?_
 refine fz ?_;refine gX ?_
 refine ca (implies_Plain_walk hm O.has) fun r1 hm=>?_;refine gX ?_
 refine br hm (fun hm=>?_) fun hm=>?_
 ·refine gX ?_
  exact⟨([],false,r1),hm,O.ext,fun h2 F=>VLe.tup (LLe.cons (VLe.nilN _ _ _) (LLe.cons (VLe.refl _ _) (LLe.cons (VLe.refl _ _) (LLe.nil _))))⟩
 ·refine gX ?_
  refine br hm (fun hm=>?_) fun hm=>?_
  ·refine gX ?_
   exact⟨([],false,1),hm,O.ext,fun h2 F=>VLe.tup (LLe.cons (VLe.nilN _ _ _) (LLe.cons (VLe.refl _ _) (LLe.cons (VLe.refl _ _) (LLe.nil _))))⟩
  ·refine gX ?_
   refine br hm (fun hm=>?_) fun hm=>?_
   ·refine gX ?_
    exact⟨([],false,3),hm,O.ext,fun h2 F=>VLe.tup (LLe.cons (VLe.nilN _ _ _) (LLe.cons (VLe.refl _ _) (LLe.cons (VLe.refl _ _) (LLe.nil _))))⟩
   ·refine gX ?_
    refine ca (learns_known_walk hm O.has) fun r2 hm=>?_;refine gX ?_
    refine br hm (fun hm=>?_) fun hm=>?_
    ·refine gX ?_
     exact⟨([],false,1),hm,O.ext,fun h2 F=>VLe.tup (LLe.cons (VLe.nilN _ _ _) (LLe.cons (VLe.refl _ _) (LLe.cons (VLe.refl _ _) (LLe.nil _))))⟩
    ·refine gX ?_
     refine ca (learns_saturate_walk hm O.has) fun r3 hm=>?_;refine gX ?_
     refine nnN ?_;refine gX ?_
     exact⟨(r3,!r3.isEmpty,0),hm,O.ext,fun h2 F=>VLe.tup (LLe.cons (VLe.refl _ _) (LLe.cons (VLe.refl _ _) (LLe.cons (VLe.refl _ _) (LLe.nil _))))⟩
def learns_Close_wp (p0:Circ) (p1:(List Lawv)) (p2:(List Asg)) (K:((List Nat)×Bool×Nat)→Prop):Prop :=
 implies_Plain_wp p0 (fun r1=>((neN r1 0)=true→K ([],false,r1))∧((neN r1 0)=false→learns_known_wp p0 p2 (fun r2=>((!r2)=true→K ([],false,1))∧((!r2)=false→joinW (α:=Unit) (fun k3=>loopW (S:=Nat) (fun v4 nx5=>((ltN v4 p1.length)=true→∃ x6,p1[v4]?=some x6∧learns_known_wp p0 ([x6.cond,x6.thn]:(List Asg)) (fun r9=>((!r9)=true→K ([],false,1))∧((!r9)=false→v4+1<2 ^ 63∧nx5 (v4+1))))∧((ltN v4 p1.length)=false→k3 ())) 0) (fun _=>sl_CloneA_wp p2 (fun r10=>loopW (S:=(List Asg)) (fun v16 nx18=>implies_Close_wp p0 v16 (fun r19=>((!r19.2.1)=true→K ([],false,0))∧((!r19.2.1)=false→learns_list_wp r19.1 (fun r20=>joinW (α:=((List Asg)×Bool)) (fun k29=>loopW (S:=((List Asg)×Bool×Nat)) (fun (v31,v32,v33) nx35=>((ltN v33 p1.length)=true→joinW (α:=((List Asg)×Bool)) (fun k40=>∃ x41,p1[v33]?=some x41∧joinW (α:=Bool) (fun k46=>∃ x47,r19.1[x41.cond.net]?=some x47∧((eqN x47 x41.cond.value)=true→∃ x48,r19.1[x41.thn.net]?=some x48∧k46 (neN x48 x41.thn.value))∧((eqN x47 x41.cond.value)=false→k46 false)) (fun v44=>(v44=true→(v31.length+([x41.thn]:(List Asg)).length)*16≤2 ^ 47∧k40 ((v31++([x41.thn]:(List Asg))),true))∧(v44=false→k40 (v31,v32)))) (fun (v37,v38)=>v33+1<2 ^ 63∧nx35 (v37,v38,(v33+1))))∧((ltN v33 p1.length)=false→k29 (v31,v32))) (r20,false,0)) (fun (v26,v27)=>(v27=true→nx18 v26)∧(v27=false→K (r19.1,true,0))))))) r10))))))
theorem learns_Close_walk {p0:Circ}{p1:(List Lawv)}{p2:(List Asg)}{K:((List Nat)×Bool×Nat)→Prop} (hm:learns_Close_wp p0 p1 p2 K) {h0:Heap} (hB:HasB vars h0):∃ r,K r∧CallD Tryz.prog NG 28 ⟨[encCirc p0,(encL 4 encLaw) p1,(encN 2 encAsg) p2]⟩ h0 ((fun (r:((List Nat)×Bool×Nat))=>Value.tuple ⟨[(encL 1 n8) (r.1),Value.bool (r.2.1),i64 (r.2.2)]⟩) r) h0:=by
 unfold learns_Close_wp at hm
 refine fw Tryz.func28 hB (enc:=(fun (r:((List Nat)×Bool×Nat))=>Value.tuple ⟨[(encL 1 n8) (r.1),Value.bool (r.2.1),i64 (r.2.2)]⟩)) (fun r=>PureV.tup (AllPure.cons (pureL (fun _=>AllPure.cons (PureV.flat rfl) AllPure.nil)) (AllPure.cons (PureV.flat rfl) (AllPure.cons (PureV.flat rfl) (AllPure.nil))))) fun O=>?_;conv=>whnf
 refine gX ?_
 refine fz ?_;refine gX ?_
 refine ca (implies_Plain_walk hm O.has) fun r1 hm=>?_;refine gX ?_
 refine br hm (fun hm=>?_) fun hm=>?_
 ·refine gX ?_
  exact⟨([],false,r1),hm,O.ext,fun h2 F=>VLe.tup (LLe.cons (VLe.nil _ _) (LLe.cons (VLe.refl _ _) (LLe.cons (VLe.refl _ _) (LLe.nil _))))⟩
 ·refine gX ?_
  refine caW (learns_known_walk hm O.has) (LLe.cons (VLe.refl _ _) (LLe.cons (VLe.ofN) (LLe.nil _))) fun r2 hm=>?_;refine gX ?_
  refine br hm (fun hm=>?_) fun hm=>?_
  ·refine gX ?_
   exact⟨([],false,1),hm,O.ext,fun h2 F=>VLe.tup (LLe.cons (VLe.nil _ _) (LLe.cons (VLe.refl _ _) (LLe.cons (VLe.refl _ _) (LLe.nil _))))⟩
  ·apply Cs;conv=>whnf
   refine jn hm 92 [1,2,3] (fun s=>s) (fun _ h=>Own vars h0 [] h) (fun _=>[]) (fun hm=>?_) ?_
   ·refine gX ?_
    refine lw 92 [1,2,3,28,29] (σ:=Nat) (fun s=>s) (fun v4 h=>Own vars h0 [] h) (fun v4=>[(30,(i64 v4))]) 0 hm O ?_
    clear hm;rintro v4 nx5 base h hm O
    refine gX ?_
    refine br hm (fun hm=>?_) fun hm=>?_
    ·refine gX ?_
     refine atF hm fun x6 hx6 hm=>?_;refine gH ?_
     refine O.new (anew_alloc (l:=[(i64 0),(n8 0),(i64 0),(n8 0)]) rfl rfl rfl) fun g7 h O=>?_;refine gH ?_
     refine O.stC 4 (.head _) [(i64 x6.cond.net),(n8 x6.cond.value),(i64 x6.thn.net),(n8 x6.thn.value)] fun h O=>?_;refine gX ?_
     refine ldA (O.at (.head _)) ?_;refine gH ?_
     refine ldA (O.at (.head _)) ?_;refine gH ?_
     refine fz ?_;refine gH ?_
     refine ca (learns_known_walk hm O.has) fun r9 hm=>?_;refine gX ?_
     refine br hm (fun hm=>?_) fun hm=>?_
     ·refine gX ?_
      exact⟨([],false,1),hm,O.ext,fun h2 F=>VLe.tup (LLe.cons (VLe.nil _ _) (LLe.cons (VLe.refl _ _) (LLe.cons (VLe.refl _ _) (LLe.nil _))))⟩
     ·refine gX ?_
      refine aAdd hm fun hm=>?_;refine gH ?_
      exact jx (v4+1) hm (O.sel [] (by decide))
    ·refine gX ?_
     exact jx () hm O
   ·clear hm;rintro _ base h hm O
    refine gX ?_
    refine caO (sl_CloneA_walkO hm O.has) O fun r10 a11 h hx ha13 hn14 O hm=>?_;refine gX ?_
    refine lw 92 [1,3] (σ:=(List Asg)×Option Nat) (fun s=>s.1) (fun (v16,a15) h=>(a15=none→v16=[])∧Own vars h0 [(a15,.cells (flatC (v16.map encAsg)) false)] h) (fun (v16,a15)=>[(12,(growV 2 a15 (v16.map encAsg)))]) (r10,a11) hm ⟨ha13,O⟩ ?_
    clear hm;rintro⟨v16,a15⟩ nx18 base h hm ⟨ha17,O⟩
    refine gX ?_
    refine O.useG (fun _ hb=>implies_Close_walkN hm hb) (.head _) ha17 (fun _=>rfl) (i:=1) rfl (by kernel_rfl) (fun h2 q=>(LLe.cons (VLe.refl _ _) (LLe.cons (q) (LLe.nil _)))) (fun r19 h hm' O=>?_);replace hm:=hm';refine gX ?_
    refine br hm (fun hm=>?_) fun hm=>?_
    ·refine gX ?_
     exact⟨([],false,0),hm,O.ext,fun h2 F=>VLe.tup (LLe.cons (VLe.nil _ _) (LLe.cons (VLe.refl _ _) (LLe.cons (VLe.refl _ _) (LLe.nil _))))⟩
    ·refine gX ?_
     refine caOW (learns_list_walkO hm O.has) (LLe.cons (VLe.ofN) (LLe.nil _)) O fun r20 a21 h hx ha23 hn24 O hm=>?_;refine gH ?_
     apply Cs;conv=>whnf
     apply Cs;refine gH ?_
     refine jn (σ:=((List Asg)×Bool)×Option Nat) hm 92 [1,3,13] (fun s=>s.1) (fun ((v26,v27),a25) h=>(a25=none→v26=[])∧Own vars h0 [(a25,.cells (flatC (v26.map encAsg)) false)] h) (fun ((v26,v27),a25)=>[(12,(growV 2 a25 (v26.map encAsg))),(16,(.bool v27))]) (fun hm=>?_) ?_
     ·refine gX ?_
      refine lw 92 [1,3,13,56,57] (σ:=((List Asg)×Bool×Nat)×Option Nat) (fun s=>s.1) (fun ((v31,v32,v33),a30) h=>(a30=none→v31=[])∧Own vars h0 [(a30,.cells (flatC (v31.map encAsg)) false)] h) (fun ((v31,v32,v33),a30)=>[(12,(growV 2 a30 (v31.map encAsg))),(16,(.bool v32)),(58,(i64 v33))]) ((r20,false,0),a21) hm ⟨ha23,(O.sel [0] (by decide))⟩ ?_
      clear hm;rintro⟨⟨v31,v32,v33⟩,a30⟩ nx35 base h hm ⟨ha34,O⟩
      refine gX ?_
      refine br hm (fun hm=>?_) fun hm=>?_
      ·apply Cs;conv=>whnf
       refine jn (σ:=((List Asg)×Bool)×Option Nat) hm 92 [1,3,13,56,57,58] (fun s=>s.1) (fun ((v37,v38),a36) h=>(a36=none→v37=[])∧Own vars h0 [(a36,.cells (flatC (v37.map encAsg)) false)] h) (fun ((v37,v38),a36)=>[(12,(growV 2 a36 (v37.map encAsg))),(16,(.bool v38))]) (fun hm=>?_) ?_
       ·refine gX ?_
        refine atF hm fun x41 hx41 hm=>?_;refine gH ?_
        refine O.new (anew_alloc (l:=[(i64 0),(n8 0),(i64 0),(n8 0)]) rfl rfl rfl) fun g42 h O=>?_;refine gH ?_
        refine O.stC 4 (.head _) [(i64 x41.cond.net),(n8 x41.cond.value),(i64 x41.thn.net),(n8 x41.thn.value)] fun h O=>?_;refine gH ?_
        refine jn hm 92 [1,3,12,13,16,18,56,57,58] (fun s=>s) (fun v44 h=>(a30=none→v31=[])∧Own vars h0 [(a30,.cells (flatC (v31.map encAsg)) false),((some g42),.cells [(i64 x41.cond.net),(n8 x41.cond.value),(i64 x41.thn.net),(n8 x41.thn.value)] false)] h) (fun v44=>[(83,(.bool v44))]) (fun hm=>?_) ?_
        ·refine gX ?_
         refine atN hm fun x47 hx47 hm=>?_;refine gH ?_
         refine br hm (fun hm=>?_) fun hm=>?_
         ·refine gX ?_
          refine atN hm fun x48 hx48 hm=>?_;refine gH ?_
          exact jx (neN x48 x41.thn.value) hm ⟨ha34,(O.sel [1,0] (by decide))⟩
         ·refine gX ?_
          exact jx false hm ⟨ha34,(O.sel [1,0] (by decide))⟩
        ·clear hm;rintro v44 base h hm ⟨ha45,O⟩
         refine gX ?_
         refine br hm (fun hm=>?_) fun hm=>?_
         ·refine gX ?_
          refine ldA (O.at (.tail _ (.head _))) ?_;refine gH ?_
          refine fz ?_;refine gH ?_
          refine O.apL (enc:=encAsg) (l:=v31) (new:=([x41.thn]:(List Asg))) 2 (.head _) ha45 hm fun a49 h ha50 O hm=>?_;refine gX ?_
          exact jx (((v31++([x41.thn]:(List Asg))),true),a49) hm ⟨ha50,(O.sel [0] (by decide))⟩
         ·refine gX ?_
          exact jx ((v31,v32),a30) hm ⟨ha45,(O.sel [0] (by decide))⟩
       ·clear hm;rintro⟨⟨v37,v38⟩,a36⟩ base h hm ⟨ha39,O⟩
        refine gX ?_
        refine aAdd hm fun hm=>?_;refine gH ?_
        exact jx ((v37,v38,(v33+1)),a36) hm ⟨ha39,O⟩
      ·refine gX ?_
       exact jx ((v31,v32),a30) hm ⟨ha34,O⟩
     ·clear hm;rintro⟨⟨v26,v27⟩,a25⟩ base h hm ⟨ha28,O⟩
      refine gX ?_
      refine br hm (fun hm=>?_) fun hm=>?_
      ·refine gX ?_
       exact jx (v26,a25) hm ⟨ha28,O⟩
      ·refine gX ?_
       exact⟨(r19.1,true,0),hm,O.ext,fun h2 F=>VLe.tup (LLe.cons (VLe.ofN) (LLe.cons (VLe.refl _ _) (LLe.cons (VLe.refl _ _) (LLe.nil _))))⟩
def learns_Static_wp (p0:Circ) (K:((List Lawv)×Nat)→Prop):Prop :=
 implies_Plain_wp p0 (fun r1=>((neN r1 0)=true→K ([],r1))∧((neN r1 0)=false→((ltN 512 p0.nodes.length)=true→K ([],3))∧((ltN 512 p0.nodes.length)=false→2*p0.nodes.length<2 ^ 63∧24*(2*p0.nodes.length)≤2 ^ 48∧(2*p0.nodes.length)<2 ^ 63∧joinW (α:=(List (List Nat))) (fun k5=>loopW (S:=((List (List Nat))×Nat)) (fun (v6,v7) nx8=>((ltN v7 (2*p0.nodes.length))=true→0<2∧v7<2 ^ 63∧0<2∧implies_Close_wp p0 ([(⟨(v7/2),((v7%2)%256)⟩:Asg)]:(List Asg)) (fun r9=>v7<(2*p0.nodes.length)∧∃ x10,v6[v7]?=some x10∧v7+1<2 ^ 63∧nx8 ((v6.set v7 r9.1),(v7+1))))∧((ltN v7 (2*p0.nodes.length))=false→k5 v6)) ((List.replicate (2*p0.nodes.length) ([]:(List Nat))),0)) (fun v4=>joinW (α:=(List Lawv)) (fun k15=>loopW (S:=((List Lawv)×Nat)) (fun (v17,v18) nx20=>((ltN v18 (2*p0.nodes.length))=true→joinW (α:=(List Lawv)) (fun k24=>v18<(2*p0.nodes.length)∧∃ x25,v4[v18]?=some x25∧0<2∧v18<2 ^ 63∧0<2∧((v18%2)%256)≤1∧1<256∧(x25.isEmpty=true→(v17.length+([(⟨(⟨(v18/2),((v18%2)%256)⟩:Asg),(⟨(v18/2),(1-((v18%2)%256))⟩:Asg)⟩:Lawv)]:(List Lawv)).length)*32≤2 ^ 47∧k24 (v17++([(⟨(⟨(v18/2),((v18%2)%256)⟩:Asg),(⟨(v18/2),(1-((v18%2)%256))⟩:Asg)⟩:Lawv)]:(List Lawv))))∧(x25.isEmpty=false→learns_list_wp x25 (fun r32=>loopW (S:=((List Lawv)×Nat)) (fun (v34,v35) nx37=>((ltN v35 r32.length)=true→joinW (α:=(List Lawv)) (fun k41=>∃ x42,r32[v35]?=some x42∧2*x42.net<2 ^ 63∧x42.value≤1∧1<256∧(1-x42.value)<256∧(2*x42.net)+(1-x42.value)<2 ^ 63∧((2*x42.net)+(1-x42.value))<(2*p0.nodes.length)∧∃ x45,v4[((2*x42.net)+(1-x42.value))]?=some x45∧joinW (α:=Bool) (fun k48=>((neN x42.net (v18/2))=true→((!x45.isEmpty)=true→∃ x49,x45[(v18/2)]?=some x49∧k48 (neN x49 (1-((v18%2)%256))))∧((!x45.isEmpty)=false→k48 false))∧((neN x42.net (v18/2))=false→k48 false)) (fun v46=>(v46=true→x42.value≤1∧1<256∧(v34.length+([(⟨(⟨x42.net,(1-x42.value)⟩:Asg),(⟨(v18/2),(1-((v18%2)%256))⟩:Asg)⟩:Lawv)]:(List Lawv)).length)*32≤2 ^ 47∧k41 (v34++([(⟨(⟨x42.net,(1-x42.value)⟩:Asg),(⟨(v18/2),(1-((v18%2)%256))⟩:Asg)⟩:Lawv)]:(List Lawv))))∧(v46=false→k41 v34))) (fun v39=>v35+1<2 ^ 63∧nx37 (v39,(v35+1))))∧((ltN v35 r32.length)=false→k24 v34)) (v17,0)))) (fun v22=>v18+1<2 ^ 63∧nx20 (v22,(v18+1))))∧((ltN v18 (2*p0.nodes.length))=false→k15 v17)) (([]:List Lawv),0)) (fun v13=>v13.length<4611686018427387904∧∀ x52:List Lawv,x52.Perm v13→x52.Pairwise lawLe→K (x52,0))))))
theorem learns_Static_walk {p0:Circ}{K:((List Lawv)×Nat)→Prop} (hm:learns_Static_wp p0 K) {h0:Heap} (hB:HasB vars h0):∃ r,K r∧CallD Tryz.prog NG 21 ⟨[encCirc p0]⟩ h0 ((fun (r:((List Lawv)×Nat))=>Value.tuple ⟨[(encL 4 encLaw) (r.1),i64 (r.2)]⟩) r) h0:=by
 unfold learns_Static_wp at hm
 refine fw Tryz.func21 hB (enc:=(fun (r:((List Lawv)×Nat))=>Value.tuple ⟨[(encL 4 encLaw) (r.1),i64 (r.2)]⟩)) (fun r=>PureV.tup (AllPure.cons (pureL (fun _=>pure_lawC _)) (AllPure.cons (PureV.flat rfl) (AllPure.nil)))) fun O=>?_;conv=>whnf
 refine gX ?_
 refine fz ?_;refine gX ?_
 refine ca (implies_Plain_walk hm O.has) fun r1 hm=>?_;refine gX ?_
 refine br hm (fun hm=>?_) fun hm=>?_
 ·refine gX ?_
  exact⟨([],r1),hm,O.ext,fun h2 F=>VLe.tup (LLe.cons (VLe.nil _ _) (LLe.cons (VLe.refl _ _) (LLe.nil _)))⟩
 ·refine gX ?_
  refine br hm (fun hm=>?_) fun hm=>?_
  ·refine gX ?_
   exact⟨([],3),hm,O.ext,fun h2 F=>VLe.tup (LLe.cons (VLe.nil _ _) (LLe.cons (VLe.refl _ _) (LLe.nil _)))⟩
  ·refine gX ?_
   refine aMul hm fun hm=>?_;refine gH ?_
   refine O.mkL (enc:=fun _:Unit=>Value.slice none 0 0) 24 1 () hm fun g2 h O hm=>?_;refine gH ?_
   refine CodeS.ghostLe (cs':=flatC ((List.replicate (2*p0.nodes.length) ([]:(List Nat))).map (encN 1 n8))) O (.head _) (t2:=5) rfl rfl (nilRep ..) fun h O=>?_
   refine jn hm 132 [5] (fun s=>s) (fun v4 h=>Own vars h0 [((some g2),.cells (flatC (v4.map (encN 1 n8))) false)] h) (fun v4=>[]) (fun hm=>?_) ?_
   ·refine gX ?_
    refine lw 132 [1,5,30] (σ:=((List (List Nat))×Nat)) (fun s=>s) (fun (v6,v7) h=>Own vars h0 [((some g2),.cells (flatC (v6.map (encN 1 n8))) false)] h) (fun (v6,v7)=>[(31,(i64 v7))]) ((List.replicate (2*p0.nodes.length) ([]:(List Nat))),0) hm O ?_
    clear hm;rintro⟨v6,v7⟩ nx8 base h hm O
    refine gX ?_
    refine br hm (fun hm=>?_) fun hm=>?_
    ·refine gX ?_
     refine aQuo hm fun hm=>?_;refine gH ?_
     refine aRem hm fun hm=>?_;refine gH ?_
     refine aCw ?_;refine gH ?_
     refine fz ?_;refine gH ?_
     refine ca (implies_Close_walkN hm O.has) fun r9 hm=>?_;refine gH ?_
     refine ix 1 hm fun x10 hx10 hm=>?_;refine gH ?_
     refine O.stE 1 (.head _) hx10 r9.1 fun h O=>?_;refine gX ?_
     refine aAdd hm fun hm=>?_;refine gH ?_
     exact jx ((v6.set v7 r9.1),(v7+1)) hm O
    ·refine gX ?_
     exact jx v6 hm O
   ·clear hm;rintro v4 base h hm O
    conv=>whnf
    apply Cs;conv=>whnf
    apply Cs;refine gH ?_
    have O:=O.addNil (.cells (flatC ((([]:List Lawv)).map encLaw)) false)
    refine jn (σ:=(List Lawv)×Option Nat) hm 132 [] (fun s=>s.1) (fun (v13,a12) h=>(a12=none→v13=[])∧Own vars h0 [(a12,.cells (flatC (v13.map encLaw)) false)] h) (fun (v13,a12)=>[(7,(growV 4 a12 (v13.map encLaw)))]) (fun hm=>?_) ?_
    ·refine gX ?_
     refine lw 132 [5,51,52] (σ:=((List Lawv)×Nat)×Option Nat) (fun s=>s.1) (fun ((v17,v18),a16) h=>(a16=none→v17=[])∧Own vars h0 [((some g2),.cells (flatC (v4.map (encN 1 n8))) false),(a16,.cells (flatC (v17.map encLaw)) false)] h) (fun ((v17,v18),a16)=>[(7,(growV 4 a16 (v17.map encLaw))),(53,(i64 v18))]) ((([]:List Lawv),0),none) hm ⟨(fun _=>rfl),(O.sel [1,0] (by decide))⟩ ?_
     clear hm;rintro⟨⟨v17,v18⟩,a16⟩ nx20 base h hm ⟨ha19,O⟩
     refine gX ?_
     refine br hm (fun hm=>?_) fun hm=>?_
     ·apply Cs;conv=>whnf
      refine jn (σ:=(List Lawv)×Option Nat) hm 132 [5,51,52,53] (fun s=>s.1) (fun (v22,a21) h=>(a21=none→v22=[])∧Own vars h0 [((some g2),.cells (flatC (v4.map (encN 1 n8))) false),(a21,.cells (flatC (v22.map encLaw)) false)] h) (fun (v22,a21)=>[(7,(growV 4 a21 (v22.map encLaw)))]) (fun hm=>?_) ?_
      ·refine gX ?_
       refine ix 1 hm fun x25 hx25 hm=>?_;refine gH ?_
       refine ldE (s:=1) (i:=0) (O.at (.head _)) hx25 ?_;refine gX ?_
       refine aQuo hm fun hm=>?_;refine gH ?_
       refine aRem hm fun hm=>?_;refine gH ?_
       refine aCw ?_;refine gH ?_
       refine O.new (anew_alloc (l:=[(i64 0),(n8 0)]) rfl rfl rfl) fun g26 h O=>?_;refine gH ?_
       refine O.stC 2 (.head _) [(i64 (v18/2)),(n8 ((v18%2)%256))] fun h O=>?_;refine gX ?_
       refine aSub8 hm fun hm=>?_;refine gH ?_
       refine O.new (anew_alloc (l:=[(i64 0),(n8 0)]) rfl rfl rfl) fun g28 h O=>?_;refine gH ?_
       refine O.stC 2 (.head _) [(i64 (v18/2)),(n8 (1-((v18%2)%256)))] fun h O=>?_;refine gX ?_
       refine nlN ?_;refine gX ?_
       refine br hm (fun hm=>?_) fun hm=>?_
       ·refine gX ?_
        refine ldA (O.at (.tail _ (.head _))) ?_;refine gH ?_
        refine ldA (O.at (.head _)) ?_;refine gH ?_
        refine fz ?_;refine gH ?_
        refine O.apL (enc:=encLaw) (l:=v17) (new:=([(⟨(⟨(v18/2),((v18%2)%256)⟩:Asg),(⟨(v18/2),(1-((v18%2)%256))⟩:Asg)⟩:Lawv)]:(List Lawv))) 4 (.tail _ (.tail _ (.tail _ (.head _)))) ha19 hm fun a30 h ha31 O hm=>?_;refine gX ?_
        exact jx ((v17++([(⟨(⟨(v18/2),((v18%2)%256)⟩:Asg),(⟨(v18/2),(1-((v18%2)%256))⟩:Asg)⟩:Lawv)]:(List Lawv))),a30) hm ⟨ha31,(O.sel [2,3] (by decide))⟩
       ·refine gX ?_
        refine caW (learns_list_walk hm O.has) (LLe.cons (VLe.ofN) (LLe.nil _)) fun r32 hm=>?_;refine gX ?_
        refine lw 132 [5,10,11,51,52,53,79,80] (σ:=((List Lawv)×Nat)×Option Nat) (fun s=>s.1) (fun ((v34,v35),a33) h=>(a33=none→v34=[])∧Own vars h0 [((some g2),.cells (flatC (v4.map (encN 1 n8))) false),(a33,.cells (flatC (v34.map encLaw)) false),((some g26),.cells [(i64 (v18/2)),(n8 ((v18%2)%256))] false),((some g28),.cells [(i64 (v18/2)),(n8 (1-((v18%2)%256)))] false)] h) (fun ((v34,v35),a33)=>[(7,(growV 4 a33 (v34.map encLaw))),(81,(i64 v35))]) ((v17,0),a16) hm ⟨ha19,(O.sel [2,3,1,0] (by decide))⟩ ?_
        clear hm;rintro⟨⟨v34,v35⟩,a33⟩ nx37 base h hm ⟨ha36,O⟩
        refine gX ?_
        refine br hm (fun hm=>?_) fun hm=>?_
        ·apply Cs;conv=>whnf
         refine jn (σ:=(List Lawv)×Option Nat) hm 132 [5,10,11,51,52,53,79,80,81] (fun s=>s.1) (fun (v39,a38) h=>(a38=none→v39=[])∧Own vars h0 [((some g2),.cells (flatC (v4.map (encN 1 n8))) false),(a38,.cells (flatC (v39.map encLaw)) false),((some g26),.cells [(i64 (v18/2)),(n8 ((v18%2)%256))] false),((some g28),.cells [(i64 (v18/2)),(n8 (1-((v18%2)%256)))] false)] h) (fun (v39,a38)=>[(7,(growV 4 a38 (v39.map encLaw)))]) (fun hm=>?_) ?_
         ·refine gX ?_
          refine atF hm fun x42 hx42 hm=>?_;refine gH ?_
          refine O.new (anew_alloc (l:=[(i64 0),(n8 0)]) rfl rfl rfl) fun g43 h O=>?_;refine gH ?_
          refine O.stC 2 (.head _) [(i64 x42.net),(n8 x42.value)] fun h O=>?_;refine gX ?_
          refine aMul hm fun hm=>?_;refine gH ?_
          refine aSub8 hm fun hm=>?_;refine gH ?_
          refine aCv hm wI8 fun hm=>?_;refine gH ?_
          refine aAdd hm fun hm=>?_;refine gH ?_
          refine ix 1 hm fun x45 hx45 hm=>?_;refine gH ?_
          refine ldE (s:=1) (i:=0) (O.at (.tail _ (.head _))) hx45 ?_;refine gH ?_
          refine jn hm 132 [5,7,10,11,13,51,52,53,79,80,81] (fun s=>s) (fun v46 h=>(a33=none→v34=[])∧Own vars h0 [((some g2),.cells (flatC (v4.map (encN 1 n8))) false),(a33,.cells (flatC (v34.map encLaw)) false),((some g26),.cells [(i64 (v18/2)),(n8 ((v18%2)%256))] false),((some g28),.cells [(i64 (v18/2)),(n8 (1-((v18%2)%256)))] false),((some g43),.cells [(i64 x42.net),(n8 x42.value)] false)] h) (fun v46=>[(114,(.bool v46))]) (fun hm=>?_) ?_
          ·refine gX ?_
           refine ldO (O.at (.tail _ (.tail _ (.tail _ (.head _))))) ?_;refine gH ?_
           refine br hm (fun hm=>?_) fun hm=>?_
           ·refine gX ?_
            refine nnN ?_;refine gH ?_
            refine br hm (fun hm=>?_) fun hm=>?_
            ·refine gX ?_
             refine ldO (O.at (.tail _ (.tail _ (.tail _ (.head _))))) ?_;refine gH ?_
             refine atN hm fun x49 hx49 hm=>?_;refine gH ?_
             refine ldO (O.at (.tail _ (.tail _ (.tail _ (.tail _ (.head _)))))) ?_;refine gH ?_
             exact jx (neN x49 (1-((v18%2)%256))) hm ⟨ha36,(O.sel [1,2,3,4,0] (by decide))⟩
            ·refine gX ?_
             exact jx false hm ⟨ha36,(O.sel [1,2,3,4,0] (by decide))⟩
           ·refine gX ?_
            refine bf ?_;refine gH ?_
            exact jx false hm ⟨ha36,(O.sel [1,2,3,4,0] (by decide))⟩
          ·clear hm;rintro v46 base h hm ⟨ha47,O⟩
           refine gX ?_
           refine br hm (fun hm=>?_) fun hm=>?_
           ·refine gX ?_
            refine ldO (O.at (.tail _ (.tail _ (.tail _ (.tail _ (.head _)))))) ?_;refine gH ?_
            refine ldO (O.at (.tail _ (.tail _ (.tail _ (.tail _ (.head _)))))) ?_;refine gH ?_
            refine aSub8 hm fun hm=>?_;refine gH ?_
            refine ldA (O.at (.tail _ (.tail _ (.tail _ (.head _))))) ?_;refine gH ?_
            refine fz ?_;refine gH ?_
            refine O.apL (enc:=encLaw) (l:=v34) (new:=([(⟨(⟨x42.net,(1-x42.value)⟩:Asg),(⟨(v18/2),(1-((v18%2)%256))⟩:Asg)⟩:Lawv)]:(List Lawv))) 4 (.tail _ (.head _)) ha47 hm fun a50 h ha51 O hm=>?_;refine gH ?_
            exact jx ((v34++([(⟨(⟨x42.net,(1-x42.value)⟩:Asg),(⟨(v18/2),(1-((v18%2)%256))⟩:Asg)⟩:Lawv)]:(List Lawv))),a50) hm ⟨ha51,(O.sel [0,1,2,3] (by decide))⟩
           ·refine gX ?_
            exact jx (v34,a33) hm ⟨ha47,(O.sel [0,1,2,3] (by decide))⟩
         ·clear hm;rintro⟨v39,a38⟩ base h hm ⟨ha40,O⟩
          refine gX ?_
          refine aAdd hm fun hm=>?_;refine gH ?_
          exact jx ((v39,(v35+1)),a38) hm ⟨ha40,O⟩
        ·refine gX ?_
         exact jx (v34,a33) hm ⟨ha36,(O.sel [0,1] (by decide))⟩
      ·clear hm;rintro⟨v22,a21⟩ base h hm ⟨ha23,O⟩
       refine gX ?_
       refine aAdd hm fun hm=>?_;refine gH ?_
       exact jx ((v22,(v18+1)),a21) hm ⟨ha23,O⟩
     ·refine gX ?_
      exact jx (v17,a16) hm ⟨ha19,(O.sel [1] (by decide))⟩
    ·clear hm;rintro⟨v13,a12⟩ base h hm ⟨ha14,O⟩
     refine gX ?_
     obtain⟨x52,h,hp53,hs54,hcall,O⟩:=sortLaw O (.head _) ha14 hm.1
     refine⟨_,_,hcall,?_⟩;refine gH ?_
     replace hm:=hm.2 x52 hp53 hs54
     have ha55:a12=none→x52=[]:=fun e=>by have:=ha14 e;rw[this] at hp53;exact hp53.eq_nil
     have he:(x52.map encLaw).length=(v13.map encLaw).length:=by simp[hp53.length_eq]
     (try rw[← growVe (s:=4) (a:=a12) he]);(try rw[← he])
     refine gX ?_
     refine fg Tryz.func59 ?_;refine gX ?_
     refine clipK (s:=4) (enc:=encLaw) (l:=x52) (n:=x52.length) (m:=x52.length) rfl rfl rfl rfl rfl rfl rfl ?_;refine gX ?_
     exact⟨(x52,0),hm,O.ext,fun h2 F=>VLe.tup (LLe.cons (O.clipL F (Nat.le_refl _) (.head _) ha55 (fun _=>rfl)) (LLe.cons (VLe.refl _ _) (LLe.nil _)))⟩
end Go.Proofs.YteanlacbmiiloaaGreatDoor
