/-
  Ms, S1, Pj1, Pj2, Lives24, Lv24: parts of the proof.
-/
import Derived.Test.YtfhldkgelipnaaaGreatDoorIc46
namespace Go.Proofs.YtfhldkgelipnaaaGreatDoor
open Go.Abs
set_option maxRecDepth 100000
structure Pat where
 inp:List Nat
 state:List Nat
def encPat (x:Pat):Value:=.agg ⟨[encL 1 n8 x.inp,encL 1 n8 x.state]⟩
theorem pure_bytes (l:List Nat):PureV (encL 1 n8 l):=pureL fun _=>AllPure.cons (PureV.flat rfl) AllPure.nil
structure Rsp where
 out:List Nat
 next:List Nat
def encRsp (x:Rsp):Value:=.agg ⟨[encL 1 n8 x.out,encL 1 n8 x.next]⟩
theorem pure_rspC (x:Rsp):AllPure (cl (encRsp x)):=AllPure.cons (pure_bytes _) (AllPure.cons (pure_bytes _) AllPure.nil)
theorem pure_rsp (x:Rsp):PureV (encRsp x):=PureV.agg (pure_rspC x)
structure SRun where
 circ:Circ
 nets:List Nat
def encRun (x:SRun):Value:=.agg ⟨[FL 4 (x.circ.nodes.map encNode),FL 1 (x.circ.names.map .string),FL 3 (x.circ.mems.map encMem),FL 1 (x.circ.outs.map i64),encL 1 n8 x.nets]⟩
def isHL:Option (Value×Heap)→Nat→Bool
 |some (.tuple ⟨[.int .u64 (.ofNat a),.int .u64 (.ofNat b)]⟩,_),i=>a==0&&b==i
 |_,_=>false
theorem isHL_iff {x:Option (Value×Heap)}{i:Nat} (h:isHL x i=true):∃ h',x=some (.tuple ⟨[n64 0,n64 i]⟩,h'):=by
 unfold isHL at h
 split at h
 ·simp only[Bool.and_eq_true,beq_iff_eq] at h
  obtain⟨rfl,rfl⟩:=h
  exact⟨_,rfl⟩
 ·cases h
theorem flatT2 {a b:Value} (ha:plain a=true) (hb:plain b=true):flatV (.tuple ⟨[a,b]⟩)=true:=by
 simp[flatV,ha,hb]
theorem mul_runs:((List.range 17).all fun i=>isHL (runFn Tryz.prog [] (orcExt Tryz.prog) 60 76 #[n64 1,n64 i] (heapOf vars)) i)=true:=by kernel_rfl
theorem mul_fn {i:Nat} (hi:i≤16):FnV Tryz.prog NG vars 76 ⟨[n64 1,n64 i]⟩ (.tuple ⟨[n64 0,n64 i]⟩):=by
 obtain⟨h',e⟩:=isHL_iff (List.all_eq_true.1 mul_runs i (List.mem_range.2 (by omega)))
 have c:=(runFn_sound hM hP (fun f vs h v e=>orcExt_sound f vs h v e) 60 _ _ _ _ _ e).1
 refine⟨PureV.tup (AllPure.cons (PureV.flat rfl) (AllPure.cons (PureV.flat rfl) AllPure.nil)),fun h b=>c.lift (by simp[n64];exact⟨rfl,rfl⟩) (flatT2 rfl rfl) (bears_vars (hasSize b) (hasVars b))⟩
def bits_Mul_wp (x y:Nat) (K:Nat×Nat→Prop):Prop:=x=1∧y≤16∧K (0,y)
theorem bits_Mul_walk {x y:Nat}{K:Nat×Nat→Prop} (hm:bits_Mul_wp x y K) {h0:Heap} (hB:HasB vars h0):∃ r,K r∧CallD Tryz.prog NG 76 ⟨[n64 x,n64 y]⟩ h0 ((fun (r:(Nat×Nat))=>Value.tuple ⟨[n64 (r.1),n64 (r.2)]⟩) r) h0:=by
 obtain⟨rfl,h,hk⟩:=hm
 exact FnV.walk (enc:=fun (r:(Nat×Nat))=>Value.tuple ⟨[n64 (r.1),n64 (r.2)]⟩) (mul_fn h) hk hB
set_option maxHeartbeats 8000000
def netlists_Inputs_wp (p0:Circ) (K:(List Nat)→Prop):Prop :=
 netlists_Of_wp p0 ([0]:(List Nat)) (fun r1=>K r1)
theorem netlists_Inputs_walk {p0:Circ}{K:(List Nat)→Prop} (hm:netlists_Inputs_wp p0 K) {h0:Heap} (hB:HasB vars h0):∃ r,K r∧CallD Tryz.prog NG 17 ⟨[encCirc p0]⟩ h0 ((encL 1 i64) r) h0:=by
 unfold netlists_Inputs_wp at hm
 refine fnW hM Tryz.func17 rfl (hP _ _ rfl Tryz.func17) (lbE rfl) hB (enc:=(encL 1 i64)) (fun r=>pureL (fun _=>AllPure.cons (PureV.flat rfl) AllPure.nil)) fun O=>?_;conv=>whnf
 apply Cs;(conv=>whnf);repeat(first|apply Cs|apply Hs|apply Hx);conv=>whnf
 refine NewG.frz rfl ?_;(conv=>whnf);repeat(first|apply Cs|apply Hs|apply Hx);conv=>whnf
 refine⟨_,(rfl:aread _ _ _ _=some _),?_⟩;(conv=>whnf);repeat(first|apply Hs|apply Hx);conv=>whnf
 refine NewG.frz rfl ?_;(conv=>whnf);repeat(first|apply Hs|apply Hx);conv=>whnf
 obtain⟨r1,hm,hcall⟩:=netlists_Of_walk hm O.has
 refine⟨_,_,hcall,?_⟩;(conv=>whnf);repeat(first|apply Cs|apply Hs|apply Hx);conv=>whnf
 exact⟨r1,hm,O.ext,fun h2 F=>VLe.refl _ _⟩
def netlists_States_wp (p0:Circ) (K:(List Nat)→Prop):Prop :=
 netlists_Of_wp p0 ([14]:(List Nat)) (fun r1=>K r1)
theorem netlists_States_walk {p0:Circ}{K:(List Nat)→Prop} (hm:netlists_States_wp p0 K) {h0:Heap} (hB:HasB vars h0):∃ r,K r∧CallD Tryz.prog NG 18 ⟨[encCirc p0]⟩ h0 ((encL 1 i64) r) h0:=by
 unfold netlists_States_wp at hm
 refine fnW hM Tryz.func18 rfl (hP _ _ rfl Tryz.func18) (lbE rfl) hB (enc:=(encL 1 i64)) (fun r=>pureL (fun _=>AllPure.cons (PureV.flat rfl) AllPure.nil)) fun O=>?_;conv=>whnf
 apply Cs;(conv=>whnf);repeat(first|apply Cs|apply Hs|apply Hx);conv=>whnf
 refine NewG.frz rfl ?_;(conv=>whnf);repeat(first|apply Cs|apply Hs|apply Hx);conv=>whnf
 refine⟨_,(rfl:aread _ _ _ _=some _),?_⟩;(conv=>whnf);repeat(first|apply Hs|apply Hx);conv=>whnf
 refine NewG.frz rfl ?_;(conv=>whnf);repeat(first|apply Hs|apply Hx);conv=>whnf
 obtain⟨r1,hm,hcall⟩:=netlists_Of_walk hm O.has
 refine⟨_,_,hcall,?_⟩;(conv=>whnf);repeat(first|apply Cs|apply Hs|apply Hx);conv=>whnf
 exact⟨r1,hm,O.ext,fun h2 F=>VLe.refl _ _⟩
def cf_simsAboveI_wp (p0:(List Nat)) (K:Int→Prop):Prop :=
 joinW (α:=Unit) (fun k1=>loopW (S:=Nat) (fun v2 nx3=>((ltN v2 p0.length)=true→∃ x4,p0[v2]?=some x4∧((ltN 3 x4)=true→K (Int.ofNat v2))∧((ltN 3 x4)=false→v2+1<2 ^ 63∧nx3 (v2+1)))∧((ltN v2 p0.length)=false→k1 ())) 0) (fun _=>K (Int.negSucc 0))
theorem cf_simsAboveI_walk {p0:(List Nat)}{K:Int→Prop} (hm:cf_simsAboveI_wp p0 K) {h0:Heap} (hB:HasB vars h0):∃ r,K r∧CallD Tryz.prog NG 100 ⟨[(encL 1 n8) p0,(.func (.func 82) ⟨[]⟩ ⟨[]⟩)]⟩ h0 (z64 r) h0:=by
 unfold cf_simsAboveI_wp at hm
 refine fnW hM Tryz.func100 rfl (hP _ _ rfl Tryz.func100) (lbE rfl) hB (enc:=z64) (fun r=>PureV.flat rfl) fun O=>?_;conv=>whnf
 apply Cs;conv=>whnf
 apply Cs;(conv=>whnf);repeat(first|apply Hs|apply Hx);conv=>whnf
 refine CodeS.joinWS hm (nn:=19) (σ:=Unit×Unit) (fun s=>s.1) (fun (_,_) h=>Own vars h0 [] h∧True) (fun (_,_)=>[]) rfl (fun hm'=>?_) ?_
 ·replace hm:=hm'
  apply Cs;(conv=>whnf);repeat(first|apply Cs|apply Hs|apply Hx);conv=>whnf
  refine lenM (s:=1) (enc:=n8) (l:=p0) rfl rfl ?_;(conv=>whnf);repeat(first|apply Cs|apply Hs|apply Hx);conv=>whnf
  refine loopWK hM (by kernel_rfl) (nn:=19) (S:=Nat) (σ:=Nat×Unit) (fun s=>s.1) (fun (v2,_) h=>Own vars h0 [] h∧True) (fun (v2,_)=>[(0,((encL 1 n8) p0)),(1,(.func (.func 82) ⟨[]⟩ ⟨[]⟩)),(7,(i64 p0.length)),(8,(i64 v2))]) rfl (0,()) hm ⟨O,trivial⟩ ⟨VLe.refl _ _,VLe.refl _ _,VLe.refl _ _,VLe.refl _ _,trivial⟩ ?_
  clear hm;rintro⟨v2,_⟩ nx3 base h hm ⟨O,_⟩
  ((conv=>whnf);repeat(first|apply Cs|apply Hs|apply Hx);conv=>whnf)
  refine⟨_,rfl,fun hc=>?_,fun hc=>?_⟩
  ·replace hm:=hm.1 hc
   apply Cs;(conv=>whnf);repeat(first|apply Cs|apply Hs|apply Hx);conv=>whnf
   obtain⟨x4,hx4,hm⟩:=hm
   refine flAtM (s:=1) (enc:=n8) (j:=v2) rfl rfl rfl rfl hx4 ?_;(conv=>whnf);repeat(first|apply Hs|apply Hx);conv=>whnf
   refine⟨_,(rfl:aread _ _ _ _=some _),?_⟩;(conv=>whnf);repeat(first|apply Hs|apply Hx);conv=>whnf
   refine fnG hM Tryz.func82 rfl (hP _ _ rfl Tryz.func82) (lbE rfl) ?_;(conv=>whnf);repeat(first|apply Cs|apply Hs|apply Hx);conv=>whnf
   refine⟨_,rfl,fun hc=>?_,fun hc=>?_⟩
   ·replace hm:=hm.1 hc
    apply Cs;(conv=>whnf);repeat(first|apply Cs|apply Hs|apply Hx);conv=>whnf
    exact⟨(Int.ofNat v2),hm,O.ext,fun h2 F=>VLe.refl _ _⟩
   ·replace hm:=hm.2 hc
    apply Cs;(conv=>whnf);repeat(first|apply Cs|apply Hs|apply Hx);conv=>whnf
    refine⟨_,addK (a:=v2) (b:=1) rfl rfl hm.1,?_⟩;(conv=>whnf);repeat(first|apply Hs|apply Hx);conv=>whnf
    replace hm:=hm.2
    exact⟨((v2+1),()),hm,⟨O,trivial⟩,VLe.refl _ _,VLe.refl _ _,VLe.refl _ _,VLe.refl _ _,trivial⟩
  ·replace hm:=hm.2 hc
   apply Cs;(conv=>whnf);repeat(first|apply Cs|apply Hs|apply Hx);conv=>whnf
   exact⟨((),()),hm,⟨O,trivial⟩,trivial⟩
 ·clear hm;rintro⟨_,_⟩ base h hm ⟨O,_⟩
  ((conv=>whnf);repeat(first|apply Cs|apply Hs|apply Hx);conv=>whnf)
  exact⟨(Int.negSucc 0),hm,O.ext,fun h2 F=>VLe.refl _ _⟩
def cf_simsAbove_wp (p0:(List Nat)) (K:Bool→Prop):Prop :=
 cf_simsAboveI_wp p0 (fun r1=>K (!ltI r1 (Int.ofNat 0)))
theorem cf_simsAbove_walk {p0:(List Nat)}{K:Bool→Prop} (hm:cf_simsAbove_wp p0 K) {h0:Heap} (hB:HasB vars h0):∃ r,K r∧CallD Tryz.prog NG 70 ⟨[(encL 1 n8) p0,(.func (.func 82) ⟨[]⟩ ⟨[]⟩)]⟩ h0 (Value.bool r) h0:=by
 unfold cf_simsAbove_wp at hm
 refine fnW hM Tryz.func70 rfl (hP _ _ rfl Tryz.func70) (lbE rfl) hB (enc:=Value.bool) (fun r=>PureV.flat rfl) fun O=>?_;conv=>whnf
 apply Cs;(conv=>whnf);repeat(first|apply Cs|apply Hs|apply Hx);conv=>whnf
 obtain⟨r1,hm,hcall⟩:=cf_simsAboveI_walk hm O.has
 refine⟨_,_,hcall,?_⟩;(conv=>whnf);repeat(first|apply Cs|apply Hs|apply Hx);conv=>whnf
 exact⟨(!ltI r1 (Int.ofNat 0)),hm,O.ext,fun h2 F=>VLe.refl _ _⟩
def run_value_wp (p0:SRun) (p1:Nat) (K:Nat→Prop):Prop :=
 joinW (α:=Bool) (fun k2=>((ltN p1 0)=true→k2 true)∧((ltN p1 0)=false→k2 (!ltN p1 p0.nets.length))) (fun v1=>(v1=true→K 2)∧(v1=false→∃ x3,p0.nets[p1]?=some x3∧logic_Clean_wp x3 (fun r4=>K r4)))
theorem run_value_walk {p0:SRun}{p1:Nat}{K:Nat→Prop} (hm:run_value_wp p0 p1 K) {h0:Heap} (hB:HasB vars h0):∃ r,K r∧CallD Tryz.prog NG 90 ⟨[encRun p0,i64 p1]⟩ h0 (n8 r) h0:=by
 unfold run_value_wp at hm
 refine fnW hM Tryz.func90 rfl (hP _ _ rfl Tryz.func90) (lbE rfl) hB (enc:=n8) (fun r=>PureV.flat rfl) fun O=>?_;conv=>whnf
 apply Cs;(conv=>whnf);repeat(first|apply Cs|apply Hs|apply Hx);conv=>whnf
 refine NewG.frz rfl ?_;(conv=>whnf);repeat(first|apply Hs|apply Hx);conv=>whnf
 apply Cs;conv=>whnf
 refine CodeS.joinWS hm (nn:=20) (σ:=Bool×Unit) (fun s=>s.1) (fun (v1,_) h=>Own vars h0 [] h∧True) (fun (v1,_)=>[(1,(i64 p1)),(2,(FP (encRun p0))),(13,(.bool v1))]) rfl (fun hm'=>?_) ?_
 ·replace hm:=hm'
  apply Cs;(conv=>whnf);repeat(first|apply Cs|apply Hs|apply Hx);conv=>whnf
  refine⟨_,rfl,fun hc=>?_,fun hc=>?_⟩
  ·replace hm:=hm.1 hc;(conv=>whnf);repeat(first|apply Hs|apply Hx);conv=>whnf
   exact⟨(true,()),hm,⟨O,trivial⟩,VLe.refl _ _,VLe.refl _ _,VLe.refl _ _,trivial⟩
  ·replace hm:=hm.2 hc;(conv=>whnf);repeat(first|apply Hs|apply Hx);conv=>whnf
   refine⟨_,(rfl:aread _ _ _ _=some _),?_⟩;(conv=>whnf);repeat(first|apply Hs|apply Hx);conv=>whnf
   refine lenM (s:=1) (enc:=n8) (l:=p0.nets) rfl rfl ?_;(conv=>whnf);repeat(first|apply Hs|apply Hx);conv=>whnf
   exact⟨((!ltN p1 p0.nets.length),()),hm,⟨O,trivial⟩,VLe.refl _ _,VLe.refl _ _,VLe.refl _ _,trivial⟩
 ·clear hm;rintro⟨v1,_⟩ base h hm ⟨O,_⟩
  ((conv=>whnf);repeat(first|apply Cs|apply Hs|apply Hx);conv=>whnf)
  refine⟨_,rfl,fun hc=>?_,fun hc=>?_⟩
  ·replace hm:=hm.1 hc
   apply Cs;(conv=>whnf);repeat(first|apply Cs|apply Hs|apply Hx);conv=>whnf
   exact⟨2,hm,O.ext,fun h2 F=>VLe.refl _ _⟩
  ·replace hm:=hm.2 hc
   apply Cs;(conv=>whnf);repeat(first|apply Cs|apply Hs|apply Hx);conv=>whnf
   refine⟨_,(rfl:aread _ _ _ _=some _),?_⟩;(conv=>whnf);repeat(first|apply Hs|apply Hx);conv=>whnf
   obtain⟨x3,hx3,hm⟩:=hm
   refine flAtM (s:=1) (enc:=n8) (j:=p1) rfl rfl rfl rfl hx3 ?_;(conv=>whnf);repeat(first|apply Hs|apply Hx);conv=>whnf
   refine⟨_,(rfl:aread _ _ _ _=some _),?_⟩;(conv=>whnf);repeat(first|apply Hs|apply Hx);conv=>whnf
   obtain⟨r4,hm,hcall⟩:=logic_Clean_walk hm O.has
   refine⟨_,_,hcall,?_⟩;(conv=>whnf);repeat(first|apply Cs|apply Hs|apply Hx);conv=>whnf
   exact⟨r4,hm,O.ext,fun h2 F=>VLe.refl _ _⟩
def run_observe_wp (p0:SRun) (K:Rsp→Prop):Prop :=
 joinW (α:=(List Nat)) (fun k12=>loopW (S:=((List Nat)×Nat)) (fun (v14,v15) nx17=>((ltN v15 p0.circ.outs.length)=true→∃ x18,p0.circ.outs[v15]?=some x18∧run_value_wp p0 x18 (fun r19=>(v14.length+([r19]:(List Nat)).length)*1≤2 ^ 47∧v15+1<2 ^ 63∧nx17 ((v14++([r19]:(List Nat))),(v15+1))))∧((ltN v15 p0.circ.outs.length)=false→k12 v14)) (([]:List Nat),0)) (fun v10=>joinW (α:=(List Nat)) (fun k28=>netlists_States_wp p0.circ (fun r29=>loopW (S:=((List Nat)×Nat)) (fun (v31,v32) nx35=>((ltN v32 r29.length)=true→∃ x36,r29[v32]?=some x36∧joinW (α:=Nat) (fun k40=>∃ x41,p0.circ.nodes[x36]?=some x41∧((eqN x41.ins.length 1)=true→∃ x42,x41.ins[0]?=some x42∧run_value_wp p0 x42 (fun r43=>logic_Read_wp r43 (fun r44=>k40 r44)))∧((eqN x41.ins.length 1)=false→k40 2)) (fun v37=>(v31.length+([v37]:(List Nat)).length)*1≤2 ^ 47∧v32+1<2 ^ 63∧nx35 ((v31++([v37]:(List Nat))),(v32+1))))∧((ltN v32 r29.length)=false→k28 v31)) (([]:List Nat),0))) (fun v25=>K (⟨v10,v25⟩:Rsp)))
theorem run_observe_walk {p0:SRun}{K:Rsp→Prop} (hm:run_observe_wp p0 K) {h0:Heap} (hB:HasB vars h0):∃ r,K r∧CallD Tryz.prog NG 53 ⟨[encRun p0]⟩ h0 (encRsp r) h0:=by
 unfold run_observe_wp at hm
 refine fnW hM Tryz.func53 rfl (hP _ _ rfl Tryz.func53) (lbE rfl) hB (enc:=encRsp) (fun r=>pure_rsp _) fun O=>?_;conv=>whnf
 apply Cs;(conv=>whnf);repeat(first|apply Cs|apply Hs|apply Hx);conv=>whnf
 refine NewG.frz rfl ?_;(conv=>whnf);repeat(first|apply Hs|apply Hx);conv=>whnf
 have O:=O.addNil (.cells (flatC ((([]:List Nat)).map n8)) false)
 have O:=O.addNil (.cells (flatC ((([]:List Nat)).map n8)) false)
 refine O.new (anew_alloc (l:=[(.slice none 0 0),(.slice none 0 0)]) rfl rfl rfl) fun g1 h O=>?_;(conv=>whnf);repeat(first|apply Hs|apply Hx);conv=>whnf
 apply Cs;(conv=>whnf);repeat(first|apply Cs|apply Hs|apply Hx);conv=>whnf
 have O:=O.addNil (.cells (flatC ((([]:List Nat)).map n8)) false)
 have O:=O.addNil (.cells (flatC ((([]:List Nat)).map n8)) false)
 refine O.new (anew_alloc (l:=[(.slice none 0 0),(.slice none 0 0)]) rfl rfl rfl) fun g5 h O=>?_;(conv=>whnf);repeat(first|apply Hs|apply Hx);conv=>whnf
 refine CodeS.joinWS hm (nn:=65) (σ:=(List Nat)×Option Nat) (fun s=>s.1) (fun (v10,a9) h=>(a9=none→v10=[])∧Own vars h0 [((some g1),.cells [(growV 1 none (([]:List Nat).map n8)),(growV 1 none (([]:List Nat).map n8))] false),(none,.cells (flatC (([]:List Nat).map n8)) false),(none,.cells (flatC (([]:List Nat).map n8)) false),((some g5),.cells [(growV 1 a9 (v10.map n8)),(growV 1 none (([]:List Nat).map n8))] false),(a9,.cells (flatC (v10.map n8)) false),(none,.cells (flatC (([]:List Nat).map n8)) false)] h∧True) (fun (v10,a9)=>[(1,(FP (encRun p0))),(2,(.pointer (some ⟨g1,0,none⟩))),(3,(.pointer (some ⟨g5,0,none⟩)))]) rfl (fun hm'=>?_) ?_
 ·replace hm:=hm'
  apply Cs;(conv=>whnf);repeat(first|apply Cs|apply Hs|apply Hx);conv=>whnf
  refine⟨_,(rfl:aread _ _ _ _=some _),?_⟩;(conv=>whnf);repeat(first|apply Hs|apply Hx);conv=>whnf
  refine lenM (s:=1) (enc:=i64) (l:=p0.circ.outs) rfl rfl ?_;(conv=>whnf);repeat(first|apply Cs|apply Hs|apply Hx);conv=>whnf
  refine loopWK hM (by kernel_rfl) (nn:=65) (S:=((List Nat)×Nat)) (σ:=((List Nat)×Nat)×Option Nat) (fun s=>s.1) (fun ((v14,v15),a13) h=>(a13=none→v14=[])∧Own vars h0 [((some g1),.cells [(growV 1 none (([]:List Nat).map n8)),(growV 1 none (([]:List Nat).map n8))] false),(none,.cells (flatC (([]:List Nat).map n8)) false),(none,.cells (flatC (([]:List Nat).map n8)) false),((some g5),.cells [(growV 1 a13 (v14.map n8)),(growV 1 none (([]:List Nat).map n8))] false),(a13,.cells (flatC (v14.map n8)) false),(none,.cells (flatC (([]:List Nat).map n8)) false)] h∧True) (fun ((v14,v15),a13)=>[(1,(FP (encRun p0))),(2,(.pointer (some ⟨g1,0,none⟩))),(3,(.pointer (some ⟨g5,0,none⟩))),(12,((encL 1 i64) p0.circ.outs)),(13,(i64 p0.circ.outs.length)),(14,(i64 v15))]) rfl ((([]:List Nat),0),none) hm ⟨(fun _=>rfl),(O.sel [3,5,4,0,2,1] (by decide)),trivial⟩ ⟨VLe.refl _ _,VLe.refl _ _,VLe.refl _ _,VLe.refl _ _,VLe.refl _ _,VLe.refl _ _,trivial⟩ ?_
  clear hm;rintro⟨⟨v14,v15⟩,a13⟩ nx17 base h hm ⟨ha16,O,_⟩
  ((conv=>whnf);repeat(first|apply Cs|apply Hs|apply Hx);conv=>whnf)
  refine⟨_,rfl,fun hc=>?_,fun hc=>?_⟩
  ·replace hm:=hm.1 hc
   apply Cs;(conv=>whnf);repeat(first|apply Cs|apply Hs|apply Hx);conv=>whnf
   obtain⟨x18,hx18,hm⟩:=hm
   refine flAtM (s:=1) (enc:=i64) (j:=v15) rfl rfl rfl rfl hx18 ?_;(conv=>whnf);repeat(first|apply Hs|apply Hx);conv=>whnf
   refine⟨_,(rfl:aread _ _ _ _=some _),?_⟩;(conv=>whnf);repeat(first|apply Cs|apply Hs|apply Hx);conv=>whnf
   refine⟨_,loadK rfl (O.at (.tail _ (.tail _ (.tail _ (.head _))))) rfl rfl,?_⟩;(conv=>whnf);repeat(first|apply Hs|apply Hx);conv=>whnf
   first|refine⟨.inr (.inr (loadK rfl (O.at (.tail _ (.tail _ (.tail _ (.head _))))) rfl rfl)),?_⟩|refine⟨.inr (.inl (by kernel_rfl)),?_⟩
   ((conv=>whnf);repeat(first|apply Cs|apply Hs|apply Hx);conv=>whnf)
   refine⟨_,(rfl:aread _ _ _ _=some _),?_⟩;(conv=>whnf);repeat(first|apply Hs|apply Hx);conv=>whnf
   first|refine⟨.inr (.inr (rfl)),?_⟩|refine⟨.inr (.inl (by kernel_rfl)),?_⟩
   ((conv=>whnf);repeat(first|apply Cs|apply Hs|apply Hx);conv=>whnf)
   obtain⟨r19,hm,hcall⟩:=run_value_walk hm O.has
   refine⟨_,_,hcall,?_⟩;(conv=>whnf);repeat(first|apply Hs|apply Hx);conv=>whnf
   refine⟨.inl (Ext.refl _),?_⟩;(conv=>whnf);repeat(first|apply Hs|apply Hx);conv=>whnf
   refine O.buildLX (l:=([r19]:(List Nat))) (enc:=n8) (s:=1) (z:=(n8 0)) rfl rfl (by kernel_rfl) (by kernel_rfl) rfl rfl rfl rfl (fun _=>rfl) fun g20 h O=>?_;(conv=>whnf);repeat(first|apply Hs|apply Hx);conv=>whnf
   refine O.appendL (enc:=n8) (l:=v14) (new:=([r19]:(List Nat))) (s:=1) (b:=1) (.tail _ (.tail _ (.tail _ (.tail _ (.tail _ (.head _)))))) ha16 rfl rfl rfl rfl rfl rfl rfl rfl (YOk.own (O.at (.head _)) rfl (fun _=>rfl) rfl) (fun _=>rfl) (fun _=>rfl) (by decide) hm.1 fun a22 h ha23 O=>?_;(conv=>whnf);repeat(first|apply Hs|apply Hx);conv=>whnf
   refine⟨.inl rfl,?_⟩;(conv=>whnf);repeat(first|apply Hs|apply Hx);conv=>whnf
   replace hm:=hm.2
   refine O.store (n:=1) (cs':=[(growV 1 a22 ((v14++([r19]:(List Nat))).map n8)),(growV 1 none (([]:List Nat).map n8))]) (.tail _ (.tail _ (.tail _ (.tail _ (.head _))))) rfl rfl rfl rfl (lbE rfl) rfl rfl fun h O=>?_;(conv=>whnf);repeat(first|apply Hs|apply Hx);conv=>whnf
   refine⟨.inl rfl,?_⟩;(conv=>whnf);repeat(first|apply Hs|apply Hx);conv=>whnf
   apply Cs;(conv=>whnf);repeat(first|apply Cs|apply Hs|apply Hx);conv=>whnf
   refine⟨_,addK (a:=v15) (b:=1) rfl rfl hm.1,?_⟩;(conv=>whnf);repeat(first|apply Hs|apply Hx);conv=>whnf
   replace hm:=hm.2
   exact⟨(((v14++([r19]:(List Nat))),(v15+1)),a22),hm,⟨ha23,(O.sel [1,2,3,4,5,6] (by decide)),trivial⟩,VLe.refl _ _,VLe.refl _ _,VLe.refl _ _,VLe.refl _ _,VLe.refl _ _,VLe.refl _ _,trivial⟩
  ·replace hm:=hm.2 hc
   apply Cs;(conv=>whnf);repeat(first|apply Cs|apply Hs|apply Hx);conv=>whnf
   exact⟨(v14,a13),hm,⟨ha16,O,trivial⟩,VLe.refl _ _,VLe.refl _ _,VLe.refl _ _,trivial⟩
 ·clear hm;rintro⟨v10,a9⟩ base h hm ⟨ha11,O,_⟩
  conv=>whnf
  refine CodeS.joinWS hm (nn:=65) (σ:=(List Nat)×Option Nat) (fun s=>s.1) (fun (v25,a24) h=>(a9=none→v10=[])∧(a24=none→v25=[])∧Own vars h0 [((some g1),.cells [(growV 1 none (([]:List Nat).map n8)),(growV 1 none (([]:List Nat).map n8))] false),(none,.cells (flatC (([]:List Nat).map n8)) false),(none,.cells (flatC (([]:List Nat).map n8)) false),((some g5),.cells [(growV 1 a9 (v10.map n8)),(growV 1 a24 (v25.map n8))] false),(a9,.cells (flatC (v10.map n8)) false),(a24,.cells (flatC (v25.map n8)) false)] h∧True) (fun (v25,a24)=>[(2,(.pointer (some ⟨g1,0,none⟩))),(3,(.pointer (some ⟨g5,0,none⟩)))]) rfl (fun hm'=>?_) ?_
  ·replace hm:=hm'
   apply Cs;(conv=>whnf);repeat(first|apply Cs|apply Hs|apply Hx);conv=>whnf
   refine⟨_,(rfl:aread _ _ _ _=some _),?_⟩;(conv=>whnf);repeat(first|apply Hs|apply Hx);conv=>whnf
   obtain⟨r29,hm,hcall⟩:=netlists_States_walk hm O.has
   refine⟨_,_,hcall,?_⟩;(conv=>whnf);repeat(first|apply Hs|apply Hx);conv=>whnf
   refine lenM (s:=1) (enc:=i64) (l:=r29) rfl rfl ?_;(conv=>whnf);repeat(first|apply Cs|apply Hs|apply Hx);conv=>whnf
   refine loopWK hM (by kernel_rfl) (nn:=65) (S:=((List Nat)×Nat)) (σ:=((List Nat)×Nat)×Option Nat) (fun s=>s.1) (fun ((v31,v32),a30) h=>(a9=none→v10=[])∧(a30=none→v31=[])∧Own vars h0 [((some g1),.cells [(growV 1 none (([]:List Nat).map n8)),(growV 1 none (([]:List Nat).map n8))] false),(none,.cells (flatC (([]:List Nat).map n8)) false),(none,.cells (flatC (([]:List Nat).map n8)) false),((some g5),.cells [(growV 1 a9 (v10.map n8)),(growV 1 a30 (v31.map n8))] false),(a9,.cells (flatC (v10.map n8)) false),(a30,.cells (flatC (v31.map n8)) false)] h∧True) (fun ((v31,v32),a30)=>[(1,(FP (encRun p0))),(2,(.pointer (some ⟨g1,0,none⟩))),(3,(.pointer (some ⟨g5,0,none⟩))),(29,((encL 1 i64) r29)),(30,(i64 r29.length)),(31,(i64 v32))]) rfl ((([]:List Nat),0),none) hm ⟨ha11,(fun _=>rfl),O,trivial⟩ ⟨VLe.refl _ _,VLe.refl _ _,VLe.refl _ _,VLe.refl _ _,VLe.refl _ _,VLe.refl _ _,trivial⟩ ?_
   clear hm;rintro⟨⟨v31,v32⟩,a30⟩ nx35 base h hm ⟨ha33,ha34,O,_⟩
   ((conv=>whnf);repeat(first|apply Cs|apply Hs|apply Hx);conv=>whnf)
   refine⟨_,rfl,fun hc=>?_,fun hc=>?_⟩
   ·replace hm:=hm.1 hc
    apply Cs;(conv=>whnf);repeat(first|apply Cs|apply Hs|apply Hx);conv=>whnf
    obtain⟨x36,hx36,hm⟩:=hm
    refine flAtM (s:=1) (enc:=i64) (j:=v32) rfl rfl rfl rfl hx36 ?_;(conv=>whnf);repeat(first|apply Hs|apply Hx);conv=>whnf
    refine⟨_,(rfl:aread _ _ _ _=some _),?_⟩;(conv=>whnf);repeat(first|apply Hs|apply Hx);conv=>whnf
    apply Cs;conv=>whnf
    apply Cs;(conv=>whnf);repeat(first|apply Hs|apply Hx);conv=>whnf
    refine CodeS.joinWS hm (nn:=65) (σ:=Nat×Unit) (fun s=>s.1) (fun (v37,_) h=>(a9=none→v10=[])∧(a30=none→v31=[])∧Own vars h0 [((some g1),.cells [(growV 1 none (([]:List Nat).map n8)),(growV 1 none (([]:List Nat).map n8))] false),(none,.cells (flatC (([]:List Nat).map n8)) false),(none,.cells (flatC (([]:List Nat).map n8)) false),((some g5),.cells [(growV 1 a9 (v10.map n8)),(growV 1 a30 (v31.map n8))] false),(a9,.cells (flatC (v10.map n8)) false),(a30,.cells (flatC (v31.map n8)) false)] h∧True) (fun (v37,_)=>[(1,(FP (encRun p0))),(2,(.pointer (some ⟨g1,0,none⟩))),(3,(.pointer (some ⟨g5,0,none⟩))),(8,(n8 v37)),(29,((encL 1 i64) r29)),(30,(i64 r29.length)),(31,(i64 v32))]) rfl (fun hm'=>?_) ?_
    ·replace hm:=hm'
     apply Cs;(conv=>whnf);repeat(first|apply Cs|apply Hs|apply Hx);conv=>whnf
     refine⟨_,(rfl:aread _ _ _ _=some _),?_⟩;(conv=>whnf);repeat(first|apply Hs|apply Hx);conv=>whnf
     obtain⟨x41,hx41,hm⟩:=hm
     refine flAtM (s:=4) (enc:=encNode) (j:=x36) rfl rfl rfl rfl hx41 ?_;(conv=>whnf);repeat(first|apply Hs|apply Hx);conv=>whnf
     refine⟨_,(rfl:aread _ _ _ _=some _),?_⟩;(conv=>whnf);repeat(first|apply Cs|apply Hs|apply Hx);conv=>whnf
     refine lenM (s:=1) (enc:=i64) (l:=x41.ins) rfl rfl ?_;(conv=>whnf);repeat(first|apply Cs|apply Hs|apply Hx);conv=>whnf
     refine⟨_,rfl,fun hc=>?_,fun hc=>?_⟩
     ·replace hm:=hm.1 hc
      apply Cs;(conv=>whnf);repeat(first|apply Cs|apply Hs|apply Hx);conv=>whnf
      refine⟨_,(rfl:aread _ _ _ _=some _),?_⟩;(conv=>whnf);repeat(first|apply Hs|apply Hx);conv=>whnf
      first|refine⟨.inr (.inr (rfl)),?_⟩|refine⟨.inr (.inl (by kernel_rfl)),?_⟩
      ((conv=>whnf);repeat(first|apply Cs|apply Hs|apply Hx);conv=>whnf)
      obtain⟨x42,hx42,hm⟩:=hm
      refine flAtM (s:=1) (enc:=i64) (j:=0) rfl rfl rfl rfl hx42 ?_;(conv=>whnf);repeat(first|apply Hs|apply Hx);conv=>whnf
      refine⟨_,(rfl:aread _ _ _ _=some _),?_⟩;(conv=>whnf);repeat(first|apply Hs|apply Hx);conv=>whnf
      refine⟨.inl rfl,?_⟩;(conv=>whnf);repeat(first|apply Hs|apply Hx);conv=>whnf
      obtain⟨r43,hm,hcall⟩:=run_value_walk hm O.has
      refine⟨_,_,hcall,?_⟩;(conv=>whnf);repeat(first|apply Hs|apply Hx);conv=>whnf
      refine⟨.inl (Ext.refl _),?_⟩;(conv=>whnf);repeat(first|apply Hs|apply Hx);conv=>whnf
      obtain⟨r44,hm,hcall⟩:=logic_Read_walk hm O.has
      refine⟨_,_,hcall,?_⟩;(conv=>whnf);repeat(first|apply Hs|apply Hx);conv=>whnf
      refine⟨.inl (Ext.refl _),?_⟩;(conv=>whnf);repeat(first|apply Hs|apply Hx);conv=>whnf
      exact⟨(r44,()),hm,⟨ha33,ha34,O,trivial⟩,VLe.refl _ _,VLe.refl _ _,VLe.refl _ _,VLe.refl _ _,VLe.refl _ _,VLe.refl _ _,VLe.refl _ _,trivial⟩
     ·replace hm:=hm.2 hc
      apply Cs;(conv=>whnf);repeat(first|apply Cs|apply Hs|apply Hx);conv=>whnf
      exact⟨(2,()),hm,⟨ha33,ha34,O,trivial⟩,VLe.refl _ _,VLe.refl _ _,VLe.refl _ _,VLe.refl _ _,VLe.refl _ _,VLe.refl _ _,VLe.refl _ _,trivial⟩
    ·clear hm;rintro⟨v37,_⟩ base h hm ⟨ha38,ha39,O,_⟩
     ((conv=>whnf);repeat(first|apply Cs|apply Hs|apply Hx);conv=>whnf)
     refine⟨_,loadK rfl (O.at (.tail _ (.tail _ (.tail _ (.head _))))) rfl rfl,?_⟩;(conv=>whnf);repeat(first|apply Hs|apply Hx);conv=>whnf
     refine NewG.frz rfl ?_;(conv=>whnf);repeat(first|apply Hs|apply Hx);conv=>whnf
     refine O.appendL (enc:=n8) (l:=v31) (new:=([v37]:(List Nat))) (s:=1) (b:=1) (.tail _ (.tail _ (.tail _ (.tail _ (.tail _ (.head _)))))) ha39 rfl rfl rfl rfl rfl rfl rfl rfl (YOk.fl rfl) (fun _=>rfl) (fun _=>rfl) (by decide) hm.1 fun a45 h ha46 O=>?_;(conv=>whnf);repeat(first|apply Hs|apply Hx);conv=>whnf
     replace hm:=hm.2
     refine O.store (n:=1) (cs':=[(growV 1 a9 (v10.map n8)),(growV 1 a45 ((v31++([v37]:(List Nat))).map n8))]) (.tail _ (.tail _ (.tail _ (.head _)))) rfl rfl rfl rfl (lbE rfl) rfl rfl fun h O=>?_;(conv=>whnf);repeat(first|apply Cs|apply Hs|apply Hx);conv=>whnf
     refine⟨_,addK (a:=v32) (b:=1) rfl rfl hm.1,?_⟩;(conv=>whnf);repeat(first|apply Hs|apply Hx);conv=>whnf
     replace hm:=hm.2
     exact⟨(((v31++([v37]:(List Nat))),(v32+1)),a45),hm,⟨ha38,ha46,O,trivial⟩,VLe.refl _ _,VLe.refl _ _,VLe.refl _ _,VLe.refl _ _,VLe.refl _ _,VLe.refl _ _,trivial⟩
   ·replace hm:=hm.2 hc
    apply Cs;(conv=>whnf);repeat(first|apply Cs|apply Hs|apply Hx);conv=>whnf
    exact⟨(v31,a30),hm,⟨ha33,ha34,O,trivial⟩,VLe.refl _ _,VLe.refl _ _,trivial⟩
  ·clear hm;rintro⟨v25,a24⟩ base h hm ⟨ha26,ha27,O,_⟩
   ((conv=>whnf);repeat(first|apply Cs|apply Hs|apply Hx);conv=>whnf)
   refine⟨_,loadK rfl (O.at (.tail _ (.tail _ (.tail _ (.head _))))) rfl rfl,?_⟩;(conv=>whnf);repeat(first|apply Hs|apply Hx);conv=>whnf
   first|refine⟨.inr (.inr (loadK rfl (O.at (.tail _ (.tail _ (.tail _ (.head _))))) rfl rfl)),?_⟩|refine⟨.inr (.inl (by kernel_rfl)),?_⟩
   ((conv=>whnf);repeat(first|apply Cs|apply Hs|apply Hx);conv=>whnf)
   refine fnG hM Tryz.func91 rfl (hP _ _ rfl Tryz.func91) (lbE rfl) ?_;(conv=>whnf);repeat(first|apply Cs|apply Hs|apply Hx);conv=>whnf
   refine lenG (enc:=n8) (l:=v10) rfl rfl ?_;(conv=>whnf);repeat(first|apply Hs|apply Hx);conv=>whnf
   refine lenG (enc:=n8) (l:=v10) rfl rfl ?_;(conv=>whnf);repeat(first|apply Hs|apply Hx);conv=>whnf
   refine clipK (s:=1) (enc:=n8) (l:=v10) (n:=v10.length) (m:=v10.length) rfl rfl rfl rfl rfl rfl rfl ?_;(conv=>whnf);repeat(first|apply Cs|apply Hs|apply Hx);conv=>whnf
   refine⟨.inl (Ext.refl _),?_⟩;(conv=>whnf);repeat(first|apply Hs|apply Hx);conv=>whnf
   refine⟨_,loadK rfl (O.at (.tail _ (.tail _ (.tail _ (.head _))))) rfl rfl,?_⟩;(conv=>whnf);repeat(first|apply Hs|apply Hx);conv=>whnf
   first|refine⟨.inr (.inr (loadK rfl (O.at (.tail _ (.tail _ (.tail _ (.head _))))) rfl rfl)),?_⟩|refine⟨.inr (.inl (by kernel_rfl)),?_⟩
   ((conv=>whnf);repeat(first|apply Cs|apply Hs|apply Hx);conv=>whnf)
   refine fnG hM Tryz.func91 rfl (hP _ _ rfl Tryz.func91) (lbE rfl) ?_;(conv=>whnf);repeat(first|apply Cs|apply Hs|apply Hx);conv=>whnf
   refine lenG (enc:=n8) (l:=v25) rfl rfl ?_;(conv=>whnf);repeat(first|apply Hs|apply Hx);conv=>whnf
   refine lenG (enc:=n8) (l:=v25) rfl rfl ?_;(conv=>whnf);repeat(first|apply Hs|apply Hx);conv=>whnf
   refine clipK (s:=1) (enc:=n8) (l:=v25) (n:=v25.length) (m:=v25.length) rfl rfl rfl rfl rfl rfl rfl ?_;(conv=>whnf);repeat(first|apply Cs|apply Hs|apply Hx);conv=>whnf
   refine⟨.inl (Ext.refl _),?_⟩;(conv=>whnf);repeat(first|apply Hs|apply Hx);conv=>whnf
   refine O.store (n:=2) (cs':=[(clipV a9 (v10.map n8)),(clipV a24 (v25.map n8))]) (.head _) rfl rfl rfl rfl (lbE rfl) rfl rfl fun h O=>?_;(conv=>whnf);repeat(first|apply Hs|apply Hx);conv=>whnf
   refine⟨.inl rfl,?_⟩;(conv=>whnf);repeat(first|apply Hs|apply Hx);conv=>whnf
   apply Cs;(conv=>whnf);repeat(first|apply Cs|apply Hs|apply Hx);conv=>whnf
   refine⟨_,resAggK rfl rfl (O.at (.head _)) rfl rfl (lbE rfl) rfl,?_⟩;conv=>whnf
   exact⟨(⟨v10,v25⟩:Rsp),hm,O.ext,fun h2 F=>VLe.agg (LLe.cons (O.clipL F (Nat.le_refl _) (.tail _ (.tail _ (.tail _ (.tail _ (.head _))))) ha26 (fun _=>rfl)) (LLe.cons (O.clipL F (Nat.le_refl _) (.tail _ (.tail _ (.tail _ (.tail _ (.tail _ (.head _)))))) ha27 (fun _=>rfl)) (LLe.nil _)))⟩
def sims_fits_wp (p0:Circ) (p1:Pat) (K:Nat→Prop):Prop :=
 joinW (α:=Bool) (fun k2=>((ltN 0 p0.mems.length)=true→k2 true)∧((ltN 0 p0.mems.length)=false→netlists_Of_wp p0 ([15]:(List Nat)) (fun r3=>k2 (ltN 0 r3.length)))) (fun v1=>(v1=true→K 7)∧(v1=false→joinW (α:=Bool) (fun k5=>netlists_Inputs_wp p0 (fun r6=>((neN p1.inp.length r6.length)=true→k5 true)∧((neN p1.inp.length r6.length)=false→netlists_States_wp p0 (fun r7=>k5 (neN p1.state.length r7.length))))) (fun v4=>(v4=true→K 8)∧(v4=false→joinW (α:=Bool) (fun k9=>cf_simsAbove_wp p1.inp (fun r10=>(r10=true→k9 true)∧(r10=false→cf_simsAbove_wp p1.state (fun r11=>k9 r11)))) (fun v8=>(v8=true→K 1)∧(v8=false→K 0))))))
theorem sims_fits_walk {p0:Circ}{p1:Pat}{K:Nat→Prop} (hm:sims_fits_wp p0 p1 K) {h0:Heap} (hB:HasB vars h0):∃ r,K r∧CallD Tryz.prog NG 49 ⟨[encCirc p0,encPat p1]⟩ h0 (i64 r) h0:=by
 unfold sims_fits_wp at hm
 refine fnW hM Tryz.func49 rfl (hP _ _ rfl Tryz.func49) (lbE rfl) hB (enc:=i64) (fun r=>PureV.flat rfl) fun O=>?_;conv=>whnf
 apply Cs;(conv=>whnf);repeat(first|apply Cs|apply Hs|apply Hx);conv=>whnf
 refine NewG.frz rfl ?_;(conv=>whnf);repeat(first|apply Hs|apply Hx);conv=>whnf
 refine NewG.frz rfl ?_;(conv=>whnf);repeat(first|apply Hs|apply Hx);conv=>whnf
 apply Cs;conv=>whnf
 apply Cs;conv=>whnf
 refine CodeS.joinWS hm (nn:=43) (σ:=Bool×Unit) (fun s=>s.1) (fun (v1,_) h=>Own vars h0 [] h∧True) (fun (v1,_)=>[(2,(FP (encCirc p0))),(3,(FP (encPat p1))),(5,(.bool v1))]) rfl (fun hm'=>?_) ?_
 ·replace hm:=hm'
  apply Cs;(conv=>whnf);repeat(first|apply Cs|apply Hs|apply Hx);conv=>whnf
  refine⟨_,(rfl:aread _ _ _ _=some _),?_⟩;(conv=>whnf);repeat(first|apply Hs|apply Hx);conv=>whnf
  refine lenM (s:=3) (enc:=encMem) (l:=p0.mems) rfl rfl ?_;(conv=>whnf);repeat(first|apply Hs|apply Hx);conv=>whnf
  refine⟨_,rfl,fun hc=>?_,fun hc=>?_⟩
  ·replace hm:=hm.1 hc;(conv=>whnf);repeat(first|apply Hs|apply Hx);conv=>whnf
   exact⟨(true,()),hm,⟨O,trivial⟩,VLe.refl _ _,VLe.refl _ _,VLe.refl _ _,trivial⟩
  ·replace hm:=hm.2 hc;(conv=>whnf);repeat(first|apply Hs|apply Hx);conv=>whnf
   refine⟨_,(rfl:aread _ _ _ _=some _),?_⟩;(conv=>whnf);repeat(first|apply Hs|apply Hx);conv=>whnf
   refine NewG.frz rfl ?_;(conv=>whnf);repeat(first|apply Hs|apply Hx);conv=>whnf
   obtain⟨r3,hm,hcall⟩:=netlists_Of_walk hm O.has
   refine⟨_,_,hcall,?_⟩;(conv=>whnf);repeat(first|apply Hs|apply Hx);conv=>whnf
   refine lenM (s:=1) (enc:=i64) (l:=r3) rfl rfl ?_;(conv=>whnf);repeat(first|apply Hs|apply Hx);conv=>whnf
   exact⟨((ltN 0 r3.length),()),hm,⟨O,trivial⟩,VLe.refl _ _,VLe.refl _ _,VLe.refl _ _,trivial⟩
 ·clear hm;rintro⟨v1,_⟩ base h hm ⟨O,_⟩
  ((conv=>whnf);repeat(first|apply Cs|apply Hs|apply Hx);conv=>whnf)
  refine⟨_,rfl,fun hc=>?_,fun hc=>?_⟩
  ·replace hm:=hm.1 hc
   apply Cs;(conv=>whnf);repeat(first|apply Cs|apply Hs|apply Hx);conv=>whnf
   exact⟨7,hm,O.ext,fun h2 F=>VLe.refl _ _⟩
  ·replace hm:=hm.2 hc
   refine CodeS.joinWS hm (nn:=43) (σ:=Bool×Unit) (fun s=>s.1) (fun (v4,_) h=>Own vars h0 [] h∧True) (fun (v4,_)=>[(3,(FP (encPat p1))),(17,(.bool v4))]) rfl (fun hm'=>?_) ?_
   ·replace hm:=hm'
    apply Cs;(conv=>whnf);repeat(first|apply Cs|apply Hs|apply Hx);conv=>whnf
    refine⟨_,(rfl:aread _ _ _ _=some _),?_⟩;(conv=>whnf);repeat(first|apply Hs|apply Hx);conv=>whnf
    first|refine⟨.inr (.inr (rfl)),?_⟩|refine⟨.inr (.inl (by kernel_rfl)),?_⟩
    ((conv=>whnf);repeat(first|apply Cs|apply Hs|apply Hx);conv=>whnf)
    refine lenM (s:=1) (enc:=n8) (l:=p1.inp) rfl rfl ?_;(conv=>whnf);repeat(first|apply Hs|apply Hx);conv=>whnf
    refine⟨_,(rfl:aread _ _ _ _=some _),?_⟩;(conv=>whnf);repeat(first|apply Hs|apply Hx);conv=>whnf
    first|refine⟨.inr (.inr (rfl)),?_⟩|refine⟨.inr (.inl (by kernel_rfl)),?_⟩
    ((conv=>whnf);repeat(first|apply Cs|apply Hs|apply Hx);conv=>whnf)
    obtain⟨r6,hm,hcall⟩:=netlists_Inputs_walk hm O.has
    refine⟨_,_,hcall,?_⟩;(conv=>whnf);repeat(first|apply Hs|apply Hx);conv=>whnf
    refine⟨.inl (Ext.refl _),?_⟩;(conv=>whnf);repeat(first|apply Hs|apply Hx);conv=>whnf
    refine lenM (s:=1) (enc:=i64) (l:=r6) rfl rfl ?_;(conv=>whnf);repeat(first|apply Hs|apply Hx);conv=>whnf
    refine⟨_,rfl,fun hc=>?_,fun hc=>?_⟩
    ·replace hm:=hm.1 hc;(conv=>whnf);repeat(first|apply Hs|apply Hx);conv=>whnf
     exact⟨(true,()),hm,⟨O,trivial⟩,VLe.refl _ _,VLe.refl _ _,trivial⟩
    ·replace hm:=hm.2 hc;(conv=>whnf);repeat(first|apply Hs|apply Hx);conv=>whnf
     refine⟨_,(rfl:aread _ _ _ _=some _),?_⟩;(conv=>whnf);repeat(first|apply Hs|apply Hx);conv=>whnf
     first|refine⟨.inr (.inr (rfl)),?_⟩|refine⟨.inr (.inl (by kernel_rfl)),?_⟩
     ((conv=>whnf);repeat(first|apply Cs|apply Hs|apply Hx);conv=>whnf)
     refine lenM (s:=1) (enc:=n8) (l:=p1.state) rfl rfl ?_;(conv=>whnf);repeat(first|apply Hs|apply Hx);conv=>whnf
     refine⟨_,(rfl:aread _ _ _ _=some _),?_⟩;(conv=>whnf);repeat(first|apply Hs|apply Hx);conv=>whnf
     first|refine⟨.inr (.inr (rfl)),?_⟩|refine⟨.inr (.inl (by kernel_rfl)),?_⟩
     ((conv=>whnf);repeat(first|apply Cs|apply Hs|apply Hx);conv=>whnf)
     obtain⟨r7,hm,hcall⟩:=netlists_States_walk hm O.has
     refine⟨_,_,hcall,?_⟩;(conv=>whnf);repeat(first|apply Hs|apply Hx);conv=>whnf
     refine⟨.inl (Ext.refl _),?_⟩;(conv=>whnf);repeat(first|apply Hs|apply Hx);conv=>whnf
     refine lenM (s:=1) (enc:=i64) (l:=r7) rfl rfl ?_;(conv=>whnf);repeat(first|apply Hs|apply Hx);conv=>whnf
     exact⟨((neN p1.state.length r7.length),()),hm,⟨O,trivial⟩,VLe.refl _ _,VLe.refl _ _,trivial⟩
   ·clear hm;rintro⟨v4,_⟩ base h hm ⟨O,_⟩
    ((conv=>whnf);repeat(first|apply Cs|apply Hs|apply Hx);conv=>whnf)
    refine⟨_,rfl,fun hc=>?_,fun hc=>?_⟩
    ·replace hm:=hm.1 hc
     apply Cs;(conv=>whnf);repeat(first|apply Cs|apply Hs|apply Hx);conv=>whnf
     exact⟨8,hm,O.ext,fun h2 F=>VLe.refl _ _⟩
    ·replace hm:=hm.2 hc
     refine CodeS.joinWS hm (nn:=43) (σ:=Bool×Unit) (fun s=>s.1) (fun (v8,_) h=>Own vars h0 [] h∧True) (fun (v8,_)=>[(34,(.bool v8))]) rfl (fun hm'=>?_) ?_
     ·replace hm:=hm'
      apply Cs;(conv=>whnf);repeat(first|apply Cs|apply Hs|apply Hx);conv=>whnf
      refine⟨_,(rfl:aread _ _ _ _=some _),?_⟩;(conv=>whnf);repeat(first|apply Hs|apply Hx);conv=>whnf
      obtain⟨r10,hm,hcall⟩:=cf_simsAbove_walk hm O.has
      refine⟨_,_,hcall,?_⟩;(conv=>whnf);repeat(first|apply Hs|apply Hx);conv=>whnf
      refine⟨_,rfl,fun hc=>?_,fun hc=>?_⟩
      ·replace hm:=hm.1 hc;(conv=>whnf);repeat(first|apply Hs|apply Hx);conv=>whnf
       exact⟨(true,()),hm,⟨O,trivial⟩,VLe.refl _ _,trivial⟩
      ·replace hm:=hm.2 hc;(conv=>whnf);repeat(first|apply Hs|apply Hx);conv=>whnf
       refine⟨_,(rfl:aread _ _ _ _=some _),?_⟩;(conv=>whnf);repeat(first|apply Hs|apply Hx);conv=>whnf
       obtain⟨r11,hm,hcall⟩:=cf_simsAbove_walk hm O.has
       refine⟨_,_,hcall,?_⟩;(conv=>whnf);repeat(first|apply Hs|apply Hx);conv=>whnf
       exact⟨(r11,()),hm,⟨O,trivial⟩,VLe.refl _ _,trivial⟩
     ·clear hm;rintro⟨v8,_⟩ base h hm ⟨O,_⟩
      ((conv=>whnf);repeat(first|apply Cs|apply Hs|apply Hx);conv=>whnf)
      refine⟨_,rfl,fun hc=>?_,fun hc=>?_⟩
      ·replace hm:=hm.1 hc
       apply Cs;(conv=>whnf);repeat(first|apply Cs|apply Hs|apply Hx);conv=>whnf
       exact⟨1,hm,O.ext,fun h2 F=>VLe.refl _ _⟩
      ·replace hm:=hm.2 hc
       apply Cs;(conv=>whnf);repeat(first|apply Cs|apply Hs|apply Hx);conv=>whnf
       exact⟨0,hm,O.ext,fun h2 F=>VLe.refl _ _⟩
def sims_Run_wp (p0:Circ) (p1:Pat) (K:(Rsp×(List Nat)×Nat)→Prop):Prop :=
 netlists_Order_wp p0 (fun r5=>joinW (α:=Nat) (fun k7=>((eqN r5.2 0)=true→sims_fits_wp p0 p1 (fun r8=>k7 r8))∧((eqN r5.2 0)=false→k7 r5.2)) (fun v6=>((neN v6 0)=true→K ((⟨[],[]⟩:Rsp),[],v6))∧((neN v6 0)=false→1*p0.nodes.length≤2 ^ 48∧p0.nodes.length<2 ^ 63∧joinW (α:=(List Nat)) (fun k21=>netlists_Inputs_wp p0 (fun r22=>loopW (S:=((List Nat)×Nat)) (fun (v23,v24) nx25=>((ltN v24 r22.length)=true→∃ x26,r22[v24]?=some x26∧∃ x27,p1.inp[v24]?=some x27∧x26<p0.nodes.length∧∃ x28,v23[x26]?=some x28∧v24+1<2 ^ 63∧nx25 ((v23.set x26 x27),(v24+1)))∧((ltN v24 r22.length)=false→k21 v23)) ((List.replicate p0.nodes.length (0:Nat)),0))) (fun v20=>netlists_States_wp p0 (fun r29=>loopW (S:=((List Nat)×Nat)) (fun (v30,v31) nx32=>((ltN v31 r29.length)=true→∃ x33,r29[v31]?=some x33∧∃ x34,p1.state[v31]?=some x34∧x33<p0.nodes.length∧∃ x35,v30[x33]?=some x35∧v31+1<2 ^ 63∧nx32 ((v30.set x33 x34),(v31+1)))∧((ltN v31 r29.length)=false→joinW (α:=(List Nat)) (fun k39=>loopW (S:=((List Nat)×(List Nat)×Nat×Nat)) (fun (v40,v41,v42,v43) nx44=>((ltN v43 r5.1.length)=true→joinW (α:=((List Nat)×(List Nat)×Nat)) (fun k48=>∃ x49,r5.1[v43]?=some x49∧∃ x50,p0.nodes[x49]?=some x50∧netlists_Comb_wp x50.kind (fun r54=>((!r54)=true→k48 (v40,v41,v42))∧((!r54)=false→0≤16∧joinW (α:=((List Nat)×Nat)) (fun k57=>loopW (S:=((List Nat)×Nat×Nat)) (fun (v58,v59,v60) nx61=>((ltN v60 x50.ins.length)=true→∃ x62,x50.ins[v60]?=some x62∧x62<p0.nodes.length∧∃ x63,v40[x62]?=some x63∧(v59+1)≤16∧(v59+1)≤v58.length∧v60+1<2 ^ 63∧nx61 ((v58.take v59++(([x63]:(List Nat))++v58.drop (v59+1))),(v59+1),(v60+1)))∧((ltN v60 x50.ins.length)=false→k57 (v58,v59))) (v41,0,0)) (fun (v55,v56)=>v56≤v55.length∧logic_Eval_wp x50.kind (v55.take v56) (fun r64=>x49<p0.nodes.length∧∃ x66,v40[x49]?=some x66∧k48 ((v40.set x49 r64),v55,v56)))))) (fun (v45,v46,v47)=>v43+1<2 ^ 63∧nx44 (v45,v46,v47,(v43+1))))∧((ltN v43 r5.1.length)=false→k39 v40)) (v30,(List.replicate 16 (0:Nat)),0,0)) (fun v38=>p0.nodes.length=v38.length∧run_observe_wp (⟨p0,v38⟩:SRun) (fun r68=>K (r68,v38,0))))) (v20,0))))))
theorem sims_Run_walk {p0:Circ}{p1:Pat}{K:(Rsp×(List Nat)×Nat)→Prop} (hm:sims_Run_wp p0 p1 K) {h0:Heap} (hB:HasB vars h0):∃ r,K r∧CallD Tryz.prog NG 19 ⟨[encCirc p0,encPat p1]⟩ h0 ((fun (r:(Rsp×(List Nat)×Nat))=>Value.tuple ⟨[encRsp (r.1),(encL 1 n8) (r.2.1),i64 (r.2.2)]⟩) r) h0:=by
 unfold sims_Run_wp at hm
 refine fnW hM Tryz.func19 rfl (hP _ _ rfl Tryz.func19) (lbE rfl) hB (enc:=(fun (r:(Rsp×(List Nat)×Nat))=>Value.tuple ⟨[encRsp (r.1),(encL 1 n8) (r.2.1),i64 (r.2.2)]⟩)) (fun r=>PureV.tup (AllPure.cons (pure_rsp _) (AllPure.cons (pureL (fun _=>AllPure.cons (PureV.flat rfl) AllPure.nil)) (AllPure.cons (PureV.flat rfl) (AllPure.nil))))) fun O=>?_;conv=>whnf
 apply Cs;(conv=>whnf);repeat(first|apply Cs|apply Hs|apply Hx|apply Hf);conv=>whnf
 refine NewG.frz rfl ?_;(conv=>whnf);repeat(first|apply Hs|apply Hx|apply Hf);conv=>whnf
 refine NewG.frz rfl ?_;(conv=>whnf);repeat(first|apply Hs|apply Hx|apply Hf);conv=>whnf
 have O:=O.addNil (.cells (flatC ((([]:List Nat)).map n8)) false)
 have O:=O.addNil (.cells (flatC ((([]:List Nat)).map n8)) false)
 refine O.new (anew_alloc (l:=[(.slice none 0 0),(.slice none 0 0)]) rfl rfl rfl) fun g1 h O=>?_;(conv=>whnf);repeat(first|apply Hs|apply Hx);conv=>whnf
 apply Cs;(conv=>whnf);repeat(first|apply Cs|apply Hs|apply Hx|apply Hf);conv=>whnf
 refine⟨_,(rfl:aread _ _ _ _=some _),?_⟩;(conv=>whnf);repeat(first|apply Hs|apply Hx|apply Hf);conv=>whnf
 obtain⟨r5,hm,hcall⟩:=netlists_Order_walk hm O.has
 refine⟨_,_,hcall,?_⟩;(conv=>whnf);repeat(first|apply Hs|apply Hx|apply Hf);conv=>whnf
 refine CodeS.joinWS hm (nn:=87) (σ:=Nat×Unit) (fun s=>s.1) (fun (v6,_) h=>Own vars h0 [((some g1),.cells [(growV 1 none (([]:List Nat).map n8)),(growV 1 none (([]:List Nat).map n8))] false),(none,.cells (flatC (([]:List Nat).map n8)) false),(none,.cells (flatC (([]:List Nat).map n8)) false)] h∧True) (fun (v6,_)=>[(2,(FP (encCirc p0))),(3,(FP (encPat p1))),(4,(.pointer (some ⟨g1,0,none⟩))),(7,((encL 1 i64) r5.1)),(8,(i64 v6))]) rfl (fun hm'=>?_) ?_
 ·replace hm:=hm'
  apply Cs;(conv=>whnf);repeat(first|apply Cs|apply Hs|apply Hx|apply Hf);conv=>whnf
  refine⟨_,rfl,fun hc=>?_,fun hc=>?_⟩
  ·replace hm:=hm.1 hc
   apply Cs;(conv=>whnf);repeat(first|apply Cs|apply Hs|apply Hx|apply Hf);conv=>whnf
   refine⟨_,(rfl:aread _ _ _ _=some _),?_⟩;(conv=>whnf);repeat(first|apply Hs|apply Hx|apply Hf);conv=>whnf
   refine⟨_,(rfl:aread _ _ _ _=some _),?_⟩;(conv=>whnf);repeat(first|apply Hs|apply Hx|apply Hf);conv=>whnf
   obtain⟨r8,hm,hcall⟩:=sims_fits_walk hm O.has
   refine⟨_,_,hcall,?_⟩;(conv=>whnf);repeat(first|apply Hs|apply Hx|apply Hf);conv=>whnf
   exact⟨(r8,()),hm,⟨(O.sel [0,2,1] (by decide)),trivial⟩,VLe.refl _ _,VLe.refl _ _,VLe.refl _ _,VLe.refl _ _,VLe.refl _ _,trivial⟩
  ·replace hm:=hm.2 hc
   apply Cs;(conv=>whnf);repeat(first|apply Cs|apply Hs|apply Hx|apply Hf);conv=>whnf
   exact⟨(r5.2,()),hm,⟨(O.sel [0,2,1] (by decide)),trivial⟩,VLe.refl _ _,VLe.refl _ _,VLe.refl _ _,VLe.refl _ _,VLe.refl _ _,trivial⟩
 ·clear hm;rintro⟨v6,_⟩ base h hm ⟨O,_⟩
  ((conv=>whnf);repeat(first|apply Cs|apply Hs|apply Hx|apply Hf);conv=>whnf)
  refine⟨_,rfl,fun hc=>?_,fun hc=>?_⟩
  ·replace hm:=hm.1 hc
   apply Cs;(conv=>whnf);repeat(first|apply Cs|apply Hs|apply Hx|apply Hf);conv=>whnf
   refine O.store (n:=2) (cs':=[(.slice none 0 0),(.slice none 0 0)]) (.head _) rfl rfl rfl rfl (lbE rfl) rfl rfl fun h O=>?_;(conv=>whnf);repeat(first|apply Cs|apply Hs|apply Hx|apply Hf);conv=>whnf
   refine⟨_,resAggK rfl rfl (O.at (.head _)) rfl rfl (lbE rfl) rfl,?_⟩;conv=>whnf
   exact⟨((⟨[],[]⟩:Rsp),[],v6),hm,O.ext,fun h2 F=>VLe.tup (LLe.cons (VLe.agg (LLe.cons (VLe.nil _ _) (LLe.cons (VLe.nil _ _) (LLe.nil _)))) (LLe.cons (VLe.nil _ _) (LLe.cons (VLe.refl _ _) (LLe.nil _))))⟩
  ·replace hm:=hm.2 hc
   apply Cs;(conv=>whnf);repeat(first|apply Cs|apply Hs|apply Hx|apply Hf);conv=>whnf
   refine⟨_,(rfl:aread _ _ _ _=some _),?_⟩;(conv=>whnf);repeat(first|apply Hs|apply Hx|apply Hf);conv=>whnf
   first|refine⟨.inr (.inr (rfl)),?_⟩|refine⟨.inr (.inl (by kernel_rfl)),?_⟩
   ((conv=>whnf);repeat(first|apply Cs|apply Hs|apply Hx|apply Hf);conv=>whnf)
   refine⟨_,(rfl:aread _ _ _ _=some _),?_⟩;(conv=>whnf);repeat(first|apply Hs|apply Hx|apply Hf);conv=>whnf
   first|refine⟨.inr (.inr (rfl)),?_⟩|refine⟨.inr (.inl (by kernel_rfl)),?_⟩
   ((conv=>whnf);repeat(first|apply Cs|apply Hs|apply Hx|apply Hf);conv=>whnf)
   refine lenM (s:=4) (enc:=encNode) (l:=p0.nodes) rfl rfl ?_;(conv=>whnf);repeat(first|apply Hs|apply Hx|apply Hf);conv=>whnf
   refine O.makeLX (enc:=n8) (z:=0) (b:=1) (s:=1) (n:=p0.nodes.length) rfl rfl rfl rfl rfl (by decide) (by kernel_rfl) rfl rfl hm.1 hm.2.1 fun g9 h O=>?_;(conv=>whnf);repeat(first|apply Hs|apply Hx|apply Hf);conv=>whnf
   replace hm:=hm.2.2
   have O:=O.addNil (.cells (flatC ((([]:List Node)).map encNode)) false)
   have O:=O.addNil (.cells (flatC ((([]:List ByteArray)).map Value.string)) false)
   have O:=O.addNil (.cells (flatC ((([]:List Memo)).map encMem)) false)
   have O:=O.addNil (.cells (flatC ((([]:List Nat)).map i64)) false)
   have O:=O.addNil (.cells (flatC ((([]:List Nat)).map n8)) false)
   refine O.newX (anew_alloc (l:=[(.slice none 0 0),(.slice none 0 0),(.slice none 0 0),(.slice none 0 0),(.slice none 0 0)]) rfl rfl rfl) fun g11 h O=>?_;(conv=>whnf);repeat(first|apply Hs|apply Hx);conv=>whnf
   refine O.store (n:=5) (cs':=[((encL 4 encNode) p0.nodes),((encL 1 Value.string) p0.names),((encL 3 encMem) p0.mems),((encL 1 i64) p0.outs),(.slice (some ⟨g9,0,none⟩) p0.nodes.length p0.nodes.length)]) (.head _) rfl rfl rfl rfl (lbE rfl) rfl rfl fun h O=>?_;(conv=>whnf);repeat(first|apply Hs|apply Hx|apply Hf);conv=>whnf
   refine⟨.inl rfl,?_⟩;(conv=>whnf);repeat(first|apply Hs|apply Hx);conv=>whnf
   apply Cs;(conv=>whnf);repeat(first|apply Cs|apply Hs|apply Hx|apply Hf);conv=>whnf
   refine⟨_,loadAggK rfl (O.at (.head _)) rfl rfl (lbE rfl) rfl,?_⟩;(conv=>whnf);repeat(first|apply Hs|apply Hx|apply Hf);conv=>whnf
   refine⟨_,(rfl:aread _ _ _ _=some _),?_⟩;(conv=>whnf);repeat(first|apply Hs|apply Hx|apply Hf);conv=>whnf
   refine fnG hM Tryz.func50 rfl (hP _ _ rfl Tryz.func50) (lbE rfl) ?_;(conv=>whnf);repeat(first|apply Cs|apply Hs|apply Hx|apply Hf);conv=>whnf
   refine O.new (boxK rfl) fun g18 h O=>?_;(conv=>whnf);repeat(first|apply Hs|apply Hx);conv=>whnf
   refine NewG.frz rfl ?_;(conv=>whnf);repeat(first|apply Hs|apply Hx|apply Hf);conv=>whnf
   refine CodeS.joinWS hm (nn:=46) (σ:=(List Nat)×Unit) (fun s=>s.1) (fun (v20,_) h=>Own vars h0 [((some g18),.cells [((encL 4 encNode) p0.nodes),((encL 1 Value.string) p0.names),((encL 3 encMem) p0.mems),((encL 1 i64) p0.outs),(.slice (some ⟨g9,0,none⟩) p0.nodes.length p0.nodes.length)] false),((some g9),.cells (flatC (v20.map n8)) false),((some g1),.cells [(growV 1 none (([]:List Nat).map n8)),(growV 1 none (([]:List Nat).map n8))] false),(none,.cells (flatC (([]:List Nat).map n8)) false),(none,.cells (flatC (([]:List Nat).map n8)) false),((some g11),.cells [((encL 4 encNode) p0.nodes),((encL 1 Value.string) p0.names),((encL 3 encMem) p0.mems),((encL 1 i64) p0.outs),(.slice (some ⟨g9,0,none⟩) p0.nodes.length p0.nodes.length)] false)] h∧True) (fun (v20,_)=>[(2,(.pointer (some ⟨g18,0,none⟩))),(3,(FP (encPat p1)))]) rfl (fun hm'=>?_) ?_
   ·replace hm:=hm'
    apply Cs;(conv=>whnf);repeat(first|apply Cs|apply Hs|apply Hx|apply Hf);conv=>whnf
    refine⟨_,loadAggK rfl (O.at (.head _)) rfl rfl (lbE rfl) rfl,?_⟩;(conv=>whnf);repeat(first|apply Hs|apply Hx|apply Hf);conv=>whnf
    obtain⟨r22,hm,hcall⟩:=netlists_Inputs_walk hm O.has
    refine⟨_,_,hcall,?_⟩;(conv=>whnf);repeat(first|apply Hs|apply Hx|apply Hf);conv=>whnf
    refine lenM (s:=1) (enc:=i64) (l:=r22) rfl rfl ?_;(conv=>whnf);repeat(first|apply Cs|apply Hs|apply Hx|apply Hf);conv=>whnf
    refine loopWK hM (by kernel_rfl) (nn:=46) (S:=((List Nat)×Nat)) (σ:=((List Nat)×Nat)×Unit) (fun s=>s.1) (fun ((v23,v24),_) h=>Own vars h0 [((some g18),.cells [((encL 4 encNode) p0.nodes),((encL 1 Value.string) p0.names),((encL 3 encMem) p0.mems),((encL 1 i64) p0.outs),(.slice (some ⟨g9,0,none⟩) p0.nodes.length p0.nodes.length)] false),((some g9),.cells (flatC (v23.map n8)) false),((some g1),.cells [(growV 1 none (([]:List Nat).map n8)),(growV 1 none (([]:List Nat).map n8))] false),(none,.cells (flatC (([]:List Nat).map n8)) false),(none,.cells (flatC (([]:List Nat).map n8)) false),((some g11),.cells [((encL 4 encNode) p0.nodes),((encL 1 Value.string) p0.names),((encL 3 encMem) p0.mems),((encL 1 i64) p0.outs),(.slice (some ⟨g9,0,none⟩) p0.nodes.length p0.nodes.length)] false)] h∧True) (fun ((v23,v24),_)=>[(2,(.pointer (some ⟨g18,0,none⟩))),(3,(FP (encPat p1))),(10,((encL 1 i64) r22)),(11,(i64 r22.length)),(12,(i64 v24))]) rfl (((List.replicate p0.nodes.length (0:Nat)),0),()) hm ⟨(O.sel [0,7,8,9,10,1] (by decide)),trivial⟩ ⟨VLe.refl _ _,VLe.refl _ _,VLe.refl _ _,VLe.refl _ _,VLe.refl _ _,trivial⟩ ?_
    clear hm;rintro⟨⟨v23,v24⟩,_⟩ nx25 base h hm ⟨O,_⟩
    ((conv=>whnf);repeat(first|apply Cs|apply Hs|apply Hx|apply Hf);conv=>whnf)
    refine⟨_,rfl,fun hc=>?_,fun hc=>?_⟩
    ·replace hm:=hm.1 hc
     apply Cs;(conv=>whnf);repeat(first|apply Cs|apply Hs|apply Hx|apply Hf);conv=>whnf
     obtain⟨x26,hx26,hm⟩:=hm
     refine flAtM (s:=1) (enc:=i64) (j:=v24) rfl rfl rfl rfl hx26 ?_;(conv=>whnf);repeat(first|apply Hs|apply Hx|apply Hf);conv=>whnf
     refine⟨_,(rfl:aread _ _ _ _=some _),?_⟩;(conv=>whnf);repeat(first|apply Cs|apply Hs|apply Hx|apply Hf);conv=>whnf
     refine⟨_,loadK rfl (O.at (.head _)) rfl rfl,?_⟩;(conv=>whnf);repeat(first|apply Hs|apply Hx|apply Hf);conv=>whnf
     first|refine⟨.inr (.inr (loadK rfl (O.at (.head _)) rfl rfl)),?_⟩|refine⟨.inr (.inl (by kernel_rfl)),?_⟩
     ((conv=>whnf);repeat(first|apply Cs|apply Hs|apply Hx|apply Hf);conv=>whnf)
     refine⟨_,(rfl:aread _ _ _ _=some _),?_⟩;(conv=>whnf);repeat(first|apply Hs|apply Hx|apply Hf);conv=>whnf
     first|refine⟨.inr (.inr (rfl)),?_⟩|refine⟨.inr (.inl (by kernel_rfl)),?_⟩
     ((conv=>whnf);repeat(first|apply Cs|apply Hs|apply Hx|apply Hf);conv=>whnf)
     obtain⟨x27,hx27,hm⟩:=hm
     refine flAtM (s:=1) (enc:=n8) (j:=v24) rfl rfl rfl rfl hx27 ?_;(conv=>whnf);repeat(first|apply Hs|apply Hx|apply Hf);conv=>whnf
     refine⟨_,(rfl:aread _ _ _ _=some _),?_⟩;(conv=>whnf);repeat(first|apply Hs|apply Hx|apply Hf);conv=>whnf
     refine⟨.inl rfl,?_⟩;(conv=>whnf);repeat(first|apply Hs|apply Hx|apply Hf);conv=>whnf
     obtain⟨hj,x28,hx28,hm⟩:=hm
     refine indexK (s:=1) (j:=x26) rfl rfl rfl rfl hj ?_;(conv=>whnf);repeat(first|apply Hs|apply Hx|apply Hf);conv=>whnf
     refine O.store (n:=1) (.tail _ (.head _)) rfl rfl rfl rfl (el_le (enc:=n8) (s:=1) (k:=0) (n:=1) (fun _=>rfl) (lt_of_get hx28) (lbE rfl)) rfl (splice_all (enc:=n8) (s:=1) (fun _=>rfl) (lt_of_get hx28) (x:=x27) rfl) fun h O=>?_;(conv=>whnf);repeat(first|apply Hs|apply Hx|apply Hf);conv=>whnf
     refine⟨.inl rfl,?_⟩;(conv=>whnf);repeat(first|apply Hs|apply Hx);conv=>whnf
     apply Cs;(conv=>whnf);repeat(first|apply Cs|apply Hs|apply Hx|apply Hf);conv=>whnf
     refine⟨_,addK (a:=v24) (b:=1) rfl rfl hm.1,?_⟩;(conv=>whnf);repeat(first|apply Hs|apply Hx|apply Hf);conv=>whnf
     replace hm:=hm.2
     exact⟨(((v23.set x26 x27),(v24+1)),()),hm,⟨O,trivial⟩,VLe.refl _ _,VLe.refl _ _,VLe.refl _ _,VLe.refl _ _,VLe.refl _ _,trivial⟩
    ·replace hm:=hm.2 hc
     apply Cs;(conv=>whnf);repeat(first|apply Cs|apply Hs|apply Hx|apply Hf);conv=>whnf
     exact⟨(v23,()),hm,⟨O,trivial⟩,VLe.refl _ _,VLe.refl _ _,trivial⟩
   ·clear hm;rintro⟨v20,_⟩ base h hm ⟨O,_⟩
    ((conv=>whnf);repeat(first|apply Cs|apply Hs|apply Hx|apply Hf);conv=>whnf)
    refine⟨_,loadAggK rfl (O.at (.head _)) rfl rfl (lbE rfl) rfl,?_⟩;(conv=>whnf);repeat(first|apply Hs|apply Hx|apply Hf);conv=>whnf
    obtain⟨r29,hm,hcall⟩:=netlists_States_walk hm O.has
    refine⟨_,_,hcall,?_⟩;(conv=>whnf);repeat(first|apply Hs|apply Hx|apply Hf);conv=>whnf
    refine lenM (s:=1) (enc:=i64) (l:=r29) rfl rfl ?_;(conv=>whnf);repeat(first|apply Cs|apply Hs|apply Hx|apply Hf);conv=>whnf
    refine loopWK hM (by kernel_rfl) (nn:=46) (S:=((List Nat)×Nat)) (σ:=((List Nat)×Nat)×Unit) (fun s=>s.1) (fun ((v30,v31),_) h=>Own vars h0 [((some g18),.cells [((encL 4 encNode) p0.nodes),((encL 1 Value.string) p0.names),((encL 3 encMem) p0.mems),((encL 1 i64) p0.outs),(.slice (some ⟨g9,0,none⟩) p0.nodes.length p0.nodes.length)] false),((some g9),.cells (flatC (v30.map n8)) false),((some g1),.cells [(growV 1 none (([]:List Nat).map n8)),(growV 1 none (([]:List Nat).map n8))] false),(none,.cells (flatC (([]:List Nat).map n8)) false),(none,.cells (flatC (([]:List Nat).map n8)) false),((some g11),.cells [((encL 4 encNode) p0.nodes),((encL 1 Value.string) p0.names),((encL 3 encMem) p0.mems),((encL 1 i64) p0.outs),(.slice (some ⟨g9,0,none⟩) p0.nodes.length p0.nodes.length)] false)] h∧True) (fun ((v30,v31),_)=>[(2,(.pointer (some ⟨g18,0,none⟩))),(3,(FP (encPat p1))),(29,((encL 1 i64) r29)),(30,(i64 r29.length)),(31,(i64 v31))]) rfl ((v20,0),()) hm ⟨O,trivial⟩ ⟨VLe.refl _ _,VLe.refl _ _,VLe.refl _ _,VLe.refl _ _,VLe.refl _ _,trivial⟩ ?_
    clear hm;rintro⟨⟨v30,v31⟩,_⟩ nx32 base h hm ⟨O,_⟩
    ((conv=>whnf);repeat(first|apply Cs|apply Hs|apply Hx|apply Hf);conv=>whnf)
    refine⟨_,rfl,fun hc=>?_,fun hc=>?_⟩
    ·replace hm:=hm.1 hc
     apply Cs;(conv=>whnf);repeat(first|apply Cs|apply Hs|apply Hx|apply Hf);conv=>whnf
     obtain⟨x33,hx33,hm⟩:=hm
     refine flAtM (s:=1) (enc:=i64) (j:=v31) rfl rfl rfl rfl hx33 ?_;(conv=>whnf);repeat(first|apply Hs|apply Hx|apply Hf);conv=>whnf
     refine⟨_,(rfl:aread _ _ _ _=some _),?_⟩;(conv=>whnf);repeat(first|apply Cs|apply Hs|apply Hx|apply Hf);conv=>whnf
     refine⟨_,loadK rfl (O.at (.head _)) rfl rfl,?_⟩;(conv=>whnf);repeat(first|apply Hs|apply Hx|apply Hf);conv=>whnf
     first|refine⟨.inr (.inr (loadK rfl (O.at (.head _)) rfl rfl)),?_⟩|refine⟨.inr (.inl (by kernel_rfl)),?_⟩
     ((conv=>whnf);repeat(first|apply Cs|apply Hs|apply Hx|apply Hf);conv=>whnf)
     refine⟨_,(rfl:aread _ _ _ _=some _),?_⟩;(conv=>whnf);repeat(first|apply Hs|apply Hx|apply Hf);conv=>whnf
     first|refine⟨.inr (.inr (rfl)),?_⟩|refine⟨.inr (.inl (by kernel_rfl)),?_⟩
     ((conv=>whnf);repeat(first|apply Cs|apply Hs|apply Hx|apply Hf);conv=>whnf)
     obtain⟨x34,hx34,hm⟩:=hm
     refine flAtM (s:=1) (enc:=n8) (j:=v31) rfl rfl rfl rfl hx34 ?_;(conv=>whnf);repeat(first|apply Hs|apply Hx|apply Hf);conv=>whnf
     refine⟨_,(rfl:aread _ _ _ _=some _),?_⟩;(conv=>whnf);repeat(first|apply Hs|apply Hx|apply Hf);conv=>whnf
     refine⟨.inl rfl,?_⟩;(conv=>whnf);repeat(first|apply Hs|apply Hx|apply Hf);conv=>whnf
     obtain⟨hj,x35,hx35,hm⟩:=hm
     refine indexK (s:=1) (j:=x33) rfl rfl rfl rfl hj ?_;(conv=>whnf);repeat(first|apply Hs|apply Hx|apply Hf);conv=>whnf
     refine O.store (n:=1) (.tail _ (.head _)) rfl rfl rfl rfl (el_le (enc:=n8) (s:=1) (k:=0) (n:=1) (fun _=>rfl) (lt_of_get hx35) (lbE rfl)) rfl (splice_all (enc:=n8) (s:=1) (fun _=>rfl) (lt_of_get hx35) (x:=x34) rfl) fun h O=>?_;(conv=>whnf);repeat(first|apply Hs|apply Hx|apply Hf);conv=>whnf
     refine⟨.inl rfl,?_⟩;(conv=>whnf);repeat(first|apply Hs|apply Hx);conv=>whnf
     apply Cs;(conv=>whnf);repeat(first|apply Cs|apply Hs|apply Hx|apply Hf);conv=>whnf
     refine⟨_,addK (a:=v31) (b:=1) rfl rfl hm.1,?_⟩;(conv=>whnf);repeat(first|apply Hs|apply Hx|apply Hf);conv=>whnf
     replace hm:=hm.2
     exact⟨(((v30.set x33 x34),(v31+1)),()),hm,⟨O,trivial⟩,VLe.refl _ _,VLe.refl _ _,VLe.refl _ _,VLe.refl _ _,VLe.refl _ _,trivial⟩
    ·replace hm:=hm.2 hc
     apply Cs;(conv=>whnf);repeat(first|apply Cs|apply Hs|apply Hx|apply Hf);conv=>whnf
     refine O.makeW (enc:=n8) (z:=0) (b:=1) (s:=1) (m:=0) (n:=16) rfl rfl rfl rfl rfl (by decide) (by kernel_rfl) rfl rfl (by decide) (by decide) (by decide) fun g36 h O=>?_;(conv=>whnf);repeat(first|apply Hs|apply Hx|apply Hf);conv=>whnf
     refine CodeS.joinWS hm (nn:=87) (σ:=(List Nat)×Unit) (fun s=>s.1) (fun (v38,_) h=>Own vars h0 [((some g1),.cells [(growV 1 none (([]:List Nat).map n8)),(growV 1 none (([]:List Nat).map n8))] false),(none,.cells (flatC (([]:List Nat).map n8)) false),(none,.cells (flatC (([]:List Nat).map n8)) false),((some g11),.cells [((encL 4 encNode) p0.nodes),((encL 1 Value.string) p0.names),((encL 3 encMem) p0.mems),((encL 1 i64) p0.outs),(.slice (some ⟨g9,0,none⟩) p0.nodes.length p0.nodes.length)] false),((some g9),.cells (flatC (v38.map n8)) false)] h∧True) (fun (v38,_)=>[(4,(.pointer (some ⟨g1,0,none⟩))),(9,(.pointer (some ⟨g11,0,none⟩)))]) rfl (fun hm'=>?_) ?_
     ·replace hm:=hm'
      apply Cs;(conv=>whnf);repeat(first|apply Cs|apply Hs|apply Hx|apply Hf);conv=>whnf
      refine lenM (s:=1) (enc:=i64) (l:=r5.1) rfl rfl ?_;(conv=>whnf);repeat(first|apply Cs|apply Hs|apply Hx|apply Hf);conv=>whnf
      refine loopWK hM (by kernel_rfl) (nn:=87) (S:=((List Nat)×(List Nat)×Nat×Nat)) (σ:=((List Nat)×(List Nat)×Nat×Nat)×Unit) (fun s=>s.1) (fun ((v40,v41,v42,v43),_) h=>Own vars h0 [((some g1),.cells [(growV 1 none (([]:List Nat).map n8)),(growV 1 none (([]:List Nat).map n8))] false),(none,.cells (flatC (([]:List Nat).map n8)) false),(none,.cells (flatC (([]:List Nat).map n8)) false),((some g11),.cells [((encL 4 encNode) p0.nodes),((encL 1 Value.string) p0.names),((encL 3 encMem) p0.mems),((encL 1 i64) p0.outs),(.slice (some ⟨g9,0,none⟩) p0.nodes.length p0.nodes.length)] false),((some g9),.cells (flatC (v40.map n8)) false),((some g36),.cells (flatC (v41.map n8)) false)] h∧True) (fun ((v40,v41,v42,v43),_)=>[(4,(.pointer (some ⟨g1,0,none⟩))),(9,(.pointer (some ⟨g11,0,none⟩))),(10,(.slice (some ⟨g36,0,none⟩) v42 16)),(40,((encL 1 i64) r5.1)),(41,(i64 r5.1.length)),(42,(i64 v43))]) rfl ((v30,(List.replicate 16 (0:Nat)),0,0),()) hm ⟨(O.sel [3,4,5,6,2,0] (by decide)),trivial⟩ ⟨VLe.refl _ _,VLe.refl _ _,VLe.refl _ _,VLe.refl _ _,VLe.refl _ _,VLe.refl _ _,trivial⟩ ?_
      clear hm;rintro⟨⟨v40,v41,v42,v43⟩,_⟩ nx44 base h hm ⟨O,_⟩
      ((conv=>whnf);repeat(first|apply Cs|apply Hs|apply Hx|apply Hf);conv=>whnf)
      refine⟨_,rfl,fun hc=>?_,fun hc=>?_⟩
      ·replace hm:=hm.1 hc
       apply Cs;conv=>whnf
       refine CodeS.joinWS hm (nn:=87) (σ:=((List Nat)×(List Nat)×Nat)×Unit) (fun s=>s.1) (fun ((v45,v46,v47),_) h=>Own vars h0 [((some g1),.cells [(growV 1 none (([]:List Nat).map n8)),(growV 1 none (([]:List Nat).map n8))] false),(none,.cells (flatC (([]:List Nat).map n8)) false),(none,.cells (flatC (([]:List Nat).map n8)) false),((some g11),.cells [((encL 4 encNode) p0.nodes),((encL 1 Value.string) p0.names),((encL 3 encMem) p0.mems),((encL 1 i64) p0.outs),(.slice (some ⟨g9,0,none⟩) p0.nodes.length p0.nodes.length)] false),((some g9),.cells (flatC (v45.map n8)) false),((some g36),.cells (flatC (v46.map n8)) false)] h∧True) (fun ((v45,v46,v47),_)=>[(4,(.pointer (some ⟨g1,0,none⟩))),(9,(.pointer (some ⟨g11,0,none⟩))),(10,(.slice (some ⟨g36,0,none⟩) v47 16)),(40,((encL 1 i64) r5.1)),(41,(i64 r5.1.length)),(42,(i64 v43))]) rfl (fun hm'=>?_) ?_
       ·replace hm:=hm'
        apply Cs;(conv=>whnf);repeat(first|apply Cs|apply Hs|apply Hx|apply Hf);conv=>whnf
        obtain⟨x49,hx49,hm⟩:=hm
        refine flAtM (s:=1) (enc:=i64) (j:=v43) rfl rfl rfl rfl hx49 ?_;(conv=>whnf);repeat(first|apply Hs|apply Hx|apply Hf);conv=>whnf
        refine⟨_,(rfl:aread _ _ _ _=some _),?_⟩;(conv=>whnf);repeat(first|apply Cs|apply Hs|apply Hx|apply Hf);conv=>whnf
        refine⟨_,loadK rfl (O.at (.tail _ (.tail _ (.tail _ (.head _))))) rfl rfl,?_⟩;(conv=>whnf);repeat(first|apply Hs|apply Hx|apply Hf);conv=>whnf
        obtain⟨x50,hx50,hm⟩:=hm
        refine flAtM (s:=4) (enc:=encNode) (j:=x49) rfl rfl rfl rfl hx50 ?_;(conv=>whnf);repeat(first|apply Hs|apply Hx|apply Hf);conv=>whnf
        refine⟨_,(rfl:aread _ _ _ _=some _),?_⟩;(conv=>whnf);repeat(first|apply Hs|apply Hx|apply Hf);conv=>whnf
        have O:=O.addNil (.cells (flatC ((([]:List Nat)).map i64)) false)
        refine O.new (anew_alloc (l:=[(n8 0),(.slice none 0 0),(i64 0),(i64 0)]) rfl rfl rfl) fun g51 h O=>?_;(conv=>whnf);repeat(first|apply Hs|apply Hx);conv=>whnf
        refine O.store (n:=4) (cs':=[(n8 x50.kind),((encL 1 i64) x50.ins),(i64 x50.mem),(i64 x50.bit)]) (.head _) rfl rfl rfl rfl (lbE rfl) rfl rfl fun h O=>?_;(conv=>whnf);repeat(first|apply Cs|apply Hs|apply Hx|apply Hf);conv=>whnf
        refine⟨_,loadK rfl (O.at (.head _)) rfl rfl,?_⟩;(conv=>whnf);repeat(first|apply Hs|apply Hx|apply Hf);conv=>whnf
        obtain⟨r54,hm,hcall⟩:=netlists_Comb_walk hm O.has
        refine⟨_,_,hcall,?_⟩;(conv=>whnf);repeat(first|apply Cs|apply Hs|apply Hx|apply Hf);conv=>whnf
        refine⟨_,rfl,fun hc=>?_,fun hc=>?_⟩
        ·replace hm:=hm.1 hc
         apply Cs;(conv=>whnf);repeat(first|apply Cs|apply Hs|apply Hx|apply Hf);conv=>whnf
         exact⟨((v40,v41,v42),()),hm,⟨(O.sel [2,3,4,5,6,7] (by decide)),trivial⟩,VLe.refl _ _,VLe.refl _ _,VLe.refl _ _,VLe.refl _ _,VLe.refl _ _,VLe.refl _ _,trivial⟩
        ·replace hm:=hm.2 hc
         apply Cs;(conv=>whnf);repeat(first|apply Cs|apply Hs|apply Hx|apply Hf);conv=>whnf
         refine winTo (s:=1) (m:=0) rfl rfl rfl rfl hm.1 ?_;(conv=>whnf);repeat(first|apply Hs|apply Hx|apply Hf);conv=>whnf
         replace hm:=hm.2
         refine CodeS.joinWS hm (nn:=87) (σ:=((List Nat)×Nat)×Unit) (fun s=>s.1) (fun ((v55,v56),_) h=>Own vars h0 [((some g1),.cells [(growV 1 none (([]:List Nat).map n8)),(growV 1 none (([]:List Nat).map n8))] false),(none,.cells (flatC (([]:List Nat).map n8)) false),(none,.cells (flatC (([]:List Nat).map n8)) false),((some g11),.cells [((encL 4 encNode) p0.nodes),((encL 1 Value.string) p0.names),((encL 3 encMem) p0.mems),((encL 1 i64) p0.outs),(.slice (some ⟨g9,0,none⟩) p0.nodes.length p0.nodes.length)] false),((some g9),.cells (flatC (v40.map n8)) false),((some g36),.cells (flatC (v55.map n8)) false),((some g51),.cells [(n8 x50.kind),((encL 1 i64) x50.ins),(i64 x50.mem),(i64 x50.bit)] false)] h∧True) (fun ((v55,v56),_)=>[(4,(.pointer (some ⟨g1,0,none⟩))),(9,(.pointer (some ⟨g11,0,none⟩))),(10,(.slice (some ⟨g36,0,none⟩) v56 16)),(12,(i64 x49)),(13,(.pointer (some ⟨g51,0,none⟩))),(40,((encL 1 i64) r5.1)),(41,(i64 r5.1.length)),(42,(i64 v43))]) rfl (fun hm'=>?_) ?_
         ·replace hm:=hm'
          apply Cs;(conv=>whnf);repeat(first|apply Cs|apply Hs|apply Hx|apply Hf);conv=>whnf
          refine⟨_,loadK rfl (O.at (.head _)) rfl rfl,?_⟩;(conv=>whnf);repeat(first|apply Hs|apply Hx|apply Hf);conv=>whnf
          refine lenM (s:=1) (enc:=i64) (l:=x50.ins) rfl rfl ?_;(conv=>whnf);repeat(first|apply Cs|apply Hs|apply Hx|apply Hf);conv=>whnf
          refine loopWK hM (by kernel_rfl) (nn:=87) (S:=((List Nat)×Nat×Nat)) (σ:=((List Nat)×Nat×Nat)×Unit) (fun s=>s.1) (fun ((v58,v59,v60),_) h=>Own vars h0 [((some g1),.cells [(growV 1 none (([]:List Nat).map n8)),(growV 1 none (([]:List Nat).map n8))] false),(none,.cells (flatC (([]:List Nat).map n8)) false),(none,.cells (flatC (([]:List Nat).map n8)) false),((some g11),.cells [((encL 4 encNode) p0.nodes),((encL 1 Value.string) p0.names),((encL 3 encMem) p0.mems),((encL 1 i64) p0.outs),(.slice (some ⟨g9,0,none⟩) p0.nodes.length p0.nodes.length)] false),((some g9),.cells (flatC (v40.map n8)) false),((some g36),.cells (flatC (v58.map n8)) false),((some g51),.cells [(n8 x50.kind),((encL 1 i64) x50.ins),(i64 x50.mem),(i64 x50.bit)] false)] h∧True) (fun ((v58,v59,v60),_)=>[(4,(.pointer (some ⟨g1,0,none⟩))),(9,(.pointer (some ⟨g11,0,none⟩))),(10,(.slice (some ⟨g36,0,none⟩) v59 16)),(12,(i64 x49)),(13,(.pointer (some ⟨g51,0,none⟩))),(40,((encL 1 i64) r5.1)),(41,(i64 r5.1.length)),(42,(i64 v43)),(59,((encL 1 i64) x50.ins)),(60,(i64 x50.ins.length)),(61,(i64 v60))]) rfl ((v41,0,0),()) hm ⟨(O.sel [2,3,4,5,6,7,0] (by decide)),trivial⟩ ⟨VLe.refl _ _,VLe.refl _ _,VLe.refl _ _,VLe.refl _ _,VLe.refl _ _,VLe.refl _ _,VLe.refl _ _,VLe.refl _ _,VLe.refl _ _,VLe.refl _ _,VLe.refl _ _,trivial⟩ ?_
          clear hm;rintro⟨⟨v58,v59,v60⟩,_⟩ nx61 base h hm ⟨O,_⟩
          ((conv=>whnf);repeat(first|apply Cs|apply Hs|apply Hx|apply Hf);conv=>whnf)
          refine⟨_,rfl,fun hc=>?_,fun hc=>?_⟩
          ·replace hm:=hm.1 hc
           apply Cs;(conv=>whnf);repeat(first|apply Cs|apply Hs|apply Hx|apply Hf);conv=>whnf
           obtain⟨x62,hx62,hm⟩:=hm
           refine flAtM (s:=1) (enc:=i64) (j:=v60) rfl rfl rfl rfl hx62 ?_;(conv=>whnf);repeat(first|apply Hs|apply Hx|apply Hf);conv=>whnf
           refine⟨_,(rfl:aread _ _ _ _=some _),?_⟩;(conv=>whnf);repeat(first|apply Cs|apply Hs|apply Hx|apply Hf);conv=>whnf
           refine⟨_,loadK rfl (O.at (.tail _ (.tail _ (.tail _ (.head _))))) rfl rfl,?_⟩;(conv=>whnf);repeat(first|apply Hs|apply Hx|apply Hf);conv=>whnf
           obtain⟨hj,x63,hx63,hm⟩:=hm
           refine indexK (s:=1) (j:=x62) rfl rfl rfl rfl hj ?_;(conv=>whnf);repeat(first|apply Hs|apply Hx|apply Hf);conv=>whnf
           refine⟨_,loadK rfl (O.at (.tail _ (.tail _ (.tail _ (.tail _ (.head _)))))) rfl (cell_map (enc:=n8) (s:=1) (k:=0) (fun _=>rfl) hx63 rfl),?_⟩;(conv=>whnf);repeat(first|apply Hs|apply Hx|apply Hf);conv=>whnf
           refine NewG.frz rfl ?_;(conv=>whnf);repeat(first|apply Hs|apply Hx|apply Hf);conv=>whnf
           refine O.appendR (enc:=n8) (l:=v58) (new:=([x63]:(List Nat))) (s:=1) (b:=1) (.tail _ (.tail _ (.tail _ (.tail _ (.tail _ (.head _)))))) rfl rfl rfl rfl rfl rfl rfl (YOk.fl rfl) (fun _=>rfl) (fun _=>rfl) (Nat.zero_lt_succ _) hm.1 hm.2.1 fun h O=>?_;(conv=>whnf);repeat(first|apply Cs|apply Hs|apply Hx|apply Hf);conv=>whnf
           replace hm:=hm.2.2
           refine⟨_,addK (a:=v60) (b:=1) rfl rfl hm.1,?_⟩;(conv=>whnf);repeat(first|apply Hs|apply Hx|apply Hf);conv=>whnf
           replace hm:=hm.2
           exact⟨(((v58.take v59++(([x63]:(List Nat))++v58.drop (v59+1))),(v59+1),(v60+1)),()),hm,⟨O,trivial⟩,VLe.refl _ _,VLe.refl _ _,VLe.refl _ _,VLe.refl _ _,VLe.refl _ _,VLe.refl _ _,VLe.refl _ _,VLe.refl _ _,VLe.refl _ _,VLe.refl _ _,VLe.refl _ _,trivial⟩
          ·replace hm:=hm.2 hc
           apply Cs;(conv=>whnf);repeat(first|apply Cs|apply Hs|apply Hx|apply Hf);conv=>whnf
           exact⟨((v58,v59),()),hm,⟨O,trivial⟩,VLe.refl _ _,VLe.refl _ _,VLe.refl _ _,VLe.refl _ _,VLe.refl _ _,VLe.refl _ _,VLe.refl _ _,VLe.refl _ _,trivial⟩
         ·clear hm;rintro⟨⟨v55,v56⟩,_⟩ base h hm ⟨O,_⟩
          ((conv=>whnf);repeat(first|apply Cs|apply Hs|apply Hx|apply Hf);conv=>whnf)
          refine⟨_,loadK rfl (O.at (.tail _ (.tail _ (.tail _ (.head _))))) rfl rfl,?_⟩;(conv=>whnf);repeat(first|apply Hs|apply Hx|apply Hf);conv=>whnf
          first|refine⟨.inr (.inr (loadK rfl (O.at (.tail _ (.tail _ (.tail _ (.head _))))) rfl rfl)),?_⟩|refine⟨.inr (.inl (by kernel_rfl)),?_⟩
          ((conv=>whnf);repeat(first|apply Cs|apply Hs|apply Hx|apply Hf);conv=>whnf)
          refine⟨_,loadK rfl (O.at (.tail _ (.tail _ (.tail _ (.tail _ (.tail _ (.tail _ (.head _)))))))) rfl rfl,?_⟩;(conv=>whnf);repeat(first|apply Hs|apply Hx|apply Hf);conv=>whnf
          refine⟨.inl rfl,?_⟩;(conv=>whnf);repeat(first|apply Hs|apply Hx|apply Hf);conv=>whnf
          obtain⟨hn65,hm⟩:=hm
          refine CallD.useB (fun _ hb=>logic_Eval_walk hm hb) (fun _=>flatB_ok rfl) fzVars O.has (fun h2 F=>(LLe.cons (VLe.refl _ _) (LLe.cons (O.flatW F (Nat.zero_le _) (.tail _ (.tail _ (.tail _ (.tail _ (.tail _ (.head _)))))) (fun _=>rfl) hn65) (LLe.nil _)))) (by kernel_rfl) (fun r64 hm'=>?_);replace hm:=hm';(conv=>whnf);repeat(first|apply Hs|apply Hx|apply Hf);conv=>whnf
          refine⟨.inl (Ext.refl _),?_⟩;(conv=>whnf);repeat(first|apply Hs|apply Hx);conv=>whnf
          obtain⟨hj,x66,hx66,hm⟩:=hm
          refine indexK (s:=1) (j:=x49) rfl rfl rfl rfl hj ?_;(conv=>whnf);repeat(first|apply Hs|apply Hx|apply Hf);conv=>whnf
          refine O.store (n:=1) (.tail _ (.tail _ (.tail _ (.tail _ (.head _))))) rfl rfl rfl rfl (el_le (enc:=n8) (s:=1) (k:=0) (n:=1) (fun _=>rfl) (lt_of_get hx66) (lbE rfl)) rfl (splice_all (enc:=n8) (s:=1) (fun _=>rfl) (lt_of_get hx66) (x:=r64) rfl) fun h O=>?_;(conv=>whnf);repeat(first|apply Hs|apply Hx|apply Hf);conv=>whnf
          refine⟨.inl rfl,?_⟩;(conv=>whnf);repeat(first|apply Hs|apply Hx);conv=>whnf
          exact⟨(((v40.set x49 r64),v55,v56),()),hm,⟨(O.sel [0,1,2,3,4,5] (by decide)),trivial⟩,VLe.refl _ _,VLe.refl _ _,VLe.refl _ _,VLe.refl _ _,VLe.refl _ _,VLe.refl _ _,trivial⟩
       ·clear hm;rintro⟨⟨v45,v46,v47⟩,_⟩ base h hm ⟨O,_⟩
        ((conv=>whnf);repeat(first|apply Cs|apply Hs|apply Hx|apply Hf);conv=>whnf)
        refine⟨_,addK (a:=v43) (b:=1) rfl rfl hm.1,?_⟩;(conv=>whnf);repeat(first|apply Hs|apply Hx|apply Hf);conv=>whnf
        replace hm:=hm.2
        exact⟨((v45,v46,v47,(v43+1)),()),hm,⟨O,trivial⟩,VLe.refl _ _,VLe.refl _ _,VLe.refl _ _,VLe.refl _ _,VLe.refl _ _,VLe.refl _ _,trivial⟩
      ·replace hm:=hm.2 hc
       apply Cs;(conv=>whnf);repeat(first|apply Cs|apply Hs|apply Hx|apply Hf);conv=>whnf
       exact⟨(v40,()),hm,⟨(O.sel [0,1,2,3,4] (by decide)),trivial⟩,VLe.refl _ _,VLe.refl _ _,trivial⟩
     ·clear hm;rintro⟨v38,_⟩ base h hm ⟨O,_⟩
      conv=>whnf
      apply Cs;conv=>whnf
      obtain⟨hn67,hm⟩:=hm
      refine CodeS.freezeFP (cs2':=[((encL 4 encNode) p0.nodes),((encL 1 Value.string) p0.names),((encL 3 encMem) p0.mems),((encL 1 i64) p0.outs),((encL 1 n8) v38)]) (v:=(.agg ⟨[((encL 4 encNode) p0.nodes),((encL 1 Value.string) p0.names),((encL 3 encMem) p0.mems),((encL 1 i64) p0.outs),((encL 1 n8) v38)]⟩)) O (.tail _ (.tail _ (.tail _ (.tail _ (.head _))))) (.tail _ (.tail _ (.tail _ (.head _)))) (j:=4) (t2:=9) rfl rfl rfl rfl (fun h2 q=>(LLe.cons (VLe.refl _ _) (LLe.cons (VLe.refl _ _) (LLe.cons (VLe.refl _ _) (LLe.cons (VLe.refl _ _) (LLe.cons (VLe.flM q hn67 (fun _=>rfl)) (LLe.nil _))))))) fun h O=>?_;conv=>whnf
      refine CodeS.drawF ?_;(conv=>whnf);repeat(first|apply Hs|apply Hx|apply Hf);conv=>whnf
      refine⟨_,(rfl:aread _ _ _ _=some _),?_⟩;(conv=>whnf);repeat(first|apply Hs|apply Hx|apply Hf);conv=>whnf
      refine⟨rfl,?_⟩;(conv=>whnf);repeat(first|apply Hs|apply Hx|apply Hf);conv=>whnf
      obtain⟨r68,hm,hcall⟩:=run_observe_walk hm O.has
      refine⟨_,_,hcall,?_⟩;(conv=>whnf);repeat(first|apply Hs|apply Hx|apply Hf);conv=>whnf
      refine⟨_,(rfl:aread _ _ _ _=some _),?_⟩;(conv=>whnf);repeat(first|apply Hs|apply Hx|apply Hf);conv=>whnf
      refine⟨rfl,?_⟩;(conv=>whnf);repeat(first|apply Hs|apply Hx|apply Hf);conv=>whnf
      refine O.store (n:=2) (cs':=[((encL 1 n8) r68.out),((encL 1 n8) r68.next)]) (.head _) rfl rfl rfl rfl (lbE rfl) rfl rfl fun h O=>?_;(conv=>whnf);repeat(first|apply Cs|apply Hs|apply Hx|apply Hf);conv=>whnf
      refine⟨_,resAggK rfl rfl (O.at (.head _)) rfl rfl (lbE rfl) rfl,?_⟩;conv=>whnf
      exact⟨(r68,v38,0),hm,O.ext,fun h2 F=>VLe.tup (LLe.cons (VLe.refl _ _) (LLe.cons (VLe.refl _ _) (LLe.cons (VLe.refl _ _) (LLe.nil _))))⟩
theorem inputs_vc {c:Circ}{K:List Nat→Prop} (hc:c.nodes.length<2 ^ 40) (h:K (ofN c [0])):netlists_Inputs_wp c K:=of_vc hc (by decide) h
theorem states_vc {c:Circ}{K:List Nat→Prop} (hc:c.nodes.length<2 ^ 40) (h:K (ofN c [14])):netlists_States_wp c K:=of_vc hc (by decide) h
theorem ofN_mem {c:Circ}{k f:Nat} (h:f∈ofN c [k]):f<c.nodes.length∧kd c f=k:=by
 unfold ofN at h
 rw[List.mem_filter,List.mem_range] at h
 refine⟨h.1,?_⟩
 have:=h.2
 simp only[List.contains_cons,List.contains_nil,Bool.or_false,beq_iff_eq] at this
 exact this
theorem ofN_of {c:Circ}{k f:Nat} (h1:f<c.nodes.length) (h2:kd c f=k):f∈ofN c [k]:=by
 unfold ofN
 rw[List.mem_filter,List.mem_range]
 refine⟨h1,?_⟩
 unfold kd at h2
 rw[h2];simp
theorem ofN_len (c:Circ) (ks:List Nat):(ofN c ks).length≤c.nodes.length:=by
 unfold ofN;exact Nat.le_trans (List.length_filter_le _ _) (by simp)
theorem ofN_nodup (c:Circ) (ks:List Nat):(ofN c ks).Nodup:=List.Pairwise.filter _ List.nodup_range
theorem ofN_inj {c:Circ}{ks:List Nat}{j j' f:Nat} (h:(ofN c ks)[j]?=some f) (h':(ofN c ks)[j']?=some f):j=j':=by
 obtain⟨h1,h2⟩:=List.getElem?_eq_some_iff.1 h
 obtain⟨h3,h4⟩:=List.getElem?_eq_some_iff.1 h'
 rcases Nat.lt_trichotomy j j' with q|q|q
 ·exact absurd (h2.trans h4.symm) (List.pairwise_iff_getElem.1 (ofN_nodup c ks) j j' h1 h3 q)
 ·exact q
 ·exact absurd (h4.trans h2.symm) (List.pairwise_iff_getElem.1 (ofN_nodup c ks) j' j h3 h1 q)
theorem simsAbove_vc {l:List Nat}{K:Bool→Prop} (hl:l.length<2 ^ 60) (hv:∀ v∈l,v≤3) (h:K false):cf_simsAbove_wp l K:=by
 unfold cf_simsAbove_wp cf_simsAboveI_wp
 refine search_none (l:=l) ?_ ?_ h
 ·intro k i nx x hx hi hn
  have hv:=hv x (List.mem_of_getElem? hx)
  refine⟨fun _=>⟨x,hx,fun q=>?_,fun _=>⟨by omega,hn⟩⟩,fun q=>?_⟩
  ·have:=lt_t.1 q;omega
  ·have:=lt_f.1 q;omega
 ·intro k i nx hi hk
  refine⟨fun q=>?_,fun _=>hk⟩
  have:=lt_t.1 q;omega
structure PatOk (c:Circ) (p:Pat):Prop where
 inp:p.inp.length=(ofN c [0]).length
 state:p.state.length=(ofN c [14]).length
 inpv:∀ v∈p.inp,v≤2
 statev:∀ v∈p.state,v≤2
theorem fits_vc {c:Circ} (p:Pln c) {pt:Pat} (hp:PatOk c pt) {K:Nat→Prop} (h:K 0):sims_fits_wp c pt K:=by
 have hlen:=p.good.len
 have l1:=ofN_len c [0]
 have l2:=ofN_len c [14]
 have h1:=hp.inp
 have h2:=hp.state
 unfold sims_fits_wp
 refine joinB (a:=false) (fun F=>⟨fun q=>?_,fun _=>of_vc (by omega) (by decide) ?_⟩) ⟨(fun e=>by cases e),fun _=>?_⟩
 ·rw[p.mems] at q;exact absurd (lt_t.1 q) (by simp)
 ·have e:ofN c [15]=[]:=by
   unfold ofN
   rw[List.filter_eq_nil_iff]
   intro i m
   obtain⟨y,hy⟩:=get_lt (List.mem_range.1 m)
   have:=p.kinds i y hy
   rw[List.getD,List.getElem?_map,hy]
   simp
   omega
  rw[e];exact F
 refine joinB (a:=false) (fun F=>inputs_vc (by omega) ⟨fun q=>absurd h1 (ne_t.1 q),fun _=>states_vc (by omega) ?_⟩) ⟨(fun e=>by cases e),fun _=>?_⟩
 ·rw[ne_f.2 h2];exact F
 refine joinB (a:=false) (fun F=>simsAbove_vc (by omega) (fun v m=>Nat.le_succ_of_le (hp.inpv v m)) ⟨(fun e=>by cases e),fun _=>simsAbove_vc (by omega) (fun v m=>Nat.le_succ_of_le (hp.statev v m)) F⟩) ⟨(fun e=>by cases e),fun _=>h⟩
structure NetsOk (c:Circ) (pt:Pat) (t:List Nat):Prop where
 len:t.length=c.nodes.length
 inp:∀ j f,(ofN c [0])[j]?=some f→t.getD f 0=pt.inp.getD j 0
 state:∀ j f,(ofN c [14])[j]?=some f→t.getD f 0=pt.state.getD j 0
 gate:∀ i x,c.nodes[i]?=some x→isFree x.kind=false→t.getD i 0=evalN x.kind (insV t x)
 le:∀ i,t.getD i 0≤2
structure RunTo (c:Circ) (v0 o t:List Nat) (i:Nat):Prop where
 len:t.length=c.nodes.length
 free:∀ f x,c.nodes[f]?=some x→isFree x.kind=true→t.getD f 0=v0.getD f 0
 gate:∀ j m (x:Node),j<i→o[j]?=some m→c.nodes[m]?=some x→isFree x.kind=false→t.getD m 0=evalN x.kind (insV t x)
 le:∀ i,t.getD i 0≤2
theorem RunTo.skip {c:Circ}{v0 o t:List Nat}{i m:Nat}{x:Node} (T:RunTo c v0 o t i) (hm:o[i]?=some m) (hx:c.nodes[m]?=some x) (hf:isFree x.kind=true):RunTo c v0 o t (i+1):=by
 refine⟨T.len,T.free,fun j m' x' hj ho hx' hf'=>?_,T.le⟩
 by_cases e:j=i
 ·subst e
  rw[hm] at ho;cases ho
  rw[hx] at hx';cases hx'
  rw[hf] at hf';cases hf'
 ·exact T.gate j m' x' (by omega) ho hx' hf'
theorem RunTo.step {c:Circ} (p:Pln c) {v0 o t:List Nat} (ho:OrdOk c o) {i m:Nat}{x:Node} (T:RunTo c v0 o t i) (hm:o[i]?=some m) (hx:c.nodes[m]?=some x) (hf:isFree x.kind=false):RunTo c v0 o (t.set m (evalN x.kind (insV t x))) (i+1):=by
 have hml:m<t.length:=by rw[T.len];exact lt_of_get hx
 have same:∀ (j m':Nat) (x':Node),j≤i→o[j]?=some m'→c.nodes[m']?=some x'→isFree x'.kind=false→insV (t.set m (evalN x.kind (insV t x))) x'=insV t x':=by
  intro j m' x' hj h1 h2 h3
  unfold insV
  refine List.map_congr_left fun k hk=>?_
  rw[getD_set hml]
  by_cases e:m=k
  ·subst e
   obtain⟨b',hb,hb2⟩:=ho.before j m' x' m h1 h2 (p.comb h2 h3) hk
   have:=ord_inj ho hb2 hm
   omega
  ·rw[if_neg e]
 refine⟨by rw[List.length_set];exact T.len,fun f y hy hfy=>?_,fun j m' x' hj h1 h2 h3=>?_,fun k=>?_⟩
 ·rw[getD_set hml,if_neg ?_]
  ·exact T.free f y hy hfy
  ·rintro rfl
   rw[hx] at hy;cases hy
   rw[hf] at hfy;cases hfy
 ·rw[same j m' x' (by omega) h1 h2 h3,getD_set hml]
  by_cases e:m=m'
  ·subst e
   rw[if_pos rfl]
   rw[hx] at h2;cases h2
   rfl
  ·rw[if_neg e]
   refine T.gate j m' x' ?_ h1 h2 h3
   by_cases e2:j=i
   ·subst e2;rw[hm] at h1;cases h1;exact absurd rfl e
   ·omega
 ·rw[getD_set hml]
  split
  ·exact evalN_le _ _
  ·exact T.le k
theorem value_vc {r:SRun}{n:Nat}{K:Nat→Prop} (h:∀ v,K v):run_value_wp r n K:=by
 unfold run_value_wp
 refine joinB (a := !ltN n r.nets.length) (fun F=>⟨fun q=>absurd (lt_t.1 q) (Nat.not_lt_zero _),fun _=>F⟩) ⟨fun _=>h _,fun q=>?_⟩
 have q:=nlt_f.1 q
 refine⟨_,getD_some q,?_⟩
 unfold logic_Clean_wp
 exact⟨fun _=>h _,fun _=>h _⟩
theorem observe_vc {r:SRun} (p:Pln r.circ) {K:Rsp→Prop} (h:∀ x,K x):run_observe_wp r K:=by
 have hlen:=p.good.len
 have hol:=p.good.outsLen
 have l2:=ofN_len r.circ [14]
 unfold run_observe_wp
 refine joinLoop (fun s=>s.2≤r.circ.outs.length∧s.1.length=s.2) (fun s=>r.circ.outs.length-s.2) (fun _=>True) ?_ ⟨Nat.zero_le _,rfl⟩ ?_
 ·rintro k ⟨l,i⟩ nx ⟨hi,hl⟩ hnx hk
  dsimp only at hi hl
  refine⟨fun q=>?_,fun _=>hk _ trivial⟩
  have q:=lt_t.1 q
  (try dsimp only at q)
  exact⟨_,getD_some q,value_vc fun v=>⟨by simp only[List.length_singleton];omega,by omega,hnx _ ⟨q,by simp[hl]⟩ (by dsimp only;omega)⟩⟩
 intro a _
 refine joinI (states_vc (by omega) ?_)
 refine loopW_intro (fun s=>s.2≤(ofN r.circ [14]).length∧s.1.length=s.2) (fun s=>(ofN r.circ [14]).length-s.2) ?_ ⟨Nat.zero_le _,rfl⟩
 rintro⟨l,i⟩ nx ⟨hi,hl⟩ hnx
 dsimp only at hi hl
 refine⟨fun q=>?_,fun _=>h _⟩
 have q:=lt_t.1 q
 (try dsimp only at q)
 obtain⟨f,hf⟩:=get_lt q
 have hfn:=(ofN_mem (List.mem_of_getElem? hf)).1
 obtain⟨x,hx⟩:=get_lt hfn
 have fin:∀ v,(l.length+([v]:List Nat).length)*1≤2 ^ 47∧i+1<2 ^ 63∧nx (l++[v],i+1):=fun v=>⟨by simp only[List.length_singleton];omega,by omega,hnx _ ⟨q,by simp[hl]⟩ (by dsimp only;omega)⟩
 refine⟨f,hf,?_⟩
 refine (show joinW _ _ from ?_)
 refine⟨x,hx,fun e=>?_,fun _=>fin _⟩
 have e:=eq_t.1 e
 refine⟨_,getD_some (by omega),value_vc fun v=>?_⟩
 unfold logic_Read_wp
 exact fin _
theorem joinPs {α:Type}{first:(α→Prop)→Prop}{rest:α→Prop} (P:α→Prop) (h1:∀ k,(∀ a,P a→k a)→first k) (h2:∀ a,P a→rest a):joinW first rest:=h1 rest h2
theorem room_len {l:List Nat}{w y:Nat} (h:w<l.length):(l.take w++([y]++l.drop (w+1))).length=l.length:=by
 simp only[List.length_append,List.length_take,List.length_drop,List.length_singleton];omega
theorem room_take {l:List Nat}{w y:Nat} (h:w<l.length):(l.take w++([y]++l.drop (w+1))).take (w+1)=l.take w++[y]:=by
 have e:l.take w++([y]++l.drop (w+1))=(l.take w++[y])++l.drop (w+1):=by simp
 rw[e]
 exact List.take_left' (by simp only[List.length_append,List.length_take,List.length_singleton];omega)
theorem run_vc {c:Circ} (p:Pln c) {pt:Pat} (hp:PatOk c pt) {K:Rsp×List Nat×Nat→Prop} (h:∀ x t,NetsOk c pt t→K (x,t,0)):sims_Run_wp c pt K:=by
 have hlen:=p.good.len
 have l1:=ofN_len c [0]
 have l2:=ofN_len c [14]
 unfold sims_Run_wp
 refine order_vc p.good fun o ho=>?_
 have hol:o.length=c.nodes.length:=by have:=ho.perm.length_eq;simpa using this
 refine joinB (a:=0) (fun F=>⟨fun _=>fits_vc p hp F,fun q=>absurd rfl (eq_f.1 q)⟩) ⟨fun q=>absurd rfl (ne_t.1 q),fun _=>⟨by omega,by omega,?_⟩⟩
 refine joinPs (fun t=>t.length=c.nodes.length∧(∀ j f,(ofN c [0])[j]?=some f→t.getD f 0=pt.inp.getD j 0)∧∀ i,t.getD i 0≤2) (fun k hk=>inputs_vc (by omega) ?_) ?_
 ·refine loopW_intro (fun s=>s.2≤(ofN c [0]).length∧s.1.length=c.nodes.length∧(∀ j f,j<s.2→(ofN c [0])[j]?=some f→s.1.getD f 0=pt.inp.getD j 0)∧∀ i,s.1.getD i 0≤2) (fun s=>(ofN c [0]).length-s.2) ?_ ⟨Nat.zero_le _,by simp,(fun j f hj=>absurd hj (Nat.not_lt_zero _)),fun i=>?_⟩
  ·rintro⟨t,i⟩ nx ⟨hi,h1,h2,h3⟩ hnx
   dsimp only at hi h1 h2 h3
   refine⟨fun q=>?_,fun q=>hk t ⟨h1,fun j f hj=>h2 j f (by have:=lt_f.1 q;have:=lt_of_get hj;(try dsimp only at *);omega) hj,h3⟩⟩
   have q:=lt_t.1 q
   (try dsimp only at q)
   obtain⟨f,hf⟩:=get_lt q
   have hfn:=(ofN_mem (List.mem_of_getElem? hf)).1
   have hpi:i<pt.inp.length:=by rw[hp.inp];exact q
   refine⟨f,hf,_,getD_some hpi,hfn,_,getN h1 hfn,by omega,hnx _ ⟨q,by simp[h1],fun j f' hj hf'=>?_,fun k=>?_⟩ (by dsimp only;omega)⟩
   ·dsimp only at hj ⊢
    rw[getD_set (by omega)]
    by_cases e:f=f'
    ·subst e
     have:=ofN_inj hf hf'
     subst this
     rw[if_pos rfl]
    ·rw[if_neg e]
     refine h2 j f' ?_ hf'
     by_cases e2:j=i
     ·subst e2;rw[hf] at hf';cases hf';exact absurd rfl e
     ·omega
   ·dsimp only
    rw[getD_set (by omega)]
    split
    ·exact hp.inpv _ (getD_mem hpi)
    ·exact h3 k
  ·dsimp only
   rw[List.getD,List.getElem?_replicate]
   split <;> simp
 rintro t0 ⟨a1,a2,a3⟩
 refine states_vc (by omega) ?_
 refine loopW_intro (fun s=>s.2≤(ofN c [14]).length∧s.1.length=c.nodes.length∧(∀ j f,(ofN c [0])[j]?=some f→s.1.getD f 0=pt.inp.getD j 0)∧(∀ j f,j<s.2→(ofN c [14])[j]?=some f→s.1.getD f 0=pt.state.getD j 0)∧∀ i,s.1.getD i 0≤2) (fun s=>(ofN c [14]).length-s.2) ?_ ⟨Nat.zero_le _,a1,a2,(fun j f hj=>absurd hj (Nat.not_lt_zero _)),a3⟩
 rintro⟨t,i⟩ nx ⟨hi,h1,h2,h4,h3⟩ hnx
 dsimp only at hi h1 h2 h3 h4
 refine⟨fun q=>?_,fun q=>?_⟩
 ·have q:=lt_t.1 q
  (try dsimp only at q)
  obtain⟨f,hf⟩:=get_lt q
  have hfm:=ofN_mem (List.mem_of_getElem? hf)
  have hfn:=hfm.1
  have hpi:i<pt.state.length:=by rw[hp.state];exact q
  refine⟨f,hf,_,getD_some hpi,hfn,_,getN h1 hfn,by omega,hnx _ ⟨q,by simp[h1],fun j f' hf'=>?_,fun j f' hj hf'=>?_,fun k=>?_⟩ (by dsimp only;omega)⟩
  ·dsimp only
   rw[getD_set (by omega),if_neg ?_]
   ·exact h2 j f' hf'
   ·rintro rfl
    have:=(ofN_mem (List.mem_of_getElem? hf')).2
    rw[hfm.2] at this;cases this
  ·dsimp only at hj ⊢
   rw[getD_set (by omega)]
   by_cases e:f=f'
   ·subst e
    have:=ofN_inj hf hf'
    subst this
    rw[if_pos rfl]
   ·rw[if_neg e]
    refine h4 j f' ?_ hf'
    by_cases e2:j=i
    ·subst e2;rw[hf] at hf';cases hf';exact absurd rfl e
    ·omega
  ·dsimp only
   rw[getD_set (by omega)]
   split
   ·exact hp.statev _ (getD_mem hpi)
   ·exact h3 k
 have q:=lt_f.1 q
 (try dsimp only at q)
 have h4:∀ j f,(ofN c [14])[j]?=some f→t.getD f 0=pt.state.getD j 0:=fun j f hj=>h4 j f (by have:=lt_of_get hj;omega) hj
 refine joinLoop (fun s=>s.2.2.2≤o.length∧RunTo c t o s.1 s.2.2.2∧s.2.1.length=16) (fun s=>o.length-s.2.2.2) (fun a=>RunTo c t o a o.length) ?_ ⟨Nat.zero_le _,⟨h1,fun _ _ _ _=>rfl,(fun j m x hj=>absurd hj (Nat.not_lt_zero _)),h3⟩,by simp⟩ ?_
 ·rintro k ⟨u,l,w,i⟩ nx ⟨hi,T,hl⟩ hnx hk
  dsimp only at hi T hl
  refine⟨fun q=>?_,fun q=>?_⟩
  ·have q:=lt_t.1 q
   (try dsimp only at q)
   obtain⟨m,hm⟩:=get_lt q
   have hmn:m<c.nodes.length:=List.mem_range.1 (ho.perm.mem_iff.1 (List.mem_of_getElem? hm))
   obtain⟨x,hx⟩:=get_lt hmn
   refine joinPs (fun a=>RunTo c t o a.1 (i+1)∧a.2.1.length=16) (fun k2 hk2=>⟨m,hm,x,hx,comb_vc ⟨fun e=>hk2 _ ⟨T.skip hm hx ?_,hl⟩,fun e=>⟨by decide,?_⟩⟩⟩) (fun a ha=>⟨by omega,hnx _ ⟨q,ha⟩ (by dsimp only;omega)⟩)
   ·have e:¬ (1≤x.kind∧x.kind≤13):=of_decide_eq_false (by simpa only[Bool.not_eq_true'] using e)
    have k1:=(p.good.node m x hx).kind
    have k2:=p.kinds m x hx
    simp only[isFree,Bool.or_eq_true,beq_iff_eq]
    omega
   ·have e:1≤x.kind∧x.kind≤13:=of_decide_eq_true (by simpa only[Bool.not_eq_false'] using e)
    have hf:isFree x.kind=false:=comb_gate e
    have hg:=p.good.node m x hx
    have hfew:=hg.few
    refine joinLoop (fun s=>s.2.2≤x.ins.length∧s.1.length=16∧s.2.1=s.2.2∧s.1.take s.2.2=(insV u x).take s.2.2) (fun s=>x.ins.length-s.2.2) (fun a=>a.1.length=16∧a.2=x.ins.length∧a.1.take a.2=insV u x) ?_ ⟨Nat.zero_le _,hl,rfl,by simp⟩ ?_
    ·rintro k3 ⟨b,w',j⟩ nx3 ⟨hj,hb,hw,hv⟩ hnx3 hk3
     dsimp only at hj hb hw hv
     subst hw
     refine⟨fun q2=>?_,fun q2=>?_⟩
     ·have q2:=lt_t.1 q2
      (try dsimp only at q2)
      obtain⟨y,hy⟩:=get_lt q2
      have hyn:=hg.ins y (List.mem_of_getElem? hy)
      have hvj:(insV u x)[w']?=some (u.getD y 0):=by unfold insV;rw[List.getElem?_map,hy];rfl
      obtain⟨m1,m2⟩:=List.getElem?_eq_some_iff.1 hvj
      refine⟨y,hy,hyn,_,getN T.len hyn,by omega,by omega,by omega,hnx3 _ ⟨q2,by dsimp only;rw[room_len (by omega)];exact hb,rfl,?_⟩ (by dsimp only;omega)⟩
      dsimp only
      rw[room_take (by omega),hv,List.take_succ_eq_append_getElem m1,m2]
     ·have q2:=lt_f.1 q2
      (try dsimp only at q2)
      have:w'=x.ins.length:=by omega
      subst this
      refine hk3 (b,_) ⟨hb,rfl,?_⟩
      dsimp only
      rw[hv]
      exact List.take_of_length_le (by unfold insV;rw[List.length_map];exact Nat.le_refl _)
    ·rintro⟨b,w'⟩ ⟨b1,b2,b3⟩
     dsimp only at b1 b2 b3 ⊢
     rw[b3]
     exact⟨by omega,eval_node p hx hf (by unfold insV;simp) ⟨hmn,_,getN T.len hmn,hk2 _ ⟨T.step p ho hm hx hf,b1⟩⟩⟩
  ·have q:=lt_f.1 q
   (try dsimp only at q)
   have:i=o.length:=by omega
   subst this
   exact hk u T
 intro u T
 refine⟨T.len.symm,observe_vc (r:=⟨c,u⟩) p fun x=>h x u ⟨T.len,fun j f hj=>?_,fun j f hj=>?_,fun m x hx hf=>?_,T.le⟩⟩
 ·have hm:=ofN_mem (List.mem_of_getElem? hj)
  obtain⟨y,hy⟩:=get_lt hm.1
  rw[kd_eq hy] at hm
  rw[T.free f y hy (by simp[isFree,hm.2])]
  exact h2 j f hj
 ·have hm:=ofN_mem (List.mem_of_getElem? hj)
  obtain⟨y,hy⟩:=get_lt hm.1
  rw[kd_eq hy] at hm
  rw[T.free f y hy (by simp[isFree,hm.2])]
  exact h4 j f hj
 ·have hm:m∈o:=ho.perm.mem_iff.2 (List.mem_range.2 (lt_of_get hx))
  obtain⟨j,hj,e⟩:=List.getElem_of_mem hm
  exact T.gate j m x hj (by rw[List.getElem?_eq_getElem hj,e]) hx hf
theorem lives24:isTrue (runFn Tryz.prog [] (orcExt Tryz.prog) 60 12 #[] (heapOf vars))=true:=by kernel_rfl
theorem lives_fn:FnV Tryz.prog NG vars 12 #[] (.bool true):=by
 obtain⟨h',e⟩:=isTrue_iff lives24
 have c:=(runFn_sound hM hP (fun f vs h v e=>orcExt_sound f vs h v e) 60 _ _ _ _ _ e).1
 refine⟨PureV.flatB rfl,fun h b=>c.lift (by simp) rfl (bears_vars (hasSize b) (hasVars b))⟩
def law24_lives_wp (K:Bool→Prop):Prop:=K true
theorem law24_lives_walk {K:Bool→Prop} (hm:law24_lives_wp K) {h0:Heap} (hB:HasB vars h0):∃ r,K r∧CallD Tryz.prog NG 12 ⟨[]⟩ h0 (Value.bool r) h0:=FnV.walk (enc:=Value.bool) lives_fn hm hB
end Go.Proofs.YtfhldkgelipnaaaGreatDoor
