/-
  J1: parts of the proof.
-/
import Derived.Test.YteceaohcjmbfbaaGreatDoorSb45
namespace Go.Proofs.YteceaohcjmbfbaaGreatDoor
open Go.Abs
set_option maxRecDepth 100000
set_option maxHeartbeats 8000000
def inject_contrary_wp (p0:(List Nat)) (p1:(List Nat)) (K:(List Nat)->Prop):Prop :=
 joinW (α:=(List Nat)) (fun k5=>loopW (S:=((List Nat)×Nat)) (fun (v7,v8) nx10=>((ltN v8 (min p0.length p1.length))=true->joinW (α:=(List Nat)) (fun k14=>joinW (α:=Bool) (fun k17=>∃ x18,p0[v8]?=some x18/\((!ltN 1 x18)=true->∃ x19,p1[v8]?=some x19/\((!ltN 1 x19)=true->∃ x20,p0[v8]?=some x20/\∃ x21,p1[v8]?=some x21/\k17 (neN x20 x21))/\((!ltN 1 x19)=false->k17 false))/\((!ltN 1 x18)=false->k17 false)) (fun v15=>(v15=true->(v7.length+([v8]:(List Nat)).length)*8<=2 ^ 47/\k14 (v7++([v8]:(List Nat))))/\(v15=false->k14 v7))) (fun v12=>v8+1<2 ^ 63/\nx10 (v12,(v8+1))))/\((ltN v8 (min p0.length p1.length))=false->k5 v7)) (([]:List Nat),0)) (fun v3=>K v3)
theorem inject_contrary_walk {p0:(List Nat)}{p1:(List Nat)}{K:(List Nat)->Prop} (hm:inject_contrary_wp p0 p1 K) {h0:Heap} (hB:HasB vars h0):∃ r,K r/\CallD Tryz.prog NG 41 ⟨[(encL 1 n8) p0,(encL 1 n8) p1]⟩ h0 ((encL 1 i64) r) h0:=by
 unfold inject_contrary_wp at hm
 refine fw Tryz.func41 hB (enc:=(encL 1 i64)) (fun r=>pureL (fun _=>AllPure.cons (PureV.flat rfl) AllPure.nil)) fun O=>?_;conv=>whnf
 apply Cs;conv=>whnf
 apply Cs;refine gH ?_
 apply Cs;conv=>whnf
 apply Cs;refine gH ?_
 have O:=O.addNil (.cells (flatC ((([]:List Nat)).map i64)) false)
 refine jn (σ:=(List Nat)×Option Nat) hm 45 [] (fun s=>s.1) (fun (v3,a2) h=>(a2=none->v3=[])/\Own vars h0 [(a2,.cells (flatC (v3.map i64)) false)] h) (fun (v3,a2)=>[(5,(growV 1 a2 (v3.map i64)))]) (fun hm=>?_) ?_
 ·refine gX ?_
  refine⟨_,minK (a:=p0.length) (b:=p1.length) rfl rfl,?_⟩;refine gX ?_
  refine lw 45 [0,1,11] (σ:=((List Nat)×Nat)×Option Nat) (fun s=>s.1) (fun ((v7,v8),a6) h=>(a6=none->v7=[])/\Own vars h0 [(a6,.cells (flatC (v7.map i64)) false)] h) (fun ((v7,v8),a6)=>[(5,(growV 1 a6 (v7.map i64))),(12,(i64 v8))]) ((([]:List Nat),0),none) hm ⟨(fun _=>rfl),O⟩ ?_
  clear hm;rintro⟨⟨v7,v8⟩,a6⟩ nx10 base h hm ⟨ha9,O⟩
  refine gX ?_
  refine br hm (fun hm=>?_) fun hm=>?_
  ·apply Cs;conv=>whnf
   refine jn (σ:=(List Nat)×Option Nat) hm 45 [0,1,11,12] (fun s=>s.1) (fun (v12,a11) h=>(a11=none->v12=[])/\Own vars h0 [(a11,.cells (flatC (v12.map i64)) false)] h) (fun (v12,a11)=>[(5,(growV 1 a11 (v12.map i64)))]) (fun hm=>?_) ?_
   ·apply Cs;conv=>whnf
    apply Cs;conv=>whnf
    apply Cs;refine gH ?_
    refine jn hm 45 [0,1,5,6,11,12] (fun s=>s) (fun v15 h=>(a6=none->v7=[])/\Own vars h0 [(a6,.cells (flatC (v7.map i64)) false)] h) (fun v15=>[(37,(.bool v15))]) (fun hm=>?_) ?_
    ·refine gX ?_
     refine atF hm fun x18 hx18 hm=>?_;refine gH ?_
     refine br hm (fun hm=>?_) fun hm=>?_
     ·refine gX ?_
      refine atF hm fun x19 hx19 hm=>?_;refine gH ?_
      refine br hm (fun hm=>?_) fun hm=>?_
      ·refine gX ?_
       refine atF hm fun x20 hx20 hm=>?_;refine gH ?_
       refine atF hm fun x21 hx21 hm=>?_;refine gH ?_
       exact jx (neN x20 x21) hm ⟨ha9,O⟩
      ·refine gX ?_
       exact jx false hm ⟨ha9,O⟩
     ·refine gX ?_
      refine bf ?_;refine gH ?_
      exact jx false hm ⟨ha9,O⟩
    ·clear hm;rintro v15 base h hm ⟨ha16,O⟩
     refine gX ?_
     refine br hm (fun hm=>?_) fun hm=>?_
     ·refine gX ?_
      refine fz ?_;refine gH ?_
      refine O.apL (enc:=i64) (l:=v7) (new:=([v8]:(List Nat))) 1 (.head _) ha16 hm fun a22 h ha23 O hm=>?_;refine gH ?_
      exact jx ((v7++([v8]:(List Nat))),a22) hm ⟨ha23,O⟩
     ·refine gX ?_
      exact jx (v7,a6) hm ⟨ha16,O⟩
   ·clear hm;rintro⟨v12,a11⟩ base h hm ⟨ha13,O⟩
    refine gX ?_
    refine aAdd hm fun hm=>?_;refine gH ?_
    exact jx ((v12,(v8+1)),a11) hm ⟨ha13,O⟩
  ·refine gX ?_
   exact jx (v7,a6) hm ⟨ha9,O⟩
 ·clear hm;rintro⟨v3,a2⟩ base h hm ⟨ha4,O⟩
  refine gX ?_
  refine fg Tryz.func28 ?_;refine gX ?_
  refine clipK (s:=1) (enc:=i64) (l:=v3) (n:=v3.length) (m:=v3.length) rfl rfl rfl rfl rfl rfl rfl ?_;refine gX ?_
  exact⟨v3,hm,O.ext,fun h2 F=>O.clipL F (Nat.le_refl _) (.head _) ha4 (fun _=>rfl)⟩
def inject_Differ_wp (p0:Rsp) (p1:Rsp) (K:((List Nat)×(List Nat))->Prop):Prop :=
 inject_contrary_wp p0.out p1.out (fun r1=>inject_contrary_wp p0.next p1.next (fun r2=>K (r1,r2)))
theorem inject_Differ_walk {p0:Rsp}{p1:Rsp}{K:((List Nat)×(List Nat))->Prop} (hm:inject_Differ_wp p0 p1 K) {h0:Heap} (hB:HasB vars h0):∃ r,K r/\CallD Tryz.prog NG 18 ⟨[encRsp p0,encRsp p1]⟩ h0 ((fun (r:((List Nat)×(List Nat)))=>Value.tuple ⟨[(encL 1 i64) (r.1),(encL 1 i64) (r.2)]⟩) r) h0:=by
 unfold inject_Differ_wp at hm
 refine fw Tryz.func18 hB (enc:=(fun (r:((List Nat)×(List Nat)))=>Value.tuple ⟨[(encL 1 i64) (r.1),(encL 1 i64) (r.2)]⟩)) (fun r=>PureV.tup (AllPure.cons (pureL (fun _=>AllPure.cons (PureV.flat rfl) AllPure.nil)) (AllPure.cons (pureL (fun _=>AllPure.cons (PureV.flat rfl) AllPure.nil)) (AllPure.nil)))) fun O=>?_;conv=>whnf
 refine gX ?_
 refine fz ?_;refine gH ?_
 refine fz ?_;refine gX ?_
 first|refine⟨.inr (.inr (rfl)),?_⟩|refine⟨.inr (.inl (by kernel_rfl)),?_⟩
 refine gX ?_
 first|refine⟨.inr (.inr (rfl)),?_⟩|refine⟨.inr (.inl (by kernel_rfl)),?_⟩
 refine gX ?_
 refine ca (inject_contrary_walk hm O.has) fun r1 hm=>?_;refine gH ?_
 (first|refine⟨.inr (.inr (loadK rfl (O.at (.head _)) rfl rfl)),?_⟩|refine⟨.inr (.inr (loadK rfl (O.at (.tail _ (.head _))) rfl rfl)),?_⟩|refine⟨.inr (.inr (loadK rfl (O.at (.tail _ (.tail _ (.head _)))) rfl rfl)),?_⟩|refine⟨.inr (.inr (loadK rfl (O.at (.tail _ (.tail _ (.tail _ (.head _))))) rfl rfl)),?_⟩|refine⟨.inr (.inr (loadK rfl (O.at (.tail _ (.tail _ (.tail _ (.tail _ (.head _)))))) rfl rfl)),?_⟩|refine⟨.inr (.inr (loadK rfl (O.at (.tail _ (.tail _ (.tail _ (.tail _ (.tail _ (.head _))))))) rfl rfl)),?_⟩|refine⟨.inr (.inr (loadK rfl (O.at (.tail _ (.tail _ (.tail _ (.tail _ (.tail _ (.tail _ (.head _)))))))) rfl rfl)),?_⟩|refine⟨.inl (Ext.refl _),?_⟩|refine⟨.inr (.inr rfl),?_⟩|refine⟨.inr (by kernel_rfl),?_⟩|refine⟨.inl (by kernel_rfl),?_⟩|refine id ?_);refine gH ?_
 first|refine⟨.inr (.inr (rfl)),?_⟩|refine⟨.inr (.inl (by kernel_rfl)),?_⟩
 refine gX ?_
 first|refine⟨.inr (.inr (rfl)),?_⟩|refine⟨.inr (.inl (by kernel_rfl)),?_⟩
 refine gX ?_
 refine ca (inject_contrary_walk hm O.has) fun r2 hm=>?_;refine gH ?_
 (first|refine⟨.inr (.inr (loadK rfl (O.at (.head _)) rfl rfl)),?_⟩|refine⟨.inr (.inr (loadK rfl (O.at (.tail _ (.head _))) rfl rfl)),?_⟩|refine⟨.inr (.inr (loadK rfl (O.at (.tail _ (.tail _ (.head _)))) rfl rfl)),?_⟩|refine⟨.inr (.inr (loadK rfl (O.at (.tail _ (.tail _ (.tail _ (.head _))))) rfl rfl)),?_⟩|refine⟨.inr (.inr (loadK rfl (O.at (.tail _ (.tail _ (.tail _ (.tail _ (.head _)))))) rfl rfl)),?_⟩|refine⟨.inr (.inr (loadK rfl (O.at (.tail _ (.tail _ (.tail _ (.tail _ (.tail _ (.head _))))))) rfl rfl)),?_⟩|refine⟨.inr (.inr (loadK rfl (O.at (.tail _ (.tail _ (.tail _ (.tail _ (.tail _ (.tail _ (.head _)))))))) rfl rfl)),?_⟩|refine⟨.inl (Ext.refl _),?_⟩|refine⟨.inr (.inr rfl),?_⟩|refine⟨.inr (by kernel_rfl),?_⟩|refine⟨.inl (by kernel_rfl),?_⟩|refine id ?_);refine gH ?_
 refine gX ?_
 exact⟨(r1,r2),hm,O.ext,fun h2 F=>VLe.tup (LLe.cons (VLe.refl _ _) (LLe.cons (VLe.refl _ _) (LLe.nil _)))⟩
def inject_both_wp (p0:Circ) (p1:Flt) (p2:Pat) (K:(Rsp×Rsp×(List Nat)×Nat)->Prop):Prop :=
 faults_Check_wp p0 p1 (fun r5=>((neN r5 0)=true->K ((⟨[],[]⟩:Rsp),(⟨[],[]⟩:Rsp),[],r5))/\((neN r5 0)=false->((eqN p1.model 1)=true->K ((⟨[],[]⟩:Rsp),(⟨[],[]⟩:Rsp),[],7))/\((eqN p1.model 1)=false->sims_Run_wp p0 p2 (fun r6=>((neN r6.2.2 0)=true->False)/\((neN r6.2.2 0)=false->((eqN p1.model 2)=true->False)/\((eqN p1.model 2)=false->((eqN p1.model 3)=true->((ltI p1.line.pin (Int.ofNat 0))=true->1*p0.nodes.length<=2 ^ 48/\p0.nodes.length<2 ^ 63/\netlists_States_wp p0 (fun r19=>joinW (α:=(List Nat)) (fun k21=>netlists_Inputs_wp p0 (fun r22=>loopW (S:=((List Nat)×Nat)) (fun (v23,v24) nx25=>((ltN v24 r22.length)=true->∃ x26,r22[v24]?=some x26/\∃ x27,p2.inp[v24]?=some x27/\x26<p0.nodes.length/\∃ x28,v23[x26]?=some x28/\v24+1<2 ^ 63/\nx25 ((v23.set x26 x27),(v24+1)))/\((ltN v24 r22.length)=false->k21 v23)) ((List.replicate p0.nodes.length (0:Nat)),0))) (fun v20=>joinW (α:=(List Nat)) (fun k30=>loopW (S:=((List Nat)×Nat)) (fun (v31,v32) nx33=>((ltN v32 r19.length)=true->∃ x34,r19[v32]?=some x34/\∃ x35,p2.state[v32]?=some x35/\x34<p0.nodes.length/\∃ x36,v31[x34]?=some x36/\v32+1<2 ^ 63/\nx33 ((v31.set x34 x35),(v32+1)))/\((ltN v32 r19.length)=false->k30 v31)) (v20,0)) (fun v29=>netlists_Order_wp p0 (fun r37=>joinW (α:=(List Nat)) (fun k39=>loopW (S:=((List Nat)×Nat)) (fun (v40,v41) nx42=>((ltN v41 r37.1.length)=true->∃ x43,r37.1[v41]?=some x43/\joinW (α:=(List Nat)) (fun k45=>∃ x46,p0.nodes[x43]?=some x46/\joinW (α:=Bool) (fun k48=>((neN x46.kind 0)=true->k48 (neN x46.kind 14))/\((neN x46.kind 0)=false->k48 false)) (fun v47=>(v47=true->∃ x49,p0.nodes[x43]?=some x49/\joinW (α:=(List Nat)) (fun k55=>∃ x56,p0.nodes[x43]?=some x56/\loopW (S:=((List Nat)×Nat)) (fun (v58,v59) nx61=>((ltN v59 x56.ins.length)=true->∃ x62,x56.ins[v59]?=some x62/\x62<p0.nodes.length/\∃ x63,v40[x62]?=some x63/\(v58.length+([x63]:(List Nat)).length)*1<=2 ^ 47/\v59+1<2 ^ 63/\nx61 ((v58++([x63]:(List Nat))),(v59+1)))/\((ltN v59 x56.ins.length)=false->k55 v58)) (([]:List Nat),0)) (fun v53=>logic_Eval_wp x49.kind v53 (fun r68=>x43<p0.nodes.length/\∃ x69,v40[x43]?=some x69/\k45 (v40.set x43 r68))))/\(v47=false->k45 v40))) (fun v44=>x43<p0.nodes.length/\∃ x70,v44[x43]?=some x70/\((eqN x43 p1.line.node)=true->∃ x71,r6.2.1[p1.other]?=some x71/\x43<p0.nodes.length/\∃ x72,v44[x43]?=some x72/\v41+1<2 ^ 63/\nx42 ((v44.set x43 x71),(v41+1)))/\((eqN x43 p1.line.node)=false->x43<p0.nodes.length/\∃ x73,v44[x43]?=some x73/\v41+1<2 ^ 63/\nx42 ((v44.set x43 x70),(v41+1)))))/\((ltN v41 r37.1.length)=false->k39 v40)) (v29,0)) (fun v38=>joinW (α:=(List Nat)) (fun k81=>loopW (S:=((List Nat)×Nat)) (fun (v83,v84) nx86=>((ltN v84 p0.outs.length)=true->∃ x87,p0.outs[v84]?=some x87/\x87<p0.nodes.length/\∃ x88,v38[x87]?=some x88/\(v83.length+([x88]:(List Nat)).length)*1<=2 ^ 47/\v84+1<2 ^ 63/\nx86 ((v83++([x88]:(List Nat))),(v84+1)))/\((ltN v84 p0.outs.length)=false->k81 v83)) (([]:List Nat),0)) (fun v79=>joinW (α:=(List Nat)) (fun k97=>loopW (S:=((List Nat)×Nat)) (fun (v99,v100) nx103=>((ltN v100 r19.length)=true->∃ x104,r19[v100]?=some x104/\joinW (α:=(List Nat)) (fun k112=>∃ x113,p0.nodes[x104]?=some x113/\loopW (S:=((List Nat)×Nat)) (fun (v115,v116) nx120=>((ltN v116 x113.ins.length)=true->∃ x121,x113.ins[v116]?=some x121/\x121<p0.nodes.length/\∃ x122,v38[x121]?=some x122/\(v115.length+([x122]:(List Nat)).length)*1<=2 ^ 47/\v116+1<2 ^ 63/\nx120 ((v115++([x122]:(List Nat))),(v116+1)))/\((ltN v116 x113.ins.length)=false->k112 v115)) (([]:List Nat),0)) (fun v108=>∃ x127,v108[0]?=some x127/\joinW (α:=Nat) (fun k132=>((eqN x127 3)=true->k132 2)/\((eqN x127 3)=false->k132 x127)) (fun v129=>(v99.length+([v129]:(List Nat)).length)*1<=2 ^ 47/\v100+1<2 ^ 63/\nx103 ((v99++([v129]:(List Nat))),(v100+1)))))/\((ltN v100 r19.length)=false->k97 v99)) (([]:List Nat),0)) (fun v94=>p0.nodes.length=v38.length/\K (r6.1,(⟨v79,v94⟩:Rsp),v38,0)))))))))/\((ltI p1.line.pin (Int.ofNat 0))=false->1*p0.nodes.length<=2 ^ 48/\p0.nodes.length<2 ^ 63/\netlists_States_wp p0 (fun r140=>joinW (α:=(List Nat)) (fun k142=>netlists_Inputs_wp p0 (fun r143=>loopW (S:=((List Nat)×Nat)) (fun (v144,v145) nx146=>((ltN v145 r143.length)=true->∃ x147,r143[v145]?=some x147/\∃ x148,p2.inp[v145]?=some x148/\x147<p0.nodes.length/\∃ x149,v144[x147]?=some x149/\v145+1<2 ^ 63/\nx146 ((v144.set x147 x148),(v145+1)))/\((ltN v145 r143.length)=false->k142 v144)) ((List.replicate p0.nodes.length (0:Nat)),0))) (fun v141=>joinW (α:=(List Nat)) (fun k151=>loopW (S:=((List Nat)×Nat)) (fun (v152,v153) nx154=>((ltN v153 r140.length)=true->∃ x155,r140[v153]?=some x155/\∃ x156,p2.state[v153]?=some x156/\x155<p0.nodes.length/\∃ x157,v152[x155]?=some x157/\v153+1<2 ^ 63/\nx154 ((v152.set x155 x156),(v153+1)))/\((ltN v153 r140.length)=false->k151 v152)) (v141,0)) (fun v150=>netlists_Order_wp p0 (fun r158=>joinW (α:=(List Nat)) (fun k160=>loopW (S:=((List Nat)×Nat)) (fun (v161,v162) nx163=>((ltN v162 r158.1.length)=true->∃ x164,r158.1[v162]?=some x164/\joinW (α:=(List Nat)) (fun k166=>∃ x167,p0.nodes[x164]?=some x167/\joinW (α:=Bool) (fun k169=>((neN x167.kind 0)=true->k169 (neN x167.kind 14))/\((neN x167.kind 0)=false->k169 false)) (fun v168=>(v168=true->∃ x170,p0.nodes[x164]?=some x170/\joinW (α:=(List Nat)) (fun k176=>∃ x177,p0.nodes[x164]?=some x177/\loopW (S:=((List Nat)×Nat)) (fun (v179,v180) nx182=>((ltN v180 x177.ins.length)=true->∃ x183,x177.ins[v180]?=some x183/\x183<p0.nodes.length/\∃ x184,v161[x183]?=some x184/\joinW (α:=Bool) (fun k187=>((eqN x164 p1.line.node)=true->k187 (eqZ (Int.ofNat v180) p1.line.pin))/\((eqN x164 p1.line.node)=false->k187 false)) (fun v185=>(v185=true->∃ x188,r6.2.1[p1.other]?=some x188/\(v179.length+([x188]:(List Nat)).length)*1<=2 ^ 47/\v180+1<2 ^ 63/\nx182 ((v179++([x188]:(List Nat))),(v180+1)))/\(v185=false->(v179.length+([x184]:(List Nat)).length)*1<=2 ^ 47/\v180+1<2 ^ 63/\nx182 ((v179++([x184]:(List Nat))),(v180+1)))))/\((ltN v180 x177.ins.length)=false->k176 v179)) (([]:List Nat),0)) (fun v174=>logic_Eval_wp x170.kind v174 (fun r197=>x164<p0.nodes.length/\∃ x198,v161[x164]?=some x198/\k166 (v161.set x164 r197))))/\(v168=false->k166 v161))) (fun v165=>x164<p0.nodes.length/\∃ x199,v165[x164]?=some x199/\x164<p0.nodes.length/\∃ x200,v165[x164]?=some x200/\v162+1<2 ^ 63/\nx163 ((v165.set x164 x199),(v162+1))))/\((ltN v162 r158.1.length)=false->k160 v161)) (v150,0)) (fun v159=>joinW (α:=(List Nat)) (fun k208=>loopW (S:=((List Nat)×Nat)) (fun (v210,v211) nx213=>((ltN v211 p0.outs.length)=true->∃ x214,p0.outs[v211]?=some x214/\x214<p0.nodes.length/\∃ x215,v159[x214]?=some x215/\(v210.length+([x215]:(List Nat)).length)*1<=2 ^ 47/\v211+1<2 ^ 63/\nx213 ((v210++([x215]:(List Nat))),(v211+1)))/\((ltN v211 p0.outs.length)=false->k208 v210)) (([]:List Nat),0)) (fun v206=>joinW (α:=(List Nat)) (fun k224=>loopW (S:=((List Nat)×Nat)) (fun (v226,v227) nx230=>((ltN v227 r140.length)=true->∃ x231,r140[v227]?=some x231/\joinW (α:=(List Nat)) (fun k239=>∃ x240,p0.nodes[x231]?=some x240/\loopW (S:=((List Nat)×Nat)) (fun (v242,v243) nx247=>((ltN v243 x240.ins.length)=true->∃ x248,x240.ins[v243]?=some x248/\x248<p0.nodes.length/\∃ x249,v159[x248]?=some x249/\joinW (α:=Bool) (fun k254=>((eqN x231 p1.line.node)=true->k254 (eqZ (Int.ofNat v243) p1.line.pin))/\((eqN x231 p1.line.node)=false->k254 false)) (fun v250=>(v250=true->∃ x255,r6.2.1[p1.other]?=some x255/\(v242.length+([x255]:(List Nat)).length)*1<=2 ^ 47/\v243+1<2 ^ 63/\nx247 ((v242++([x255]:(List Nat))),(v243+1)))/\(v250=false->(v242.length+([x249]:(List Nat)).length)*1<=2 ^ 47/\v243+1<2 ^ 63/\nx247 ((v242++([x249]:(List Nat))),(v243+1)))))/\((ltN v243 x240.ins.length)=false->k239 v242)) (([]:List Nat),0)) (fun v235=>∃ x264,v235[0]?=some x264/\joinW (α:=Nat) (fun k269=>((eqN x264 3)=true->k269 2)/\((eqN x264 3)=false->k269 x264)) (fun v266=>(v226.length+([v266]:(List Nat)).length)*1<=2 ^ 47/\v227+1<2 ^ 63/\nx230 ((v226++([v266]:(List Nat))),(v227+1)))))/\((ltN v227 r140.length)=false->k224 v226)) (([]:List Nat),0)) (fun v221=>p0.nodes.length=v159.length/\K (r6.1,(⟨v206,v221⟩:Rsp),v159,0))))))))))/\((eqN p1.model 3)=false->((ltI p1.line.pin (Int.ofNat 0))=true->1*p0.nodes.length<=2 ^ 48/\p0.nodes.length<2 ^ 63/\netlists_States_wp p0 (fun r281=>joinW (α:=(List Nat)) (fun k283=>netlists_Inputs_wp p0 (fun r284=>loopW (S:=((List Nat)×Nat)) (fun (v285,v286) nx287=>((ltN v286 r284.length)=true->∃ x288,r284[v286]?=some x288/\∃ x289,p2.inp[v286]?=some x289/\x288<p0.nodes.length/\∃ x290,v285[x288]?=some x290/\v286+1<2 ^ 63/\nx287 ((v285.set x288 x289),(v286+1)))/\((ltN v286 r284.length)=false->k283 v285)) ((List.replicate p0.nodes.length (0:Nat)),0))) (fun v282=>joinW (α:=(List Nat)) (fun k292=>loopW (S:=((List Nat)×Nat)) (fun (v293,v294) nx295=>((ltN v294 r281.length)=true->∃ x296,r281[v294]?=some x296/\∃ x297,p2.state[v294]?=some x297/\x296<p0.nodes.length/\∃ x298,v293[x296]?=some x298/\v294+1<2 ^ 63/\nx295 ((v293.set x296 x297),(v294+1)))/\((ltN v294 r281.length)=false->k292 v293)) (v282,0)) (fun v291=>netlists_Order_wp p0 (fun r299=>joinW (α:=(List Nat)) (fun k301=>loopW (S:=((List Nat)×Nat)) (fun (v302,v303) nx304=>((ltN v303 r299.1.length)=true->∃ x305,r299.1[v303]?=some x305/\joinW (α:=(List Nat)) (fun k307=>∃ x308,p0.nodes[x305]?=some x308/\joinW (α:=Bool) (fun k310=>((neN x308.kind 0)=true->k310 (neN x308.kind 14))/\((neN x308.kind 0)=false->k310 false)) (fun v309=>(v309=true->∃ x311,p0.nodes[x305]?=some x311/\joinW (α:=(List Nat)) (fun k317=>∃ x318,p0.nodes[x305]?=some x318/\loopW (S:=((List Nat)×Nat)) (fun (v320,v321) nx323=>((ltN v321 x318.ins.length)=true->∃ x324,x318.ins[v321]?=some x324/\x324<p0.nodes.length/\∃ x325,v302[x324]?=some x325/\(v320.length+([x325]:(List Nat)).length)*1<=2 ^ 47/\v321+1<2 ^ 63/\nx323 ((v320++([x325]:(List Nat))),(v321+1)))/\((ltN v321 x318.ins.length)=false->k317 v320)) (([]:List Nat),0)) (fun v315=>logic_Eval_wp x311.kind v315 (fun r330=>x305<p0.nodes.length/\∃ x331,v302[x305]?=some x331/\k307 (v302.set x305 r330))))/\(v309=false->k307 v302))) (fun v306=>x305<p0.nodes.length/\∃ x332,v306[x305]?=some x332/\((eqN x305 p1.line.node)=true->x305<p0.nodes.length/\∃ x333,v306[x305]?=some x333/\v303+1<2 ^ 63/\nx304 ((v306.set x305 p1.value),(v303+1)))/\((eqN x305 p1.line.node)=false->x305<p0.nodes.length/\∃ x334,v306[x305]?=some x334/\v303+1<2 ^ 63/\nx304 ((v306.set x305 x332),(v303+1)))))/\((ltN v303 r299.1.length)=false->k301 v302)) (v291,0)) (fun v300=>joinW (α:=(List Nat)) (fun k342=>loopW (S:=((List Nat)×Nat)) (fun (v344,v345) nx347=>((ltN v345 p0.outs.length)=true->∃ x348,p0.outs[v345]?=some x348/\x348<p0.nodes.length/\∃ x349,v300[x348]?=some x349/\(v344.length+([x349]:(List Nat)).length)*1<=2 ^ 47/\v345+1<2 ^ 63/\nx347 ((v344++([x349]:(List Nat))),(v345+1)))/\((ltN v345 p0.outs.length)=false->k342 v344)) (([]:List Nat),0)) (fun v340=>joinW (α:=(List Nat)) (fun k358=>loopW (S:=((List Nat)×Nat)) (fun (v360,v361) nx364=>((ltN v361 r281.length)=true->∃ x365,r281[v361]?=some x365/\joinW (α:=(List Nat)) (fun k373=>∃ x374,p0.nodes[x365]?=some x374/\loopW (S:=((List Nat)×Nat)) (fun (v376,v377) nx381=>((ltN v377 x374.ins.length)=true->∃ x382,x374.ins[v377]?=some x382/\x382<p0.nodes.length/\∃ x383,v300[x382]?=some x383/\(v376.length+([x383]:(List Nat)).length)*1<=2 ^ 47/\v377+1<2 ^ 63/\nx381 ((v376++([x383]:(List Nat))),(v377+1)))/\((ltN v377 x374.ins.length)=false->k373 v376)) (([]:List Nat),0)) (fun v369=>∃ x388,v369[0]?=some x388/\joinW (α:=Nat) (fun k393=>((eqN x388 3)=true->k393 2)/\((eqN x388 3)=false->k393 x388)) (fun v390=>(v360.length+([v390]:(List Nat)).length)*1<=2 ^ 47/\v361+1<2 ^ 63/\nx364 ((v360++([v390]:(List Nat))),(v361+1)))))/\((ltN v361 r281.length)=false->k358 v360)) (([]:List Nat),0)) (fun v355=>p0.nodes.length=v300.length/\K (r6.1,(⟨v340,v355⟩:Rsp),v300,0)))))))))/\((ltI p1.line.pin (Int.ofNat 0))=false->1*p0.nodes.length<=2 ^ 48/\p0.nodes.length<2 ^ 63/\netlists_States_wp p0 (fun r401=>joinW (α:=(List Nat)) (fun k403=>netlists_Inputs_wp p0 (fun r404=>loopW (S:=((List Nat)×Nat)) (fun (v405,v406) nx407=>((ltN v406 r404.length)=true->∃ x408,r404[v406]?=some x408/\∃ x409,p2.inp[v406]?=some x409/\x408<p0.nodes.length/\∃ x410,v405[x408]?=some x410/\v406+1<2 ^ 63/\nx407 ((v405.set x408 x409),(v406+1)))/\((ltN v406 r404.length)=false->k403 v405)) ((List.replicate p0.nodes.length (0:Nat)),0))) (fun v402=>joinW (α:=(List Nat)) (fun k412=>loopW (S:=((List Nat)×Nat)) (fun (v413,v414) nx415=>((ltN v414 r401.length)=true->∃ x416,r401[v414]?=some x416/\∃ x417,p2.state[v414]?=some x417/\x416<p0.nodes.length/\∃ x418,v413[x416]?=some x418/\v414+1<2 ^ 63/\nx415 ((v413.set x416 x417),(v414+1)))/\((ltN v414 r401.length)=false->k412 v413)) (v402,0)) (fun v411=>netlists_Order_wp p0 (fun r419=>joinW (α:=(List Nat)) (fun k421=>loopW (S:=((List Nat)×Nat)) (fun (v422,v423) nx424=>((ltN v423 r419.1.length)=true->∃ x425,r419.1[v423]?=some x425/\joinW (α:=(List Nat)) (fun k427=>∃ x428,p0.nodes[x425]?=some x428/\joinW (α:=Bool) (fun k430=>((neN x428.kind 0)=true->k430 (neN x428.kind 14))/\((neN x428.kind 0)=false->k430 false)) (fun v429=>(v429=true->∃ x431,p0.nodes[x425]?=some x431/\joinW (α:=(List Nat)) (fun k437=>∃ x438,p0.nodes[x425]?=some x438/\loopW (S:=((List Nat)×Nat)) (fun (v440,v441) nx443=>((ltN v441 x438.ins.length)=true->∃ x444,x438.ins[v441]?=some x444/\x444<p0.nodes.length/\∃ x445,v422[x444]?=some x445/\joinW (α:=Bool) (fun k448=>((eqN x425 p1.line.node)=true->k448 (eqZ (Int.ofNat v441) p1.line.pin))/\((eqN x425 p1.line.node)=false->k448 false)) (fun v446=>(v446=true->(v440.length+([p1.value]:(List Nat)).length)*1<=2 ^ 47/\v441+1<2 ^ 63/\nx443 ((v440++([p1.value]:(List Nat))),(v441+1)))/\(v446=false->(v440.length+([x445]:(List Nat)).length)*1<=2 ^ 47/\v441+1<2 ^ 63/\nx443 ((v440++([x445]:(List Nat))),(v441+1)))))/\((ltN v441 x438.ins.length)=false->k437 v440)) (([]:List Nat),0)) (fun v435=>logic_Eval_wp x431.kind v435 (fun r457=>x425<p0.nodes.length/\∃ x458,v422[x425]?=some x458/\k427 (v422.set x425 r457))))/\(v429=false->k427 v422))) (fun v426=>x425<p0.nodes.length/\∃ x459,v426[x425]?=some x459/\x425<p0.nodes.length/\∃ x460,v426[x425]?=some x460/\v423+1<2 ^ 63/\nx424 ((v426.set x425 x459),(v423+1))))/\((ltN v423 r419.1.length)=false->k421 v422)) (v411,0)) (fun v420=>joinW (α:=(List Nat)) (fun k468=>loopW (S:=((List Nat)×Nat)) (fun (v470,v471) nx473=>((ltN v471 p0.outs.length)=true->∃ x474,p0.outs[v471]?=some x474/\x474<p0.nodes.length/\∃ x475,v420[x474]?=some x475/\(v470.length+([x475]:(List Nat)).length)*1<=2 ^ 47/\v471+1<2 ^ 63/\nx473 ((v470++([x475]:(List Nat))),(v471+1)))/\((ltN v471 p0.outs.length)=false->k468 v470)) (([]:List Nat),0)) (fun v466=>joinW (α:=(List Nat)) (fun k484=>loopW (S:=((List Nat)×Nat)) (fun (v486,v487) nx490=>((ltN v487 r401.length)=true->∃ x491,r401[v487]?=some x491/\joinW (α:=(List Nat)) (fun k499=>∃ x500,p0.nodes[x491]?=some x500/\loopW (S:=((List Nat)×Nat)) (fun (v502,v503) nx507=>((ltN v503 x500.ins.length)=true->∃ x508,x500.ins[v503]?=some x508/\x508<p0.nodes.length/\∃ x509,v420[x508]?=some x509/\joinW (α:=Bool) (fun k514=>((eqN x491 p1.line.node)=true->k514 (eqZ (Int.ofNat v503) p1.line.pin))/\((eqN x491 p1.line.node)=false->k514 false)) (fun v510=>(v510=true->(v502.length+([p1.value]:(List Nat)).length)*1<=2 ^ 47/\v503+1<2 ^ 63/\nx507 ((v502++([p1.value]:(List Nat))),(v503+1)))/\(v510=false->(v502.length+([x509]:(List Nat)).length)*1<=2 ^ 47/\v503+1<2 ^ 63/\nx507 ((v502++([x509]:(List Nat))),(v503+1)))))/\((ltN v503 x500.ins.length)=false->k499 v502)) (([]:List Nat),0)) (fun v495=>∃ x523,v495[0]?=some x523/\joinW (α:=Nat) (fun k528=>((eqN x523 3)=true->k528 2)/\((eqN x523 3)=false->k528 x523)) (fun v525=>(v486.length+([v525]:(List Nat)).length)*1<=2 ^ 47/\v487+1<2 ^ 63/\nx490 ((v486++([v525]:(List Nat))),(v487+1)))))/\((ltN v487 r401.length)=false->k484 v486)) (([]:List Nat),0)) (fun v481=>p0.nodes.length=v420.length/\K (r6.1,(⟨v466,v481⟩:Rsp),v420,0))))))))))))))))
theorem inject_both_walk {p0:Circ}{p1:Flt}{p2:Pat}{K:(Rsp×Rsp×(List Nat)×Nat)->Prop} (hm:inject_both_wp p0 p1 p2 K) {h0:Heap} (hB:HasB vars h0):∃ r,K r/\CallD Tryz.prog NG 40 ⟨[encCirc p0,encFlt p1,encPat p2]⟩ h0 ((fun (r:(Rsp×Rsp×(List Nat)×Nat))=>Value.tuple ⟨[encRsp (r.1),encRsp (r.2.1),(encL 1 n8) (r.2.2.1),i64 (r.2.2.2)]⟩) r) h0:=by
 unfold inject_both_wp at hm
 refine fw Tryz.func40 hB (enc:=(fun (r:(Rsp×Rsp×(List Nat)×Nat))=>Value.tuple ⟨[encRsp (r.1),encRsp (r.2.1),(encL 1 n8) (r.2.2.1),i64 (r.2.2.2)]⟩)) (fun r=>PureV.tup (AllPure.cons (pure_rsp _) (AllPure.cons (pure_rsp _) (AllPure.cons (pureL (fun _=>AllPure.cons (PureV.flat rfl) AllPure.nil)) (AllPure.cons (PureV.flat rfl) (AllPure.nil)))))) fun O=>?_;conv=>whnf
 refine gX ?_
 refine fz ?_;refine gH ?_
 refine fz ?_;refine gH ?_
 refine fz ?_;refine gH ?_
 (first|refine O.new (anew_alloc (l:=[(.slice none 0 0),(.slice none 0 0)]) rfl rfl rfl) fun g1 h O=>?_|refine O.newX (anew_alloc (l:=[(.slice none 0 0),(.slice none 0 0)]) rfl rfl rfl) fun g1 h O=>?_);refine gH ?_
 (first|refine O.new (anew_alloc (l:=[(.slice none 0 0),(.slice none 0 0)]) rfl rfl rfl) fun g3 h O=>?_|refine O.newX (anew_alloc (l:=[(.slice none 0 0),(.slice none 0 0)]) rfl rfl rfl) fun g3 h O=>?_);refine gH ?_
 refine gX ?_
 refine ca (faults_Check_walk hm O.has) fun r5 hm=>?_;refine gX ?_
 refine br hm (fun hm=>?_) fun hm=>?_
 ·refine gX ?_
  refine ldA (O.at (.tail _ (.head _))) ?_;refine gH ?_
  first|refine⟨.inr (.inr (loadAggK rfl (O.at (.tail _ (.head _))) rfl rfl (lbE rfl) rfl)),?_⟩|refine⟨.inr (.inl (by kernel_rfl)),?_⟩
  refine gX ?_
  refine ldA (O.at (.head _)) ?_;refine gH ?_
  first|refine⟨.inr (.inr (loadAggK rfl (O.at (.head _)) rfl rfl (lbE rfl) rfl)),?_⟩|refine⟨.inr (.inl (by kernel_rfl)),?_⟩
  refine gX ?_
  refine O.stSame 2 (.tail _ (.head _)) fun h hext O=>?_;conv=>whnf
  refine⟨.inr hext,?_⟩;refine gH ?_
  refine O.stSame 2 (.head _) fun h hext O=>?_;conv=>whnf
  refine⟨.inr hext,?_⟩;refine gX ?_
  refine⟨_,resAggK rfl rfl (O.at (.tail _ (.head _))) rfl rfl (lbE rfl) rfl,?_⟩;conv=>whnf
  refine⟨_,resAggK rfl rfl (O.at (.head _)) rfl rfl (lbE rfl) rfl,?_⟩;conv=>whnf
  exact⟨((⟨[],[]⟩:Rsp),(⟨[],[]⟩:Rsp),[],r5),hm,O.ext,fun h2 F=>VLe.tup (LLe.cons (VLe.agg (LLe.cons (VLe.nil _ _) (LLe.cons (VLe.nil _ _) (LLe.nil _)))) (LLe.cons (VLe.agg (LLe.cons (VLe.nil _ _) (LLe.cons (VLe.nil _ _) (LLe.nil _)))) (LLe.cons (VLe.nil _ _) (LLe.cons (VLe.refl _ _) (LLe.nil _)))))⟩
 ·refine gX ?_
  refine br hm (fun hm=>?_) fun hm=>?_
  ·refine gX ?_
   refine ldA (O.at (.tail _ (.head _))) ?_;refine gH ?_
   first|refine⟨.inr (.inr (loadAggK rfl (O.at (.tail _ (.head _))) rfl rfl (lbE rfl) rfl)),?_⟩|refine⟨.inr (.inl (by kernel_rfl)),?_⟩
   refine gX ?_
   refine ldA (O.at (.head _)) ?_;refine gH ?_
   first|refine⟨.inr (.inr (loadAggK rfl (O.at (.head _)) rfl rfl (lbE rfl) rfl)),?_⟩|refine⟨.inr (.inl (by kernel_rfl)),?_⟩
   refine gX ?_
   refine O.stSame 2 (.tail _ (.head _)) fun h hext O=>?_;conv=>whnf
   refine⟨.inr hext,?_⟩;refine gH ?_
   refine O.stSame 2 (.head _) fun h hext O=>?_;conv=>whnf
   refine⟨.inr hext,?_⟩;refine gX ?_
   refine⟨_,resAggK rfl rfl (O.at (.tail _ (.head _))) rfl rfl (lbE rfl) rfl,?_⟩;conv=>whnf
   refine⟨_,resAggK rfl rfl (O.at (.head _)) rfl rfl (lbE rfl) rfl,?_⟩;conv=>whnf
   exact⟨((⟨[],[]⟩:Rsp),(⟨[],[]⟩:Rsp),[],7),hm,O.ext,fun h2 F=>VLe.tup (LLe.cons (VLe.agg (LLe.cons (VLe.nil _ _) (LLe.cons (VLe.nil _ _) (LLe.nil _)))) (LLe.cons (VLe.agg (LLe.cons (VLe.nil _ _) (LLe.cons (VLe.nil _ _) (LLe.nil _)))) (LLe.cons (VLe.nil _ _) (LLe.cons (VLe.refl _ _) (LLe.nil _)))))⟩
  ·refine gX ?_
   refine ca (sims_Run_walk hm O.has) fun r6 hm=>?_;refine gH ?_
   refine O.stC 2 (.tail _ (.head _)) [((encL 1 n8) r6.1.out),((encL 1 n8) r6.1.next)] fun h O=>?_;refine gX ?_
   refine br hm (fun hm=>?_) fun hm=>?_
   ·refine gX ?_
    exact False.elim hm
   ·refine gX ?_
    refine fg Tryz.func74 ?_;refine gX ?_
    refine fz ?_;refine gH ?_
    refine fz ?_;refine gH ?_
    refine fz ?_;refine gH ?_
    apply Cs;conv=>whnf
    refine CodeS.drawF ?_;refine gH ?_
    (first|refine O.new (anew_alloc (l:=[(i64 0)]) rfl rfl rfl) fun g7 h O=>?_|refine O.newX (anew_alloc (l:=[(i64 0)]) rfl rfl rfl) fun g7 h O=>?_);refine gH ?_
    (first|refine O.new (anew_alloc (l:=[(i64 0)]) rfl rfl rfl) fun g9 h O=>?_|refine O.newX (anew_alloc (l:=[(i64 0)]) rfl rfl rfl) fun g9 h O=>?_);refine gH ?_
    refine O.stC 1 (.tail _ (.head _)) [(i64 p1.line.node)] fun h O=>?_;refine gH ?_
    refine O.stC 1 (.head _) [(i64 p1.other)] fun h O=>?_;refine gX ?_
    refine br hm (fun hm=>?_) fun hm=>?_
    ·apply Cs;conv=>whnf
     refine CodeS.freezeP (v:=(i64 p1.other)) O (.head _) (t2:=8) rfl rfl rfl fun h O=>?_;conv=>whnf
     refine CodeS.freezeP (v:=(i64 p1.line.node)) O (.tail _ (.head _)) (t2:=7) rfl rfl rfl fun h O=>?_;conv=>whnf
     refine CodeS.drawF ?_;refine gH ?_
     exact False.elim hm
    ·refine gX ?_
     refine br hm (fun hm=>?_) fun hm=>?_
     ·refine gX ?_
      refine fg Tryz.func111 ?_;refine gX ?_
      refine fz ?_;refine gH ?_
      refine fz ?_;refine gH ?_
      (first|refine O.new (boxK rfl) fun g11 h O=>?_|refine O.newX (boxK rfl) fun g11 h O=>?_);refine gH ?_
      refine gX ?_
      (first|refine O.new (boxK rfl) fun g13 h O=>?_|refine O.newX (boxK rfl) fun g13 h O=>?_);refine gH ?_
      refine gX ?_
      refine br hm (fun hm=>?_) fun hm=>?_
      ·refine gX ?_
       refine O.stC 1 (.head _) [((encL 4 encNode) p0.nodes),((encL 1 Value.string) p0.names),((encL 3 encMem) p0.mems),((encL 1 i64) p0.outs),(.slice none 0 0),(.func (.func 135) ⟨[]⟩ ⟨[(FP (encLnZ p1.line)),(.pointer (some ⟨g11,0,none⟩))]⟩),(.func (.func 109) ⟨[]⟩ ⟨[]⟩)] fun h O=>?_;refine gX ?_
       refine fg Tryz.func75 ?_;refine gX ?_
       refine fz ?_;refine gH ?_
       (first|refine O.new (anew_alloc (l:=[(.slice none 0 0),(.slice none 0 0)]) rfl rfl rfl) fun g15 h O=>?_|refine O.newX (anew_alloc (l:=[(.slice none 0 0),(.slice none 0 0)]) rfl rfl rfl) fun g15 h O=>?_);refine gH ?_
       refine gX ?_
       refine O.mkL (enc:=n8) 1 1 0 hm fun g17 h O hm=>?_;refine gH ?_
       refine O.stC 1 (.tail _ (.tail _ (.head _))) [((encL 4 encNode) p0.nodes),((encL 1 Value.string) p0.names),((encL 3 encMem) p0.mems),((encL 1 i64) p0.outs),(.slice (some ⟨g17,0,none⟩) p0.nodes.length p0.nodes.length),(.func (.func 135) ⟨[]⟩ ⟨[(FP (encLnZ p1.line)),(.pointer (some ⟨g11,0,none⟩))]⟩),(.func (.func 109) ⟨[]⟩ ⟨[]⟩)] fun h O=>?_;refine gH ?_
       apply Cs;conv=>whnf
       refine CodeS.freezeP (v:=(.agg ⟨[((encL 4 encNode) p0.nodes),((encL 1 Value.string) p0.names),((encL 3 encMem) p0.mems),((encL 1 i64) p0.outs),(.slice (some ⟨g17,0,none⟩) p0.nodes.length p0.nodes.length),(.func (.func 135) ⟨[]⟩ ⟨[(FP (encLnZ p1.line)),(.pointer (some ⟨g11,0,none⟩))]⟩),(.func (.func 109) ⟨[]⟩ ⟨[]⟩)]⟩)) O (.tail _ (.tail _ (.head _))) (t2:=0) rfl rfl rfl fun h O=>?_;conv=>whnf
       refine CodeS.freezeP (v:=(.agg ⟨[((encL 4 encNode) p0.nodes),((encL 1 Value.string) p0.names),((encL 3 encMem) p0.mems),((encL 1 i64) p0.outs),(.slice (some ⟨g17,0,none⟩) p0.nodes.length p0.nodes.length),(.func (.func 135) ⟨[]⟩ ⟨[(FP (encLnZ p1.line)),(.pointer (some ⟨g11,0,none⟩))]⟩),(.func (.func 109) ⟨[]⟩ ⟨[]⟩)]⟩)) O (.tail _ (.tail _ (.head _))) (t2:=22) rfl rfl rfl fun h O=>?_;conv=>whnf
       refine CodeS.freezeP (v:=(.agg ⟨[((encL 4 encNode) p0.nodes),((encL 1 Value.string) p0.names),((encL 3 encMem) p0.mems),((encL 1 i64) p0.outs),(.slice (some ⟨g17,0,none⟩) p0.nodes.length p0.nodes.length),(.func (.func 135) ⟨[]⟩ ⟨[(FP (encLnZ p1.line)),(.pointer (some ⟨g11,0,none⟩))]⟩),(.func (.func 109) ⟨[]⟩ ⟨[]⟩)]⟩)) O (.tail _ (.tail _ (.head _))) (t2:=23) rfl rfl rfl fun h O=>?_;conv=>whnf
       refine CodeS.freezeP (v:=(.agg ⟨[((encL 4 encNode) p0.nodes),((encL 1 Value.string) p0.names),((encL 3 encMem) p0.mems),((encL 1 i64) p0.outs),(.slice (some ⟨g17,0,none⟩) p0.nodes.length p0.nodes.length),(.func (.func 135) ⟨[]⟩ ⟨[(FP (encLnZ p1.line)),(.pointer (some ⟨g11,0,none⟩))]⟩),(.func (.func 109) ⟨[]⟩ ⟨[]⟩)]⟩)) O (.tail _ (.tail _ (.head _))) (t2:=24) rfl rfl rfl fun h O=>?_;conv=>whnf
       refine CodeS.freezeP (v:=(.agg ⟨[((encL 4 encNode) p0.nodes),((encL 1 Value.string) p0.names),((encL 3 encMem) p0.mems),((encL 1 i64) p0.outs),(.slice (some ⟨g17,0,none⟩) p0.nodes.length p0.nodes.length),(.func (.func 135) ⟨[]⟩ ⟨[(FP (encLnZ p1.line)),(.pointer (some ⟨g11,0,none⟩))]⟩),(.func (.func 109) ⟨[]⟩ ⟨[]⟩)]⟩)) O (.tail _ (.tail _ (.head _))) (t2:=25) rfl rfl rfl fun h O=>?_;conv=>whnf
       refine CodeS.freezeP (v:=(.agg ⟨[((encL 4 encNode) p0.nodes),((encL 1 Value.string) p0.names),((encL 3 encMem) p0.mems),((encL 1 i64) p0.outs),(.slice (some ⟨g17,0,none⟩) p0.nodes.length p0.nodes.length),(.func (.func 135) ⟨[]⟩ ⟨[(FP (encLnZ p1.line)),(.pointer (some ⟨g11,0,none⟩))]⟩),(.func (.func 109) ⟨[]⟩ ⟨[]⟩)]⟩)) O (.tail _ (.tail _ (.head _))) (t2:=26) rfl rfl rfl fun h O=>?_;conv=>whnf
       refine CodeS.freezeP (v:=(.agg ⟨[((encL 4 encNode) p0.nodes),((encL 1 Value.string) p0.names),((encL 3 encMem) p0.mems),((encL 1 i64) p0.outs),(.slice (some ⟨g17,0,none⟩) p0.nodes.length p0.nodes.length),(.func (.func 135) ⟨[]⟩ ⟨[(FP (encLnZ p1.line)),(.pointer (some ⟨g11,0,none⟩))]⟩),(.func (.func 109) ⟨[]⟩ ⟨[]⟩)]⟩)) O (.tail _ (.tail _ (.head _))) (t2:=30) rfl rfl rfl fun h O=>?_;refine gX ?_
       refine ca (netlists_States_walk hm O.has) fun r19 hm=>?_;refine gH ?_
       refine jn hm 189 [0,3,4,5] (fun s=>s) (fun v20 h=>Own vars h0 [((some g17),.cells (flatC (v20.map n8)) false),((some g11),.cells [(.func (.func 112) ⟨[]⟩ ⟨[(FP ((encL 1 n8) r6.2.1)),(.pointer (some ⟨g9,0,none⟩))]⟩)] false),((some g9),.cells [(i64 p1.other)] false),((some g15),.cells [(.slice none 0 0),(.slice none 0 0)] false),((some g1),.cells [((encL 1 n8) r6.1.out),((encL 1 n8) r6.1.next)] false),((some g3),.cells [(.slice none 0 0),(.slice none 0 0)] false),((some g13),.cells [((encL 4 encNode) p0.nodes),((encL 1 Value.string) p0.names),((encL 3 encMem) p0.mems),((encL 1 i64) p0.outs),(.slice (some ⟨g17,0,none⟩) p0.nodes.length p0.nodes.length),(.func (.func 135) ⟨[]⟩ ⟨[(FP (encLnZ p1.line)),(.pointer (some ⟨g11,0,none⟩))]⟩),(.func (.func 109) ⟨[]⟩ ⟨[]⟩)] true)] h) (fun v20=>[]) (fun hm=>?_) ?_
       ·refine gX ?_
        refine ca (netlists_Inputs_walk hm O.has) fun r22 hm=>?_;refine gX ?_
        refine lw 189 [0,3,4,5,41,42] (σ:=((List Nat)×Nat)) (fun s=>s) (fun (v23,v24) h=>Own vars h0 [((some g17),.cells (flatC (v23.map n8)) false),((some g11),.cells [(.func (.func 112) ⟨[]⟩ ⟨[(FP ((encL 1 n8) r6.2.1)),(.pointer (some ⟨g9,0,none⟩))]⟩)] false),((some g9),.cells [(i64 p1.other)] false),((some g15),.cells [(.slice none 0 0),(.slice none 0 0)] false),((some g1),.cells [((encL 1 n8) r6.1.out),((encL 1 n8) r6.1.next)] false),((some g3),.cells [(.slice none 0 0),(.slice none 0 0)] false),((some g13),.cells [((encL 4 encNode) p0.nodes),((encL 1 Value.string) p0.names),((encL 3 encMem) p0.mems),((encL 1 i64) p0.outs),(.slice (some ⟨g17,0,none⟩) p0.nodes.length p0.nodes.length),(.func (.func 135) ⟨[]⟩ ⟨[(FP (encLnZ p1.line)),(.pointer (some ⟨g11,0,none⟩))]⟩),(.func (.func 109) ⟨[]⟩ ⟨[]⟩)] true)] h) (fun (v23,v24)=>[(43,(i64 v24))]) ((List.replicate p0.nodes.length (0:Nat)),0) hm (O.sel [0,3,4,1,7,6,2] (by decide)) ?_
        clear hm;rintro⟨v23,v24⟩ nx25 base h hm O
        refine gX ?_
        refine br hm (fun hm=>?_) fun hm=>?_
        ·refine gX ?_
         refine atF hm fun x26 hx26 hm=>?_;refine gX ?_
         first|refine⟨.inr (.inr (rfl)),?_⟩|refine⟨.inr (.inl (by kernel_rfl)),?_⟩
         refine gX ?_
         first|refine⟨.inr (.inr (rfl)),?_⟩|refine⟨.inr (.inl (by kernel_rfl)),?_⟩
         refine gX ?_
         refine atF hm fun x27 hx27 hm=>?_;refine gH ?_
         refine ix 1 hm fun x28 hx28 hm=>?_;refine gH ?_
         refine O.stE 1 (.head _) hx28 x27 fun h O=>?_;refine gH ?_
         (first|refine⟨.inr (.inr (loadK rfl (O.at (.head _)) rfl rfl)),?_⟩|refine⟨.inr (.inr (loadK rfl (O.at (.tail _ (.head _))) rfl rfl)),?_⟩|refine⟨.inr (.inr (loadK rfl (O.at (.tail _ (.tail _ (.head _)))) rfl rfl)),?_⟩|refine⟨.inr (.inr (loadK rfl (O.at (.tail _ (.tail _ (.tail _ (.head _))))) rfl rfl)),?_⟩|refine⟨.inr (.inr (loadK rfl (O.at (.tail _ (.tail _ (.tail _ (.tail _ (.head _)))))) rfl rfl)),?_⟩|refine⟨.inr (.inr (loadK rfl (O.at (.tail _ (.tail _ (.tail _ (.tail _ (.tail _ (.head _))))))) rfl rfl)),?_⟩|refine⟨.inr (.inr (loadK rfl (O.at (.tail _ (.tail _ (.tail _ (.tail _ (.tail _ (.tail _ (.head _)))))))) rfl rfl)),?_⟩|refine⟨.inl (Ext.refl _),?_⟩|refine⟨.inr (.inr rfl),?_⟩|refine⟨.inr (by kernel_rfl),?_⟩|refine⟨.inl (by kernel_rfl),?_⟩|refine id ?_);refine gH ?_
         refine gX ?_
         refine aAdd hm fun hm=>?_;refine gH ?_
         exact jx ((v23.set x26 x27),(v24+1)) hm O
        ·refine gX ?_
         exact jx v23 hm O
       ·clear hm;rintro v20 base h hm O
        conv=>whnf
        refine jn hm 189 [0,4,5] (fun s=>s) (fun v29 h=>Own vars h0 [((some g17),.cells (flatC (v29.map n8)) false),((some g11),.cells [(.func (.func 112) ⟨[]⟩ ⟨[(FP ((encL 1 n8) r6.2.1)),(.pointer (some ⟨g9,0,none⟩))]⟩)] false),((some g9),.cells [(i64 p1.other)] false),((some g15),.cells [(.slice none 0 0),(.slice none 0 0)] false),((some g1),.cells [((encL 1 n8) r6.1.out),((encL 1 n8) r6.1.next)] false),((some g3),.cells [(.slice none 0 0),(.slice none 0 0)] false),((some g13),.cells [((encL 4 encNode) p0.nodes),((encL 1 Value.string) p0.names),((encL 3 encMem) p0.mems),((encL 1 i64) p0.outs),(.slice (some ⟨g17,0,none⟩) p0.nodes.length p0.nodes.length),(.func (.func 135) ⟨[]⟩ ⟨[(FP (encLnZ p1.line)),(.pointer (some ⟨g11,0,none⟩))]⟩),(.func (.func 109) ⟨[]⟩ ⟨[]⟩)] true)] h) (fun v29=>[]) (fun hm=>?_) ?_
        ·refine gX ?_
         refine lw 189 [0,3,4,5,60,61] (σ:=((List Nat)×Nat)) (fun s=>s) (fun (v31,v32) h=>Own vars h0 [((some g17),.cells (flatC (v31.map n8)) false),((some g11),.cells [(.func (.func 112) ⟨[]⟩ ⟨[(FP ((encL 1 n8) r6.2.1)),(.pointer (some ⟨g9,0,none⟩))]⟩)] false),((some g9),.cells [(i64 p1.other)] false),((some g15),.cells [(.slice none 0 0),(.slice none 0 0)] false),((some g1),.cells [((encL 1 n8) r6.1.out),((encL 1 n8) r6.1.next)] false),((some g3),.cells [(.slice none 0 0),(.slice none 0 0)] false),((some g13),.cells [((encL 4 encNode) p0.nodes),((encL 1 Value.string) p0.names),((encL 3 encMem) p0.mems),((encL 1 i64) p0.outs),(.slice (some ⟨g17,0,none⟩) p0.nodes.length p0.nodes.length),(.func (.func 135) ⟨[]⟩ ⟨[(FP (encLnZ p1.line)),(.pointer (some ⟨g11,0,none⟩))]⟩),(.func (.func 109) ⟨[]⟩ ⟨[]⟩)] true)] h) (fun (v31,v32)=>[(62,(i64 v32))]) (v20,0) hm O ?_
         clear hm;rintro⟨v31,v32⟩ nx33 base h hm O
         refine gX ?_
         refine br hm (fun hm=>?_) fun hm=>?_
         ·refine gX ?_
          refine atF hm fun x34 hx34 hm=>?_;refine gX ?_
          first|refine⟨.inr (.inr (rfl)),?_⟩|refine⟨.inr (.inl (by kernel_rfl)),?_⟩
          refine gX ?_
          first|refine⟨.inr (.inr (rfl)),?_⟩|refine⟨.inr (.inl (by kernel_rfl)),?_⟩
          refine gX ?_
          refine atF hm fun x35 hx35 hm=>?_;refine gH ?_
          refine ix 1 hm fun x36 hx36 hm=>?_;refine gH ?_
          refine O.stE 1 (.head _) hx36 x35 fun h O=>?_;refine gH ?_
          (first|refine⟨.inr (.inr (loadK rfl (O.at (.head _)) rfl rfl)),?_⟩|refine⟨.inr (.inr (loadK rfl (O.at (.tail _ (.head _))) rfl rfl)),?_⟩|refine⟨.inr (.inr (loadK rfl (O.at (.tail _ (.tail _ (.head _)))) rfl rfl)),?_⟩|refine⟨.inr (.inr (loadK rfl (O.at (.tail _ (.tail _ (.tail _ (.head _))))) rfl rfl)),?_⟩|refine⟨.inr (.inr (loadK rfl (O.at (.tail _ (.tail _ (.tail _ (.tail _ (.head _)))))) rfl rfl)),?_⟩|refine⟨.inr (.inr (loadK rfl (O.at (.tail _ (.tail _ (.tail _ (.tail _ (.tail _ (.head _))))))) rfl rfl)),?_⟩|refine⟨.inr (.inr (loadK rfl (O.at (.tail _ (.tail _ (.tail _ (.tail _ (.tail _ (.tail _ (.head _)))))))) rfl rfl)),?_⟩|refine⟨.inl (Ext.refl _),?_⟩|refine⟨.inr (.inr rfl),?_⟩|refine⟨.inr (by kernel_rfl),?_⟩|refine⟨.inl (by kernel_rfl),?_⟩|refine id ?_);refine gH ?_
          refine gX ?_
          refine aAdd hm fun hm=>?_;refine gH ?_
          exact jx ((v31.set x34 x35),(v32+1)) hm O
         ·refine gX ?_
          exact jx v31 hm O
        ·clear hm;rintro v29 base h hm O
         refine gX ?_
         refine ca (netlists_Order_walk hm O.has) fun r37 hm=>?_;refine gH ?_
         apply Cs;conv=>whnf
         apply Cs;refine gH ?_
         refine jn hm 189 [0,4,5] (fun s=>s) (fun v38 h=>Own vars h0 [((some g17),.cells (flatC (v38.map n8)) false),((some g11),.cells [(.func (.func 112) ⟨[]⟩ ⟨[(FP ((encL 1 n8) r6.2.1)),(.pointer (some ⟨g9,0,none⟩))]⟩)] false),((some g9),.cells [(i64 p1.other)] false),((some g15),.cells [(.slice none 0 0),(.slice none 0 0)] false),((some g1),.cells [((encL 1 n8) r6.1.out),((encL 1 n8) r6.1.next)] false),((some g3),.cells [(.slice none 0 0),(.slice none 0 0)] false),((some g13),.cells [((encL 4 encNode) p0.nodes),((encL 1 Value.string) p0.names),((encL 3 encMem) p0.mems),((encL 1 i64) p0.outs),(.slice (some ⟨g17,0,none⟩) p0.nodes.length p0.nodes.length),(.func (.func 135) ⟨[]⟩ ⟨[(FP (encLnZ p1.line)),(.pointer (some ⟨g11,0,none⟩))]⟩),(.func (.func 109) ⟨[]⟩ ⟨[]⟩)] true)] h) (fun v38=>[]) (fun hm=>?_) ?_
         ·refine gX ?_
          refine lw 189 [0,4,5,12,89,90] (σ:=((List Nat)×Nat)) (fun s=>s) (fun (v40,v41) h=>Own vars h0 [((some g17),.cells (flatC (v40.map n8)) false),((some g11),.cells [(.func (.func 112) ⟨[]⟩ ⟨[(FP ((encL 1 n8) r6.2.1)),(.pointer (some ⟨g9,0,none⟩))]⟩)] false),((some g9),.cells [(i64 p1.other)] false),((some g15),.cells [(.slice none 0 0),(.slice none 0 0)] false),((some g1),.cells [((encL 1 n8) r6.1.out),((encL 1 n8) r6.1.next)] false),((some g3),.cells [(.slice none 0 0),(.slice none 0 0)] false),((some g13),.cells [((encL 4 encNode) p0.nodes),((encL 1 Value.string) p0.names),((encL 3 encMem) p0.mems),((encL 1 i64) p0.outs),(.slice (some ⟨g17,0,none⟩) p0.nodes.length p0.nodes.length),(.func (.func 135) ⟨[]⟩ ⟨[(FP (encLnZ p1.line)),(.pointer (some ⟨g11,0,none⟩))]⟩),(.func (.func 109) ⟨[]⟩ ⟨[]⟩)] true)] h) (fun (v40,v41)=>[(91,(i64 v41))]) (v29,0) hm O ?_
          clear hm;rintro⟨v40,v41⟩ nx42 base h hm O
          refine gX ?_
          refine br hm (fun hm=>?_) fun hm=>?_
          ·refine gX ?_
           refine atF hm fun x43 hx43 hm=>?_;refine gH ?_
           refine jn hm 189 [0,4,5,12,14,89,90,91] (fun s=>s) (fun v44 h=>Own vars h0 [((some g17),.cells (flatC (v44.map n8)) false),((some g11),.cells [(.func (.func 112) ⟨[]⟩ ⟨[(FP ((encL 1 n8) r6.2.1)),(.pointer (some ⟨g9,0,none⟩))]⟩)] false),((some g9),.cells [(i64 p1.other)] false),((some g15),.cells [(.slice none 0 0),(.slice none 0 0)] false),((some g1),.cells [((encL 1 n8) r6.1.out),((encL 1 n8) r6.1.next)] false),((some g3),.cells [(.slice none 0 0),(.slice none 0 0)] false),((some g13),.cells [((encL 4 encNode) p0.nodes),((encL 1 Value.string) p0.names),((encL 3 encMem) p0.mems),((encL 1 i64) p0.outs),(.slice (some ⟨g17,0,none⟩) p0.nodes.length p0.nodes.length),(.func (.func 135) ⟨[]⟩ ⟨[(FP (encLnZ p1.line)),(.pointer (some ⟨g11,0,none⟩))]⟩),(.func (.func 109) ⟨[]⟩ ⟨[]⟩)] true)] h) (fun v44=>[]) (fun hm=>?_) ?_
           ·refine gX ?_
            refine atF hm fun x46 hx46 hm=>?_;refine gH ?_
            refine jn hm 189 [0,4,5,12,14,89,90,91] (fun s=>s) (fun v47 h=>Own vars h0 [((some g17),.cells (flatC (v40.map n8)) false),((some g11),.cells [(.func (.func 112) ⟨[]⟩ ⟨[(FP ((encL 1 n8) r6.2.1)),(.pointer (some ⟨g9,0,none⟩))]⟩)] false),((some g9),.cells [(i64 p1.other)] false),((some g15),.cells [(.slice none 0 0),(.slice none 0 0)] false),((some g1),.cells [((encL 1 n8) r6.1.out),((encL 1 n8) r6.1.next)] false),((some g3),.cells [(.slice none 0 0),(.slice none 0 0)] false),((some g13),.cells [((encL 4 encNode) p0.nodes),((encL 1 Value.string) p0.names),((encL 3 encMem) p0.mems),((encL 1 i64) p0.outs),(.slice (some ⟨g17,0,none⟩) p0.nodes.length p0.nodes.length),(.func (.func 135) ⟨[]⟩ ⟨[(FP (encLnZ p1.line)),(.pointer (some ⟨g11,0,none⟩))]⟩),(.func (.func 109) ⟨[]⟩ ⟨[]⟩)] true)] h) (fun v47=>[(109,(.bool v47))]) (fun hm=>?_) ?_
            ·refine gX ?_
             refine br hm (fun hm=>?_) fun hm=>?_
             ·refine gX ?_
              exact jx (neN x46.kind 14) hm O
             ·refine gX ?_
              exact jx false hm O
            ·clear hm;rintro v47 base h hm O
             refine gX ?_
             refine br hm (fun hm=>?_) fun hm=>?_
             ·refine CodeS.drawF ?_;refine gH ?_
              refine fg Tryz.func114 ?_;conv=>whnf
              apply Cs;conv=>whnf
              apply Cs;refine gH ?_
              apply Cs;conv=>whnf
              refine CodeS.drawF ?_;refine gH ?_
              refine atF hm fun x49 hx49 hm=>?_;refine gH ?_
              refine fg Tryz.func115 ?_;conv=>whnf
              apply Cs;conv=>whnf
              apply Cs;refine gH ?_
              have O:=O.addNil (.cells (flatC ((([]:List Nat)).map n8)) false)
              apply Cs;conv=>whnf
              apply Cs;refine gH ?_
              have O:=O.addNil (.cells (flatC ((([]:List Nat)).map n8)) false)
              refine jn (σ:=(List Nat)×Option Nat) hm 42 [] (fun s=>s.1) (fun (v53,a52) h=>(a52=none->v53=[])/\Own vars h0 [(a52,.cells (flatC (v53.map n8)) false),((some g1),.cells [((encL 1 n8) r6.1.out),((encL 1 n8) r6.1.next)] false),((some g3),.cells [(.slice none 0 0),(.slice none 0 0)] false),((some g13),.cells [((encL 4 encNode) p0.nodes),((encL 1 Value.string) p0.names),((encL 3 encMem) p0.mems),((encL 1 i64) p0.outs),(.slice (some ⟨g17,0,none⟩) p0.nodes.length p0.nodes.length),(.func (.func 135) ⟨[]⟩ ⟨[(FP (encLnZ p1.line)),(.pointer (some ⟨g11,0,none⟩))]⟩),(.func (.func 109) ⟨[]⟩ ⟨[]⟩)] true),((some g17),.cells (flatC (v40.map n8)) false),((some g11),.cells [(.func (.func 112) ⟨[]⟩ ⟨[(FP ((encL 1 n8) r6.2.1)),(.pointer (some ⟨g9,0,none⟩))]⟩)] false),((some g9),.cells [(i64 p1.other)] false),((some g15),.cells [(.slice none 0 0),(.slice none 0 0)] false)] h) (fun (v53,a52)=>[(5,(growV 1 a52 (v53.map n8)))]) (fun hm=>?_) ?_
              ·refine gX ?_
               refine atF hm fun x56 hx56 hm=>?_;refine gX ?_
               refine lw 42 [0,1,16,17] (σ:=((List Nat)×Nat)×Option Nat) (fun s=>s.1) (fun ((v58,v59),a57) h=>(a57=none->v58=[])/\Own vars h0 [((some g17),.cells (flatC (v40.map n8)) false),((some g11),.cells [(.func (.func 112) ⟨[]⟩ ⟨[(FP ((encL 1 n8) r6.2.1)),(.pointer (some ⟨g9,0,none⟩))]⟩)] false),((some g9),.cells [(i64 p1.other)] false),(a57,.cells (flatC (v58.map n8)) false),((some g1),.cells [((encL 1 n8) r6.1.out),((encL 1 n8) r6.1.next)] false),((some g3),.cells [(.slice none 0 0),(.slice none 0 0)] false),((some g13),.cells [((encL 4 encNode) p0.nodes),((encL 1 Value.string) p0.names),((encL 3 encMem) p0.mems),((encL 1 i64) p0.outs),(.slice (some ⟨g17,0,none⟩) p0.nodes.length p0.nodes.length),(.func (.func 135) ⟨[]⟩ ⟨[(FP (encLnZ p1.line)),(.pointer (some ⟨g11,0,none⟩))]⟩),(.func (.func 109) ⟨[]⟩ ⟨[]⟩)] true),((some g15),.cells [(.slice none 0 0),(.slice none 0 0)] false)] h) (fun ((v58,v59),a57)=>[(5,(growV 1 a57 (v58.map n8))),(18,(i64 v59))]) ((([]:List Nat),0),none) hm ⟨(fun _=>rfl),(O.sel [2,3,4,0,6,7,8,5] (by decide))⟩ ?_
               clear hm;rintro⟨⟨v58,v59⟩,a57⟩ nx61 base h hm ⟨ha60,O⟩
               refine gX ?_
               refine br hm (fun hm=>?_) fun hm=>?_
               ·refine gX ?_
                refine atF hm fun x62 hx62 hm=>?_;refine gX ?_
                first|refine⟨.inr (.inr (rfl)),?_⟩|refine⟨.inr (.inl (by kernel_rfl)),?_⟩
                refine gX ?_
                first|refine⟨.inr (.inr (rfl)),?_⟩|refine⟨.inr (.inl (by kernel_rfl)),?_⟩
                refine gX ?_
                refine ix 1 hm fun x63 hx63 hm=>?_;refine gH ?_
                refine⟨_,loadK rfl (O.at (.head _)) rfl (cell_map (enc:=n8) (s:=1) (k:=0) (fun _=>rfl) hx63 rfl),?_⟩;refine gH ?_
                refine fg Tryz.func109 ?_;refine gX ?_
                (first|refine⟨.inr (.inr (loadK rfl (O.at (.head _)) rfl rfl)),?_⟩|refine⟨.inr (.inr (loadK rfl (O.at (.tail _ (.head _))) rfl rfl)),?_⟩|refine⟨.inr (.inr (loadK rfl (O.at (.tail _ (.tail _ (.head _)))) rfl rfl)),?_⟩|refine⟨.inr (.inr (loadK rfl (O.at (.tail _ (.tail _ (.tail _ (.head _))))) rfl rfl)),?_⟩|refine⟨.inr (.inr (loadK rfl (O.at (.tail _ (.tail _ (.tail _ (.tail _ (.head _)))))) rfl rfl)),?_⟩|refine⟨.inr (.inr (loadK rfl (O.at (.tail _ (.tail _ (.tail _ (.tail _ (.tail _ (.head _))))))) rfl rfl)),?_⟩|refine⟨.inr (.inr (loadK rfl (O.at (.tail _ (.tail _ (.tail _ (.tail _ (.tail _ (.tail _ (.head _)))))))) rfl rfl)),?_⟩|refine⟨.inl (Ext.refl _),?_⟩|refine⟨.inr (.inr rfl),?_⟩|refine⟨.inr (by kernel_rfl),?_⟩|refine⟨.inl (by kernel_rfl),?_⟩|refine id ?_);refine gH ?_
                refine O.buildLX (l:=([x63]:(List Nat))) (enc:=n8) (s:=1) (z:=(n8 0)) rfl rfl (by kernel_rfl) (by kernel_rfl) rfl rfl rfl rfl (fun _=>rfl) fun g64 h O=>?_;refine gH ?_
                refine O.appendL (enc:=n8) (l:=v58) (new:=([x63]:(List Nat))) (s:=1) (b:=1) (.tail _ (.tail _ (.tail _ (.tail _ (.head _))))) ha60 rfl rfl rfl rfl rfl rfl rfl rfl (YOk.own (O.at (.head _)) rfl (fun _=>rfl) rfl) (fun _=>rfl) (fun _=>rfl) (by decide) hm.1 fun a66 h ha67 O=>?_;refine gH ?_
                (first|refine⟨.inr (.inr (loadK rfl (O.at (.head _)) rfl rfl)),?_⟩|refine⟨.inr (.inr (loadK rfl (O.at (.tail _ (.head _))) rfl rfl)),?_⟩|refine⟨.inr (.inr (loadK rfl (O.at (.tail _ (.tail _ (.head _)))) rfl rfl)),?_⟩|refine⟨.inr (.inr (loadK rfl (O.at (.tail _ (.tail _ (.tail _ (.head _))))) rfl rfl)),?_⟩|refine⟨.inr (.inr (loadK rfl (O.at (.tail _ (.tail _ (.tail _ (.tail _ (.head _)))))) rfl rfl)),?_⟩|refine⟨.inr (.inr (loadK rfl (O.at (.tail _ (.tail _ (.tail _ (.tail _ (.tail _ (.head _))))))) rfl rfl)),?_⟩|refine⟨.inr (.inr (loadK rfl (O.at (.tail _ (.tail _ (.tail _ (.tail _ (.tail _ (.tail _ (.head _)))))))) rfl rfl)),?_⟩|refine⟨.inl (Ext.refl _),?_⟩|refine⟨.inr (.inr rfl),?_⟩|refine⟨.inr (by kernel_rfl),?_⟩|refine⟨.inl (by kernel_rfl),?_⟩|refine id ?_);refine gH ?_
                replace hm:=hm.2
                refine gX ?_
                refine aAdd hm fun hm=>?_;refine gH ?_
                exact jx (((v58++([x63]:(List Nat))),(v59+1)),a66) hm ⟨ha67,(O.sel [1,2,3,4,5,6,7,8] (by decide))⟩
               ·refine gX ?_
                exact jx (v58,a57) hm ⟨ha60,(O.sel [3,4,5,6,0,1,2,7] (by decide))⟩
              ·clear hm;rintro⟨v53,a52⟩ base h hm ⟨ha54,O⟩
               refine gX ?_
               refine CallD.useB (fun _ hb=>logic_Eval_walk hm hb) (fun _=>flatB_ok rfl) fzVars O.has (fun h2 F=>(LLe.cons (VLe.refl _ _) (LLe.cons (O.grownL F (Nat.zero_le _) (.head _) ha54 (fun _=>rfl)) (LLe.nil _)))) (by kernel_rfl) (fun r68 hm'=>?_);replace hm:=hm';refine gX ?_
               refine ix 1 hm fun x69 hx69 hm=>?_;refine gH ?_
               refine O.stE 1 (.tail _ (.tail _ (.tail _ (.tail _ (.head _))))) hx69 r68 fun h O=>?_;refine gH ?_
               exact jx (v40.set x43 r68) hm (O.sel [4,5,6,7,1,2,3] (by decide))
             ·refine gX ?_
              exact jx v40 hm O
           ·clear hm;rintro v44 base h hm O
            refine gX ?_
            first|refine⟨.inr (.inr (rfl)),?_⟩|refine⟨.inr (.inl (by kernel_rfl)),?_⟩
            refine gX ?_
            first|refine⟨.inr (.inr (rfl)),?_⟩|refine⟨.inr (.inl (by kernel_rfl)),?_⟩
            refine gX ?_
            first|refine⟨.inr (.inr (rfl)),?_⟩|refine⟨.inr (.inl (by kernel_rfl)),?_⟩
            refine gX ?_
            refine ix 1 hm fun x70 hx70 hm=>?_;refine gH ?_
            refine⟨_,loadK rfl (O.at (.head _)) rfl (cell_map (enc:=n8) (s:=1) (k:=0) (fun _=>rfl) hx70 rfl),?_⟩;refine gH ?_
            refine fg Tryz.func135 ?_;refine gX ?_
            refine br hm (fun hm=>?_) fun hm=>?_
            ·refine gX ?_
             refine fg Tryz.func112 ?_;refine gX ?_
             refine atF hm fun x71 hx71 hm=>?_;refine gX ?_
             (first|refine⟨.inr (.inr (loadK rfl (O.at (.head _)) rfl rfl)),?_⟩|refine⟨.inr (.inr (loadK rfl (O.at (.tail _ (.head _))) rfl rfl)),?_⟩|refine⟨.inr (.inr (loadK rfl (O.at (.tail _ (.tail _ (.head _)))) rfl rfl)),?_⟩|refine⟨.inr (.inr (loadK rfl (O.at (.tail _ (.tail _ (.tail _ (.head _))))) rfl rfl)),?_⟩|refine⟨.inr (.inr (loadK rfl (O.at (.tail _ (.tail _ (.tail _ (.tail _ (.head _)))))) rfl rfl)),?_⟩|refine⟨.inr (.inr (loadK rfl (O.at (.tail _ (.tail _ (.tail _ (.tail _ (.tail _ (.head _))))))) rfl rfl)),?_⟩|refine⟨.inr (.inr (loadK rfl (O.at (.tail _ (.tail _ (.tail _ (.tail _ (.tail _ (.tail _ (.head _)))))))) rfl rfl)),?_⟩|refine⟨.inl (Ext.refl _),?_⟩|refine⟨.inr (.inr rfl),?_⟩|refine⟨.inr (by kernel_rfl),?_⟩|refine⟨.inl (by kernel_rfl),?_⟩|refine id ?_);refine gH ?_
             refine ix 1 hm fun x72 hx72 hm=>?_;refine gH ?_
             refine O.stE 1 (.head _) hx72 x71 fun h O=>?_;refine gH ?_
             (first|refine⟨.inr (.inr (loadK rfl (O.at (.head _)) rfl rfl)),?_⟩|refine⟨.inr (.inr (loadK rfl (O.at (.tail _ (.head _))) rfl rfl)),?_⟩|refine⟨.inr (.inr (loadK rfl (O.at (.tail _ (.tail _ (.head _)))) rfl rfl)),?_⟩|refine⟨.inr (.inr (loadK rfl (O.at (.tail _ (.tail _ (.tail _ (.head _))))) rfl rfl)),?_⟩|refine⟨.inr (.inr (loadK rfl (O.at (.tail _ (.tail _ (.tail _ (.tail _ (.head _)))))) rfl rfl)),?_⟩|refine⟨.inr (.inr (loadK rfl (O.at (.tail _ (.tail _ (.tail _ (.tail _ (.tail _ (.head _))))))) rfl rfl)),?_⟩|refine⟨.inr (.inr (loadK rfl (O.at (.tail _ (.tail _ (.tail _ (.tail _ (.tail _ (.tail _ (.head _)))))))) rfl rfl)),?_⟩|refine⟨.inl (Ext.refl _),?_⟩|refine⟨.inr (.inr rfl),?_⟩|refine⟨.inr (by kernel_rfl),?_⟩|refine⟨.inl (by kernel_rfl),?_⟩|refine id ?_);refine gH ?_
             refine gX ?_
             refine aAdd hm fun hm=>?_;refine gH ?_
             exact jx ((v44.set x43 x71),(v41+1)) hm O
            ·refine gX ?_
             (first|refine⟨.inr (.inr (loadK rfl (O.at (.head _)) rfl rfl)),?_⟩|refine⟨.inr (.inr (loadK rfl (O.at (.tail _ (.head _))) rfl rfl)),?_⟩|refine⟨.inr (.inr (loadK rfl (O.at (.tail _ (.tail _ (.head _)))) rfl rfl)),?_⟩|refine⟨.inr (.inr (loadK rfl (O.at (.tail _ (.tail _ (.tail _ (.head _))))) rfl rfl)),?_⟩|refine⟨.inr (.inr (loadK rfl (O.at (.tail _ (.tail _ (.tail _ (.tail _ (.head _)))))) rfl rfl)),?_⟩|refine⟨.inr (.inr (loadK rfl (O.at (.tail _ (.tail _ (.tail _ (.tail _ (.tail _ (.head _))))))) rfl rfl)),?_⟩|refine⟨.inr (.inr (loadK rfl (O.at (.tail _ (.tail _ (.tail _ (.tail _ (.tail _ (.tail _ (.head _)))))))) rfl rfl)),?_⟩|refine⟨.inl (Ext.refl _),?_⟩|refine⟨.inr (.inr rfl),?_⟩|refine⟨.inr (by kernel_rfl),?_⟩|refine⟨.inl (by kernel_rfl),?_⟩|refine id ?_);refine gH ?_
             refine ix 1 hm fun x73 hx73 hm=>?_;refine gH ?_
             refine O.stE 1 (.head _) hx73 x70 fun h O=>?_;refine gH ?_
             (first|refine⟨.inr (.inr (loadK rfl (O.at (.head _)) rfl rfl)),?_⟩|refine⟨.inr (.inr (loadK rfl (O.at (.tail _ (.head _))) rfl rfl)),?_⟩|refine⟨.inr (.inr (loadK rfl (O.at (.tail _ (.tail _ (.head _)))) rfl rfl)),?_⟩|refine⟨.inr (.inr (loadK rfl (O.at (.tail _ (.tail _ (.tail _ (.head _))))) rfl rfl)),?_⟩|refine⟨.inr (.inr (loadK rfl (O.at (.tail _ (.tail _ (.tail _ (.tail _ (.head _)))))) rfl rfl)),?_⟩|refine⟨.inr (.inr (loadK rfl (O.at (.tail _ (.tail _ (.tail _ (.tail _ (.tail _ (.head _))))))) rfl rfl)),?_⟩|refine⟨.inr (.inr (loadK rfl (O.at (.tail _ (.tail _ (.tail _ (.tail _ (.tail _ (.tail _ (.head _)))))))) rfl rfl)),?_⟩|refine⟨.inl (Ext.refl _),?_⟩|refine⟨.inr (.inr rfl),?_⟩|refine⟨.inr (by kernel_rfl),?_⟩|refine⟨.inl (by kernel_rfl),?_⟩|refine id ?_);refine gH ?_
             refine gX ?_
             refine aAdd hm fun hm=>?_;refine gH ?_
             exact jx ((v44.set x43 x70),(v41+1)) hm O
          ·refine gX ?_
           exact jx v40 hm O
         ·clear hm;rintro v38 base h hm O
          refine gX ?_
          have O:=O.addNil (.cells (flatC ((([]:List Nat)).map n8)) false)
          have O:=O.addNil (.cells (flatC ((([]:List Nat)).map n8)) false)
          (first|refine O.new (anew_alloc (l:=[(.slice none 0 0),(.slice none 0 0)]) rfl rfl rfl) fun g74 h O=>?_|refine O.newX (anew_alloc (l:=[(.slice none 0 0),(.slice none 0 0)]) rfl rfl rfl) fun g74 h O=>?_);refine gH ?_
          refine jn (σ:=(List Nat)×Option Nat) hm 189 [0,4,5,16] (fun s=>s.1) (fun (v79,a78) h=>(a78=none->v79=[])/\Own vars h0 [((some g17),.cells (flatC (v38.map n8)) false),((some g11),.cells [(.func (.func 112) ⟨[]⟩ ⟨[(FP ((encL 1 n8) r6.2.1)),(.pointer (some ⟨g9,0,none⟩))]⟩)] false),((some g9),.cells [(i64 p1.other)] false),((some g15),.cells [(.slice none 0 0),(.slice none 0 0)] false),((some g74),.cells [(growV 1 a78 (v79.map n8)),(growV 1 none (([]:List Nat).map n8))] false),(a78,.cells (flatC (v79.map n8)) false),(none,.cells (flatC (([]:List Nat).map n8)) false),((some g1),.cells [((encL 1 n8) r6.1.out),((encL 1 n8) r6.1.next)] false),((some g3),.cells [(.slice none 0 0),(.slice none 0 0)] false),((some g13),.cells [((encL 4 encNode) p0.nodes),((encL 1 Value.string) p0.names),((encL 3 encMem) p0.mems),((encL 1 i64) p0.outs),(.slice (some ⟨g17,0,none⟩) p0.nodes.length p0.nodes.length),(.func (.func 135) ⟨[]⟩ ⟨[(FP (encLnZ p1.line)),(.pointer (some ⟨g11,0,none⟩))]⟩),(.func (.func 109) ⟨[]⟩ ⟨[]⟩)] true)] h) (fun (v79,a78)=>[]) (fun hm=>?_) ?_
          ·refine gX ?_
           refine lw 189 [0,4,5,16,143,144] (σ:=((List Nat)×Nat)×Option Nat) (fun s=>s.1) (fun ((v83,v84),a82) h=>(a82=none->v83=[])/\Own vars h0 [((some g17),.cells (flatC (v38.map n8)) false),((some g11),.cells [(.func (.func 112) ⟨[]⟩ ⟨[(FP ((encL 1 n8) r6.2.1)),(.pointer (some ⟨g9,0,none⟩))]⟩)] false),((some g9),.cells [(i64 p1.other)] false),((some g15),.cells [(.slice none 0 0),(.slice none 0 0)] false),((some g74),.cells [(growV 1 a82 (v83.map n8)),(growV 1 none (([]:List Nat).map n8))] false),(a82,.cells (flatC (v83.map n8)) false),(none,.cells (flatC (([]:List Nat).map n8)) false),((some g1),.cells [((encL 1 n8) r6.1.out),((encL 1 n8) r6.1.next)] false),((some g3),.cells [(.slice none 0 0),(.slice none 0 0)] false),((some g13),.cells [((encL 4 encNode) p0.nodes),((encL 1 Value.string) p0.names),((encL 3 encMem) p0.mems),((encL 1 i64) p0.outs),(.slice (some ⟨g17,0,none⟩) p0.nodes.length p0.nodes.length),(.func (.func 135) ⟨[]⟩ ⟨[(FP (encLnZ p1.line)),(.pointer (some ⟨g11,0,none⟩))]⟩),(.func (.func 109) ⟨[]⟩ ⟨[]⟩)] true)] h) (fun ((v83,v84),a82)=>[(145,(i64 v84))]) ((([]:List Nat),0),none) hm ⟨(fun _=>rfl),(O.sel [3,4,5,6,0,2,1,7,8,9] (by decide))⟩ ?_
           clear hm;rintro⟨⟨v83,v84⟩,a82⟩ nx86 base h hm ⟨ha85,O⟩
           refine gX ?_
           refine br hm (fun hm=>?_) fun hm=>?_
           ·refine gX ?_
            refine atF hm fun x87 hx87 hm=>?_;refine gX ?_
            refine ldO (O.at (.tail _ (.tail _ (.tail _ (.tail _ (.head _)))))) ?_;refine gH ?_
            first|refine⟨.inr (.inr (loadK rfl (O.at (.tail _ (.tail _ (.tail _ (.tail _ (.head _)))))) rfl rfl)),?_⟩|refine⟨.inr (.inl (by kernel_rfl)),?_⟩
            refine gX ?_
            first|refine⟨.inr (.inr (rfl)),?_⟩|refine⟨.inr (.inl (by kernel_rfl)),?_⟩
            refine gX ?_
            refine ix 1 hm fun x88 hx88 hm=>?_;refine gH ?_
            refine⟨_,loadK rfl (O.at (.head _)) rfl (cell_map (enc:=n8) (s:=1) (k:=0) (fun _=>rfl) hx88 rfl),?_⟩;refine gH ?_
            refine O.buildLX (l:=([x88]:(List Nat))) (enc:=n8) (s:=1) (z:=(n8 0)) rfl rfl (by kernel_rfl) (by kernel_rfl) rfl rfl rfl rfl (fun _=>rfl) fun g89 h O=>?_;refine gH ?_
            refine O.appendL (enc:=n8) (l:=v83) (new:=([x88]:(List Nat))) (s:=1) (b:=1) (.tail _ (.tail _ (.tail _ (.tail _ (.tail _ (.tail _ (.head _))))))) ha85 rfl rfl rfl rfl rfl rfl rfl rfl (YOk.own (O.at (.head _)) rfl (fun _=>rfl) rfl) (fun _=>rfl) (fun _=>rfl) (by decide) hm.1 fun a91 h ha92 O=>?_;refine gH ?_
            (first|refine⟨.inr (.inr (loadK rfl (O.at (.head _)) rfl rfl)),?_⟩|refine⟨.inr (.inr (loadK rfl (O.at (.tail _ (.head _))) rfl rfl)),?_⟩|refine⟨.inr (.inr (loadK rfl (O.at (.tail _ (.tail _ (.head _)))) rfl rfl)),?_⟩|refine⟨.inr (.inr (loadK rfl (O.at (.tail _ (.tail _ (.tail _ (.head _))))) rfl rfl)),?_⟩|refine⟨.inr (.inr (loadK rfl (O.at (.tail _ (.tail _ (.tail _ (.tail _ (.head _)))))) rfl rfl)),?_⟩|refine⟨.inr (.inr (loadK rfl (O.at (.tail _ (.tail _ (.tail _ (.tail _ (.tail _ (.head _))))))) rfl rfl)),?_⟩|refine⟨.inr (.inr (loadK rfl (O.at (.tail _ (.tail _ (.tail _ (.tail _ (.tail _ (.tail _ (.head _)))))))) rfl rfl)),?_⟩|refine⟨.inl (Ext.refl _),?_⟩|refine⟨.inr (.inr rfl),?_⟩|refine⟨.inr (by kernel_rfl),?_⟩|refine⟨.inl (by kernel_rfl),?_⟩|refine id ?_);refine gH ?_
            replace hm:=hm.2
            refine O.stC 1 (.tail _ (.tail _ (.tail _ (.tail _ (.tail _ (.head _)))))) [(growV 1 a91 ((v83++([x88]:(List Nat))).map n8)),(growV 1 none (([]:List Nat).map n8))] fun h O=>?_;refine gH ?_
            (first|refine⟨.inr (.inr (loadK rfl (O.at (.head _)) rfl rfl)),?_⟩|refine⟨.inr (.inr (loadK rfl (O.at (.tail _ (.head _))) rfl rfl)),?_⟩|refine⟨.inr (.inr (loadK rfl (O.at (.tail _ (.tail _ (.head _)))) rfl rfl)),?_⟩|refine⟨.inr (.inr (loadK rfl (O.at (.tail _ (.tail _ (.tail _ (.head _))))) rfl rfl)),?_⟩|refine⟨.inr (.inr (loadK rfl (O.at (.tail _ (.tail _ (.tail _ (.tail _ (.head _)))))) rfl rfl)),?_⟩|refine⟨.inr (.inr (loadK rfl (O.at (.tail _ (.tail _ (.tail _ (.tail _ (.tail _ (.head _))))))) rfl rfl)),?_⟩|refine⟨.inr (.inr (loadK rfl (O.at (.tail _ (.tail _ (.tail _ (.tail _ (.tail _ (.tail _ (.head _)))))))) rfl rfl)),?_⟩|refine⟨.inl (Ext.refl _),?_⟩|refine⟨.inr (.inr rfl),?_⟩|refine⟨.inr (by kernel_rfl),?_⟩|refine⟨.inl (by kernel_rfl),?_⟩|refine id ?_);refine gH ?_
            refine gX ?_
            refine aAdd hm fun hm=>?_;refine gH ?_
            exact jx (((v83++([x88]:(List Nat))),(v84+1)),a91) hm ⟨ha92,(O.sel [1,2,3,4,5,6,7,8,9,10] (by decide))⟩
           ·refine gX ?_
            exact jx (v83,a82) hm ⟨ha85,O⟩
          ·clear hm;rintro⟨v79,a78⟩ base h hm ⟨ha80,O⟩
           conv=>whnf
           refine jn (σ:=(List Nat)×Option Nat) hm 189 [4,16] (fun s=>s.1) (fun (v94,a93) h=>(a78=none->v79=[])/\(a93=none->v94=[])/\Own vars h0 [((some g15),.cells [(.slice none 0 0),(.slice none 0 0)] false),((some g74),.cells [(growV 1 a78 (v79.map n8)),(growV 1 a93 (v94.map n8))] false),(a78,.cells (flatC (v79.map n8)) false),(a93,.cells (flatC (v94.map n8)) false),((some g1),.cells [((encL 1 n8) r6.1.out),((encL 1 n8) r6.1.next)] false),((some g3),.cells [(.slice none 0 0),(.slice none 0 0)] false),((some g13),.cells [((encL 4 encNode) p0.nodes),((encL 1 Value.string) p0.names),((encL 3 encMem) p0.mems),((encL 1 i64) p0.outs),(.slice (some ⟨g17,0,none⟩) p0.nodes.length p0.nodes.length),(.func (.func 135) ⟨[]⟩ ⟨[(FP (encLnZ p1.line)),(.pointer (some ⟨g11,0,none⟩))]⟩),(.func (.func 109) ⟨[]⟩ ⟨[]⟩)] true),((some g17),.cells (flatC (v38.map n8)) false),((some g11),.cells [(.func (.func 112) ⟨[]⟩ ⟨[(FP ((encL 1 n8) r6.2.1)),(.pointer (some ⟨g9,0,none⟩))]⟩)] false),((some g9),.cells [(i64 p1.other)] false)] h) (fun (v94,a93)=>[]) (fun hm=>?_) ?_
           ·refine gX ?_
            refine lw 189 [0,4,16,162,163] (σ:=((List Nat)×Nat)×Option Nat) (fun s=>s.1) (fun ((v99,v100),a98) h=>(a78=none->v79=[])/\(a98=none->v99=[])/\Own vars h0 [((some g17),.cells (flatC (v38.map n8)) false),((some g11),.cells [(.func (.func 112) ⟨[]⟩ ⟨[(FP ((encL 1 n8) r6.2.1)),(.pointer (some ⟨g9,0,none⟩))]⟩)] false),((some g9),.cells [(i64 p1.other)] false),((some g15),.cells [(.slice none 0 0),(.slice none 0 0)] false),((some g74),.cells [(growV 1 a78 (v79.map n8)),(growV 1 a98 (v99.map n8))] false),(a78,.cells (flatC (v79.map n8)) false),(a98,.cells (flatC (v99.map n8)) false),((some g1),.cells [((encL 1 n8) r6.1.out),((encL 1 n8) r6.1.next)] false),((some g3),.cells [(.slice none 0 0),(.slice none 0 0)] false),((some g13),.cells [((encL 4 encNode) p0.nodes),((encL 1 Value.string) p0.names),((encL 3 encMem) p0.mems),((encL 1 i64) p0.outs),(.slice (some ⟨g17,0,none⟩) p0.nodes.length p0.nodes.length),(.func (.func 135) ⟨[]⟩ ⟨[(FP (encLnZ p1.line)),(.pointer (some ⟨g11,0,none⟩))]⟩),(.func (.func 109) ⟨[]⟩ ⟨[]⟩)] true)] h) (fun ((v99,v100),a98)=>[(164,(i64 v100))]) ((([]:List Nat),0),none) hm ⟨ha80,(fun _=>rfl),O⟩ ?_
            clear hm;rintro⟨⟨v99,v100⟩,a98⟩ nx103 base h hm ⟨ha101,ha102,O⟩
            refine gX ?_
            refine br hm (fun hm=>?_) fun hm=>?_
            ·refine gX ?_
             refine atF hm fun x104 hx104 hm=>?_;refine gX ?_
             refine fg Tryz.func115 ?_;conv=>whnf
             apply Cs;conv=>whnf
             apply Cs;refine gH ?_
             have O:=O.addNil (.cells (flatC ((([]:List Nat)).map n8)) false)
             apply Cs;conv=>whnf
             apply Cs;refine gH ?_
             have O:=O.addNil (.cells (flatC ((([]:List Nat)).map n8)) false)
             refine jn (σ:=(List Nat)×Option Nat) hm 42 [] (fun s=>s.1) (fun (v108,a107) h=>(a107=none->v108=[])/\(a78=none->v79=[])/\(a98=none->v99=[])/\Own vars h0 [(a107,.cells (flatC (v108.map n8)) false),((some g1),.cells [((encL 1 n8) r6.1.out),((encL 1 n8) r6.1.next)] false),((some g3),.cells [(.slice none 0 0),(.slice none 0 0)] false),((some g13),.cells [((encL 4 encNode) p0.nodes),((encL 1 Value.string) p0.names),((encL 3 encMem) p0.mems),((encL 1 i64) p0.outs),(.slice (some ⟨g17,0,none⟩) p0.nodes.length p0.nodes.length),(.func (.func 135) ⟨[]⟩ ⟨[(FP (encLnZ p1.line)),(.pointer (some ⟨g11,0,none⟩))]⟩),(.func (.func 109) ⟨[]⟩ ⟨[]⟩)] true),((some g17),.cells (flatC (v38.map n8)) false),((some g11),.cells [(.func (.func 112) ⟨[]⟩ ⟨[(FP ((encL 1 n8) r6.2.1)),(.pointer (some ⟨g9,0,none⟩))]⟩)] false),((some g9),.cells [(i64 p1.other)] false),((some g15),.cells [(.slice none 0 0),(.slice none 0 0)] false),((some g74),.cells [(growV 1 a78 (v79.map n8)),(growV 1 a98 (v99.map n8))] false),(a78,.cells (flatC (v79.map n8)) false),(a98,.cells (flatC (v99.map n8)) false)] h) (fun (v108,a107)=>[(5,(growV 1 a107 (v108.map n8)))]) (fun hm=>?_) ?_
             ·refine gX ?_
              refine atF hm fun x113 hx113 hm=>?_;refine gX ?_
              refine lw 42 [0,1,16,17] (σ:=((List Nat)×Nat)×Option Nat) (fun s=>s.1) (fun ((v115,v116),a114) h=>(a114=none->v115=[])/\(a78=none->v79=[])/\(a98=none->v99=[])/\Own vars h0 [((some g17),.cells (flatC (v38.map n8)) false),((some g11),.cells [(.func (.func 112) ⟨[]⟩ ⟨[(FP ((encL 1 n8) r6.2.1)),(.pointer (some ⟨g9,0,none⟩))]⟩)] false),((some g9),.cells [(i64 p1.other)] false),(a114,.cells (flatC (v115.map n8)) false),((some g1),.cells [((encL 1 n8) r6.1.out),((encL 1 n8) r6.1.next)] false),((some g3),.cells [(.slice none 0 0),(.slice none 0 0)] false),((some g13),.cells [((encL 4 encNode) p0.nodes),((encL 1 Value.string) p0.names),((encL 3 encMem) p0.mems),((encL 1 i64) p0.outs),(.slice (some ⟨g17,0,none⟩) p0.nodes.length p0.nodes.length),(.func (.func 135) ⟨[]⟩ ⟨[(FP (encLnZ p1.line)),(.pointer (some ⟨g11,0,none⟩))]⟩),(.func (.func 109) ⟨[]⟩ ⟨[]⟩)] true),((some g15),.cells [(.slice none 0 0),(.slice none 0 0)] false),((some g74),.cells [(growV 1 a78 (v79.map n8)),(growV 1 a98 (v99.map n8))] false),(a78,.cells (flatC (v79.map n8)) false),(a98,.cells (flatC (v99.map n8)) false)] h) (fun ((v115,v116),a114)=>[(5,(growV 1 a114 (v115.map n8))),(18,(i64 v116))]) ((([]:List Nat),0),none) hm ⟨(fun _=>rfl),ha101,ha102,(O.sel [2,3,4,0,9,10,11,5,6,7,8] (by decide))⟩ ?_
              clear hm;rintro⟨⟨v115,v116⟩,a114⟩ nx120 base h hm ⟨ha117,ha118,ha119,O⟩
              refine gX ?_
              refine br hm (fun hm=>?_) fun hm=>?_
              ·refine gX ?_
               refine atF hm fun x121 hx121 hm=>?_;refine gX ?_
               first|refine⟨.inr (.inr (rfl)),?_⟩|refine⟨.inr (.inl (by kernel_rfl)),?_⟩
               refine gX ?_
               first|refine⟨.inr (.inr (rfl)),?_⟩|refine⟨.inr (.inl (by kernel_rfl)),?_⟩
               refine gX ?_
               refine ix 1 hm fun x122 hx122 hm=>?_;refine gH ?_
               refine⟨_,loadK rfl (O.at (.head _)) rfl (cell_map (enc:=n8) (s:=1) (k:=0) (fun _=>rfl) hx122 rfl),?_⟩;refine gH ?_
               refine fg Tryz.func109 ?_;refine gX ?_
               (first|refine⟨.inr (.inr (loadK rfl (O.at (.head _)) rfl rfl)),?_⟩|refine⟨.inr (.inr (loadK rfl (O.at (.tail _ (.head _))) rfl rfl)),?_⟩|refine⟨.inr (.inr (loadK rfl (O.at (.tail _ (.tail _ (.head _)))) rfl rfl)),?_⟩|refine⟨.inr (.inr (loadK rfl (O.at (.tail _ (.tail _ (.tail _ (.head _))))) rfl rfl)),?_⟩|refine⟨.inr (.inr (loadK rfl (O.at (.tail _ (.tail _ (.tail _ (.tail _ (.head _)))))) rfl rfl)),?_⟩|refine⟨.inr (.inr (loadK rfl (O.at (.tail _ (.tail _ (.tail _ (.tail _ (.tail _ (.head _))))))) rfl rfl)),?_⟩|refine⟨.inr (.inr (loadK rfl (O.at (.tail _ (.tail _ (.tail _ (.tail _ (.tail _ (.tail _ (.head _)))))))) rfl rfl)),?_⟩|refine⟨.inl (Ext.refl _),?_⟩|refine⟨.inr (.inr rfl),?_⟩|refine⟨.inr (by kernel_rfl),?_⟩|refine⟨.inl (by kernel_rfl),?_⟩|refine id ?_);refine gH ?_
               refine O.buildLX (l:=([x122]:(List Nat))) (enc:=n8) (s:=1) (z:=(n8 0)) rfl rfl (by kernel_rfl) (by kernel_rfl) rfl rfl rfl rfl (fun _=>rfl) fun g123 h O=>?_;refine gH ?_
               refine O.appendL (enc:=n8) (l:=v115) (new:=([x122]:(List Nat))) (s:=1) (b:=1) (.tail _ (.tail _ (.tail _ (.tail _ (.head _))))) ha117 rfl rfl rfl rfl rfl rfl rfl rfl (YOk.own (O.at (.head _)) rfl (fun _=>rfl) rfl) (fun _=>rfl) (fun _=>rfl) (by decide) hm.1 fun a125 h ha126 O=>?_;refine gH ?_
               (first|refine⟨.inr (.inr (loadK rfl (O.at (.head _)) rfl rfl)),?_⟩|refine⟨.inr (.inr (loadK rfl (O.at (.tail _ (.head _))) rfl rfl)),?_⟩|refine⟨.inr (.inr (loadK rfl (O.at (.tail _ (.tail _ (.head _)))) rfl rfl)),?_⟩|refine⟨.inr (.inr (loadK rfl (O.at (.tail _ (.tail _ (.tail _ (.head _))))) rfl rfl)),?_⟩|refine⟨.inr (.inr (loadK rfl (O.at (.tail _ (.tail _ (.tail _ (.tail _ (.head _)))))) rfl rfl)),?_⟩|refine⟨.inr (.inr (loadK rfl (O.at (.tail _ (.tail _ (.tail _ (.tail _ (.tail _ (.head _))))))) rfl rfl)),?_⟩|refine⟨.inr (.inr (loadK rfl (O.at (.tail _ (.tail _ (.tail _ (.tail _ (.tail _ (.tail _ (.head _)))))))) rfl rfl)),?_⟩|refine⟨.inl (Ext.refl _),?_⟩|refine⟨.inr (.inr rfl),?_⟩|refine⟨.inr (by kernel_rfl),?_⟩|refine⟨.inl (by kernel_rfl),?_⟩|refine id ?_);refine gH ?_
               replace hm:=hm.2
               refine gX ?_
               refine aAdd hm fun hm=>?_;refine gH ?_
               exact jx (((v115++([x122]:(List Nat))),(v116+1)),a125) hm ⟨ha126,ha118,ha119,(O.sel [1,2,3,4,5,6,7,8,9,10,11] (by decide))⟩
              ·refine gX ?_
               exact jx (v115,a114) hm ⟨ha117,ha118,ha119,(O.sel [3,4,5,6,0,1,2,7,8,9,10] (by decide))⟩
             ·clear hm;rintro⟨v108,a107⟩ base h hm ⟨ha109,ha110,ha111,O⟩
              refine gX ?_
              obtain⟨x127,hx127,hm⟩:=hm
              have h9:=hm
              obtain⟨g128,rfl⟩:=addr_some ha109 hx127
              replace hm:=h9
              refine indexK (s:=1) (j:=0) rfl rfl rfl rfl (by rw[List.length_map];exact lt_of_get hx127) ?_;refine gH ?_
              refine ldE (s:=1) (i:=0) (O.at (.head _)) hx127 ?_;refine gH ?_
              refine jn hm 189 [0,4,16,162,163,164] (fun s=>s) (fun v129 h=>(a78=none->v79=[])/\(a98=none->v99=[])/\Own vars h0 [((some g17),.cells (flatC (v38.map n8)) false),((some g11),.cells [(.func (.func 112) ⟨[]⟩ ⟨[(FP ((encL 1 n8) r6.2.1)),(.pointer (some ⟨g9,0,none⟩))]⟩)] false),((some g9),.cells [(i64 p1.other)] false),((some g15),.cells [(.slice none 0 0),(.slice none 0 0)] false),((some g74),.cells [(growV 1 a78 (v79.map n8)),(growV 1 a98 (v99.map n8))] false),(a78,.cells (flatC (v79.map n8)) false),(a98,.cells (flatC (v99.map n8)) false),((some g1),.cells [((encL 1 n8) r6.1.out),((encL 1 n8) r6.1.next)] false),((some g3),.cells [(.slice none 0 0),(.slice none 0 0)] false),((some g13),.cells [((encL 4 encNode) p0.nodes),((encL 1 Value.string) p0.names),((encL 3 encMem) p0.mems),((encL 1 i64) p0.outs),(.slice (some ⟨g17,0,none⟩) p0.nodes.length p0.nodes.length),(.func (.func 135) ⟨[]⟩ ⟨[(FP (encLnZ p1.line)),(.pointer (some ⟨g11,0,none⟩))]⟩),(.func (.func 109) ⟨[]⟩ ⟨[]⟩)] true)] h) (fun v129=>[(21,(n8 v129))]) (fun hm=>?_) ?_
              ·refine gX ?_
               refine br hm (fun hm=>?_) fun hm=>?_
               ·refine gX ?_
                exact jx 2 hm ⟨ha110,ha111,(O.sel [4,5,6,7,8,9,10,1,2,3] (by decide))⟩
               ·refine gX ?_
                exact jx x127 hm ⟨ha110,ha111,(O.sel [4,5,6,7,8,9,10,1,2,3] (by decide))⟩
              ·clear hm;rintro v129 base h hm ⟨ha130,ha131,O⟩
               refine gX ?_
               refine ldO (O.at (.tail _ (.tail _ (.tail _ (.tail _ (.head _)))))) ?_;refine gH ?_
               refine fz ?_;refine gH ?_
               refine O.apL (enc:=n8) (l:=v99) (new:=([v129]:(List Nat))) 1 (.tail _ (.tail _ (.tail _ (.tail _ (.tail _ (.tail _ (.head _))))))) ha131 hm fun a133 h ha134 O hm=>?_;refine gH ?_
               refine O.stC 1 (.tail _ (.tail _ (.tail _ (.tail _ (.head _))))) [(growV 1 a78 (v79.map n8)),(growV 1 a133 ((v99++([v129]:(List Nat))).map n8))] fun h O=>?_;refine gX ?_
               refine aAdd hm fun hm=>?_;refine gH ?_
               exact jx (((v99++([v129]:(List Nat))),(v100+1)),a133) hm ⟨ha130,ha134,O⟩
            ·refine gX ?_
             exact jx (v99,a98) hm ⟨ha101,ha102,(O.sel [3,4,5,6,7,8,9,0,1,2] (by decide))⟩
           ·clear hm;rintro⟨v94,a93⟩ base h hm ⟨ha95,ha96,O⟩
            refine gX ?_
            first|refine⟨.inr (.inr (loadK rfl (O.at (.tail _ (.head _))) rfl rfl)),?_⟩|refine⟨.inr (.inl (by kernel_rfl)),?_⟩
            refine gX ?_
            refine fg Tryz.func73 ?_;refine gX ?_
            refine clipK (s:=1) (enc:=n8) (l:=v79) (n:=v79.length) (m:=v79.length) rfl rfl rfl rfl rfl rfl rfl ?_;refine gX ?_
            (first|refine⟨.inr (.inr (loadK rfl (O.at (.head _)) rfl rfl)),?_⟩|refine⟨.inr (.inr (loadK rfl (O.at (.tail _ (.head _))) rfl rfl)),?_⟩|refine⟨.inr (.inr (loadK rfl (O.at (.tail _ (.tail _ (.head _)))) rfl rfl)),?_⟩|refine⟨.inr (.inr (loadK rfl (O.at (.tail _ (.tail _ (.tail _ (.head _))))) rfl rfl)),?_⟩|refine⟨.inr (.inr (loadK rfl (O.at (.tail _ (.tail _ (.tail _ (.tail _ (.head _)))))) rfl rfl)),?_⟩|refine⟨.inr (.inr (loadK rfl (O.at (.tail _ (.tail _ (.tail _ (.tail _ (.tail _ (.head _))))))) rfl rfl)),?_⟩|refine⟨.inr (.inr (loadK rfl (O.at (.tail _ (.tail _ (.tail _ (.tail _ (.tail _ (.tail _ (.head _)))))))) rfl rfl)),?_⟩|refine⟨.inl (Ext.refl _),?_⟩|refine⟨.inr (.inr rfl),?_⟩|refine⟨.inr (by kernel_rfl),?_⟩|refine⟨.inl (by kernel_rfl),?_⟩|refine id ?_);refine gH ?_
            first|refine⟨.inr (.inr (loadK rfl (O.at (.tail _ (.head _))) rfl rfl)),?_⟩|refine⟨.inr (.inl (by kernel_rfl)),?_⟩
            refine gX ?_
            refine fg Tryz.func73 ?_;refine gX ?_
            refine clipK (s:=1) (enc:=n8) (l:=v94) (n:=v94.length) (m:=v94.length) rfl rfl rfl rfl rfl rfl rfl ?_;refine gX ?_
            (first|refine⟨.inr (.inr (loadK rfl (O.at (.head _)) rfl rfl)),?_⟩|refine⟨.inr (.inr (loadK rfl (O.at (.tail _ (.head _))) rfl rfl)),?_⟩|refine⟨.inr (.inr (loadK rfl (O.at (.tail _ (.tail _ (.head _)))) rfl rfl)),?_⟩|refine⟨.inr (.inr (loadK rfl (O.at (.tail _ (.tail _ (.tail _ (.head _))))) rfl rfl)),?_⟩|refine⟨.inr (.inr (loadK rfl (O.at (.tail _ (.tail _ (.tail _ (.tail _ (.head _)))))) rfl rfl)),?_⟩|refine⟨.inr (.inr (loadK rfl (O.at (.tail _ (.tail _ (.tail _ (.tail _ (.tail _ (.head _))))))) rfl rfl)),?_⟩|refine⟨.inr (.inr (loadK rfl (O.at (.tail _ (.tail _ (.tail _ (.tail _ (.tail _ (.tail _ (.head _)))))))) rfl rfl)),?_⟩|refine⟨.inl (Ext.refl _),?_⟩|refine⟨.inr (.inr rfl),?_⟩|refine⟨.inr (by kernel_rfl),?_⟩|refine⟨.inl (by kernel_rfl),?_⟩|refine id ?_);refine gH ?_
            refine O.stC 2 (.head _) [(clipV a78 (v79.map n8)),(clipV a93 (v94.map n8))] fun h O=>?_;refine gH ?_
            (first|refine⟨.inr (.inr (loadK rfl (O.at (.head _)) rfl rfl)),?_⟩|refine⟨.inr (.inr (loadK rfl (O.at (.tail _ (.head _))) rfl rfl)),?_⟩|refine⟨.inr (.inr (loadK rfl (O.at (.tail _ (.tail _ (.head _)))) rfl rfl)),?_⟩|refine⟨.inr (.inr (loadK rfl (O.at (.tail _ (.tail _ (.tail _ (.head _))))) rfl rfl)),?_⟩|refine⟨.inr (.inr (loadK rfl (O.at (.tail _ (.tail _ (.tail _ (.tail _ (.head _)))))) rfl rfl)),?_⟩|refine⟨.inr (.inr (loadK rfl (O.at (.tail _ (.tail _ (.tail _ (.tail _ (.tail _ (.head _))))))) rfl rfl)),?_⟩|refine⟨.inr (.inr (loadK rfl (O.at (.tail _ (.tail _ (.tail _ (.tail _ (.tail _ (.tail _ (.head _)))))))) rfl rfl)),?_⟩|refine⟨.inl (Ext.refl _),?_⟩|refine⟨.inr (.inr rfl),?_⟩|refine⟨.inr (by kernel_rfl),?_⟩|refine⟨.inl (by kernel_rfl),?_⟩|refine id ?_);refine gH ?_
            refine gX ?_
            refine⟨_,resAggK rfl rfl (O.at (.head _)) rfl rfl (lbE rfl) rfl,?_⟩;refine gX ?_
            refine O.stC 2 (.tail _ (.tail _ (.tail _ (.tail _ (.tail _ (.head _)))))) [(clipV a78 (v79.map n8)),(clipV a93 (v94.map n8))] fun h O=>?_;refine gX ?_
            refine ldA (O.at (.tail _ (.tail _ (.tail _ (.tail _ (.head _)))))) ?_;refine gH ?_
            first|refine⟨.inr (.inr (loadAggK rfl (O.at (.tail _ (.tail _ (.tail _ (.tail _ (.head _)))))) rfl rfl (lbE rfl) rfl)),?_⟩|refine⟨.inr (.inl (by kernel_rfl)),?_⟩
            refine gX ?_
            refine ldA (O.at (.tail _ (.tail _ (.tail _ (.tail _ (.tail _ (.head _))))))) ?_;refine gH ?_
            first|refine⟨.inr (.inr (loadAggK rfl (O.at (.tail _ (.tail _ (.tail _ (.tail _ (.tail _ (.head _))))))) rfl rfl (lbE rfl) rfl)),?_⟩|refine⟨.inr (.inl (by kernel_rfl)),?_⟩
            refine gX ?_
            refine ldO (O.at (.tail _ (.tail _ (.tail _ (.tail _ (.tail _ (.tail _ (.head _)))))))) ?_;refine gH ?_
            first|refine⟨.inr (.inr (loadK rfl (O.at (.tail _ (.tail _ (.tail _ (.tail _ (.tail _ (.tail _ (.head _)))))))) rfl rfl)),?_⟩|refine⟨.inr (.inl (by kernel_rfl)),?_⟩
            refine gX ?_
            refine O.stSame 2 (.tail _ (.tail _ (.tail _ (.tail _ (.head _))))) fun h hext O=>?_;conv=>whnf
            refine⟨.inr hext,?_⟩;refine gH ?_
            refine O.stSame 2 (.tail _ (.tail _ (.tail _ (.tail _ (.tail _ (.head _)))))) fun h hext O=>?_;conv=>whnf
            refine⟨.inr hext,?_⟩;refine gX ?_
            refine⟨_,resAggK rfl rfl (O.at (.tail _ (.tail _ (.tail _ (.tail _ (.head _)))))) rfl rfl (lbE rfl) rfl,?_⟩;conv=>whnf
            refine⟨_,resAggK rfl rfl (O.at (.tail _ (.tail _ (.tail _ (.tail _ (.tail _ (.head _))))))) rfl rfl (lbE rfl) rfl,?_⟩;conv=>whnf
            obtain⟨hn135,hm⟩:=hm
            exact⟨(r6.1,(⟨v79,v94⟩:Rsp),v38,0),hm,O.ext,fun h2 F=>VLe.tup (LLe.cons (VLe.refl _ _) (LLe.cons (VLe.agg (LLe.cons (O.clipL F (Nat.le_refl _) (.tail _ (.tail _ (.head _))) ha95 (fun _=>rfl)) (LLe.cons (O.clipL F (Nat.le_refl _) (.tail _ (.tail _ (.tail _ (.head _)))) ha96 (fun _=>rfl)) (LLe.nil _)))) (LLe.cons (O.flatL F (Nat.le_refl _) (.tail _ (.tail _ (.tail _ (.tail _ (.tail _ (.tail _ (.tail _ (.head _)))))))) (fun _=>rfl) hn135) (LLe.cons (VLe.refl _ _) (LLe.nil _)))))⟩
      ·refine gX ?_
       refine O.stC 1 (.head _) [((encL 4 encNode) p0.nodes),((encL 1 Value.string) p0.names),((encL 3 encMem) p0.mems),((encL 1 i64) p0.outs),(.slice none 0 0),(.func (.func 134) ⟨[]⟩ ⟨[]⟩),(.func (.func 136) ⟨[]⟩ ⟨[(FP (encLnZ p1.line)),(.pointer (some ⟨g11,0,none⟩))]⟩)] fun h O=>?_;refine gX ?_
       refine fg Tryz.func75 ?_;refine gX ?_
       refine fz ?_;refine gH ?_
       (first|refine O.new (anew_alloc (l:=[(.slice none 0 0),(.slice none 0 0)]) rfl rfl rfl) fun g136 h O=>?_|refine O.newX (anew_alloc (l:=[(.slice none 0 0),(.slice none 0 0)]) rfl rfl rfl) fun g136 h O=>?_);refine gH ?_
       refine gX ?_
       refine O.mkL (enc:=n8) 1 1 0 hm fun g138 h O hm=>?_;refine gH ?_
       refine O.stC 1 (.tail _ (.tail _ (.head _))) [((encL 4 encNode) p0.nodes),((encL 1 Value.string) p0.names),((encL 3 encMem) p0.mems),((encL 1 i64) p0.outs),(.slice (some ⟨g138,0,none⟩) p0.nodes.length p0.nodes.length),(.func (.func 134) ⟨[]⟩ ⟨[]⟩),(.func (.func 136) ⟨[]⟩ ⟨[(FP (encLnZ p1.line)),(.pointer (some ⟨g11,0,none⟩))]⟩)] fun h O=>?_;refine gH ?_
       apply Cs;conv=>whnf
       refine CodeS.freezeP (v:=(.agg ⟨[((encL 4 encNode) p0.nodes),((encL 1 Value.string) p0.names),((encL 3 encMem) p0.mems),((encL 1 i64) p0.outs),(.slice (some ⟨g138,0,none⟩) p0.nodes.length p0.nodes.length),(.func (.func 134) ⟨[]⟩ ⟨[]⟩),(.func (.func 136) ⟨[]⟩ ⟨[(FP (encLnZ p1.line)),(.pointer (some ⟨g11,0,none⟩))]⟩)]⟩)) O (.tail _ (.tail _ (.head _))) (t2:=0) rfl rfl rfl fun h O=>?_;conv=>whnf
       refine CodeS.freezeP (v:=(.agg ⟨[((encL 4 encNode) p0.nodes),((encL 1 Value.string) p0.names),((encL 3 encMem) p0.mems),((encL 1 i64) p0.outs),(.slice (some ⟨g138,0,none⟩) p0.nodes.length p0.nodes.length),(.func (.func 134) ⟨[]⟩ ⟨[]⟩),(.func (.func 136) ⟨[]⟩ ⟨[(FP (encLnZ p1.line)),(.pointer (some ⟨g11,0,none⟩))]⟩)]⟩)) O (.tail _ (.tail _ (.head _))) (t2:=22) rfl rfl rfl fun h O=>?_;conv=>whnf
       refine CodeS.freezeP (v:=(.agg ⟨[((encL 4 encNode) p0.nodes),((encL 1 Value.string) p0.names),((encL 3 encMem) p0.mems),((encL 1 i64) p0.outs),(.slice (some ⟨g138,0,none⟩) p0.nodes.length p0.nodes.length),(.func (.func 134) ⟨[]⟩ ⟨[]⟩),(.func (.func 136) ⟨[]⟩ ⟨[(FP (encLnZ p1.line)),(.pointer (some ⟨g11,0,none⟩))]⟩)]⟩)) O (.tail _ (.tail _ (.head _))) (t2:=23) rfl rfl rfl fun h O=>?_;conv=>whnf
       refine CodeS.freezeP (v:=(.agg ⟨[((encL 4 encNode) p0.nodes),((encL 1 Value.string) p0.names),((encL 3 encMem) p0.mems),((encL 1 i64) p0.outs),(.slice (some ⟨g138,0,none⟩) p0.nodes.length p0.nodes.length),(.func (.func 134) ⟨[]⟩ ⟨[]⟩),(.func (.func 136) ⟨[]⟩ ⟨[(FP (encLnZ p1.line)),(.pointer (some ⟨g11,0,none⟩))]⟩)]⟩)) O (.tail _ (.tail _ (.head _))) (t2:=24) rfl rfl rfl fun h O=>?_;conv=>whnf
       refine CodeS.freezeP (v:=(.agg ⟨[((encL 4 encNode) p0.nodes),((encL 1 Value.string) p0.names),((encL 3 encMem) p0.mems),((encL 1 i64) p0.outs),(.slice (some ⟨g138,0,none⟩) p0.nodes.length p0.nodes.length),(.func (.func 134) ⟨[]⟩ ⟨[]⟩),(.func (.func 136) ⟨[]⟩ ⟨[(FP (encLnZ p1.line)),(.pointer (some ⟨g11,0,none⟩))]⟩)]⟩)) O (.tail _ (.tail _ (.head _))) (t2:=25) rfl rfl rfl fun h O=>?_;conv=>whnf
       refine CodeS.freezeP (v:=(.agg ⟨[((encL 4 encNode) p0.nodes),((encL 1 Value.string) p0.names),((encL 3 encMem) p0.mems),((encL 1 i64) p0.outs),(.slice (some ⟨g138,0,none⟩) p0.nodes.length p0.nodes.length),(.func (.func 134) ⟨[]⟩ ⟨[]⟩),(.func (.func 136) ⟨[]⟩ ⟨[(FP (encLnZ p1.line)),(.pointer (some ⟨g11,0,none⟩))]⟩)]⟩)) O (.tail _ (.tail _ (.head _))) (t2:=26) rfl rfl rfl fun h O=>?_;conv=>whnf
       refine CodeS.freezeP (v:=(.agg ⟨[((encL 4 encNode) p0.nodes),((encL 1 Value.string) p0.names),((encL 3 encMem) p0.mems),((encL 1 i64) p0.outs),(.slice (some ⟨g138,0,none⟩) p0.nodes.length p0.nodes.length),(.func (.func 134) ⟨[]⟩ ⟨[]⟩),(.func (.func 136) ⟨[]⟩ ⟨[(FP (encLnZ p1.line)),(.pointer (some ⟨g11,0,none⟩))]⟩)]⟩)) O (.tail _ (.tail _ (.head _))) (t2:=30) rfl rfl rfl fun h O=>?_;refine gX ?_
       refine ca (netlists_States_walk hm O.has) fun r140 hm=>?_;refine gH ?_
       refine jn hm 189 [0,3,4,5] (fun s=>s) (fun v141 h=>Own vars h0 [((some g138),.cells (flatC (v141.map n8)) false),((some g11),.cells [(.func (.func 112) ⟨[]⟩ ⟨[(FP ((encL 1 n8) r6.2.1)),(.pointer (some ⟨g9,0,none⟩))]⟩)] false),((some g9),.cells [(i64 p1.other)] false),((some g136),.cells [(.slice none 0 0),(.slice none 0 0)] false),((some g1),.cells [((encL 1 n8) r6.1.out),((encL 1 n8) r6.1.next)] false),((some g3),.cells [(.slice none 0 0),(.slice none 0 0)] false),((some g13),.cells [((encL 4 encNode) p0.nodes),((encL 1 Value.string) p0.names),((encL 3 encMem) p0.mems),((encL 1 i64) p0.outs),(.slice (some ⟨g138,0,none⟩) p0.nodes.length p0.nodes.length),(.func (.func 134) ⟨[]⟩ ⟨[]⟩),(.func (.func 136) ⟨[]⟩ ⟨[(FP (encLnZ p1.line)),(.pointer (some ⟨g11,0,none⟩))]⟩)] true)] h) (fun v141=>[]) (fun hm=>?_) ?_
       ·refine gX ?_
        refine ca (netlists_Inputs_walk hm O.has) fun r143 hm=>?_;refine gX ?_
        refine lw 189 [0,3,4,5,41,42] (σ:=((List Nat)×Nat)) (fun s=>s) (fun (v144,v145) h=>Own vars h0 [((some g138),.cells (flatC (v144.map n8)) false),((some g11),.cells [(.func (.func 112) ⟨[]⟩ ⟨[(FP ((encL 1 n8) r6.2.1)),(.pointer (some ⟨g9,0,none⟩))]⟩)] false),((some g9),.cells [(i64 p1.other)] false),((some g136),.cells [(.slice none 0 0),(.slice none 0 0)] false),((some g1),.cells [((encL 1 n8) r6.1.out),((encL 1 n8) r6.1.next)] false),((some g3),.cells [(.slice none 0 0),(.slice none 0 0)] false),((some g13),.cells [((encL 4 encNode) p0.nodes),((encL 1 Value.string) p0.names),((encL 3 encMem) p0.mems),((encL 1 i64) p0.outs),(.slice (some ⟨g138,0,none⟩) p0.nodes.length p0.nodes.length),(.func (.func 134) ⟨[]⟩ ⟨[]⟩),(.func (.func 136) ⟨[]⟩ ⟨[(FP (encLnZ p1.line)),(.pointer (some ⟨g11,0,none⟩))]⟩)] true)] h) (fun (v144,v145)=>[(43,(i64 v145))]) ((List.replicate p0.nodes.length (0:Nat)),0) hm (O.sel [0,3,4,1,7,6,2] (by decide)) ?_
        clear hm;rintro⟨v144,v145⟩ nx146 base h hm O
        refine gX ?_
        refine br hm (fun hm=>?_) fun hm=>?_
        ·refine gX ?_
         refine atF hm fun x147 hx147 hm=>?_;refine gX ?_
         first|refine⟨.inr (.inr (rfl)),?_⟩|refine⟨.inr (.inl (by kernel_rfl)),?_⟩
         refine gX ?_
         first|refine⟨.inr (.inr (rfl)),?_⟩|refine⟨.inr (.inl (by kernel_rfl)),?_⟩
         refine gX ?_
         refine atF hm fun x148 hx148 hm=>?_;refine gH ?_
         refine ix 1 hm fun x149 hx149 hm=>?_;refine gH ?_
         refine O.stE 1 (.head _) hx149 x148 fun h O=>?_;refine gH ?_
         (first|refine⟨.inr (.inr (loadK rfl (O.at (.head _)) rfl rfl)),?_⟩|refine⟨.inr (.inr (loadK rfl (O.at (.tail _ (.head _))) rfl rfl)),?_⟩|refine⟨.inr (.inr (loadK rfl (O.at (.tail _ (.tail _ (.head _)))) rfl rfl)),?_⟩|refine⟨.inr (.inr (loadK rfl (O.at (.tail _ (.tail _ (.tail _ (.head _))))) rfl rfl)),?_⟩|refine⟨.inr (.inr (loadK rfl (O.at (.tail _ (.tail _ (.tail _ (.tail _ (.head _)))))) rfl rfl)),?_⟩|refine⟨.inr (.inr (loadK rfl (O.at (.tail _ (.tail _ (.tail _ (.tail _ (.tail _ (.head _))))))) rfl rfl)),?_⟩|refine⟨.inr (.inr (loadK rfl (O.at (.tail _ (.tail _ (.tail _ (.tail _ (.tail _ (.tail _ (.head _)))))))) rfl rfl)),?_⟩|refine⟨.inl (Ext.refl _),?_⟩|refine⟨.inr (.inr rfl),?_⟩|refine⟨.inr (by kernel_rfl),?_⟩|refine⟨.inl (by kernel_rfl),?_⟩|refine id ?_);refine gH ?_
         refine gX ?_
         refine aAdd hm fun hm=>?_;refine gH ?_
         exact jx ((v144.set x147 x148),(v145+1)) hm O
        ·refine gX ?_
         exact jx v144 hm O
       ·clear hm;rintro v141 base h hm O
        conv=>whnf
        refine jn hm 189 [0,4,5] (fun s=>s) (fun v150 h=>Own vars h0 [((some g138),.cells (flatC (v150.map n8)) false),((some g11),.cells [(.func (.func 112) ⟨[]⟩ ⟨[(FP ((encL 1 n8) r6.2.1)),(.pointer (some ⟨g9,0,none⟩))]⟩)] false),((some g9),.cells [(i64 p1.other)] false),((some g136),.cells [(.slice none 0 0),(.slice none 0 0)] false),((some g1),.cells [((encL 1 n8) r6.1.out),((encL 1 n8) r6.1.next)] false),((some g3),.cells [(.slice none 0 0),(.slice none 0 0)] false),((some g13),.cells [((encL 4 encNode) p0.nodes),((encL 1 Value.string) p0.names),((encL 3 encMem) p0.mems),((encL 1 i64) p0.outs),(.slice (some ⟨g138,0,none⟩) p0.nodes.length p0.nodes.length),(.func (.func 134) ⟨[]⟩ ⟨[]⟩),(.func (.func 136) ⟨[]⟩ ⟨[(FP (encLnZ p1.line)),(.pointer (some ⟨g11,0,none⟩))]⟩)] true)] h) (fun v150=>[]) (fun hm=>?_) ?_
        ·refine gX ?_
         refine lw 189 [0,3,4,5,60,61] (σ:=((List Nat)×Nat)) (fun s=>s) (fun (v152,v153) h=>Own vars h0 [((some g138),.cells (flatC (v152.map n8)) false),((some g11),.cells [(.func (.func 112) ⟨[]⟩ ⟨[(FP ((encL 1 n8) r6.2.1)),(.pointer (some ⟨g9,0,none⟩))]⟩)] false),((some g9),.cells [(i64 p1.other)] false),((some g136),.cells [(.slice none 0 0),(.slice none 0 0)] false),((some g1),.cells [((encL 1 n8) r6.1.out),((encL 1 n8) r6.1.next)] false),((some g3),.cells [(.slice none 0 0),(.slice none 0 0)] false),((some g13),.cells [((encL 4 encNode) p0.nodes),((encL 1 Value.string) p0.names),((encL 3 encMem) p0.mems),((encL 1 i64) p0.outs),(.slice (some ⟨g138,0,none⟩) p0.nodes.length p0.nodes.length),(.func (.func 134) ⟨[]⟩ ⟨[]⟩),(.func (.func 136) ⟨[]⟩ ⟨[(FP (encLnZ p1.line)),(.pointer (some ⟨g11,0,none⟩))]⟩)] true)] h) (fun (v152,v153)=>[(62,(i64 v153))]) (v141,0) hm O ?_
         clear hm;rintro⟨v152,v153⟩ nx154 base h hm O
         refine gX ?_
         refine br hm (fun hm=>?_) fun hm=>?_
         ·refine gX ?_
          refine atF hm fun x155 hx155 hm=>?_;refine gX ?_
          first|refine⟨.inr (.inr (rfl)),?_⟩|refine⟨.inr (.inl (by kernel_rfl)),?_⟩
          refine gX ?_
          first|refine⟨.inr (.inr (rfl)),?_⟩|refine⟨.inr (.inl (by kernel_rfl)),?_⟩
          refine gX ?_
          refine atF hm fun x156 hx156 hm=>?_;refine gH ?_
          refine ix 1 hm fun x157 hx157 hm=>?_;refine gH ?_
          refine O.stE 1 (.head _) hx157 x156 fun h O=>?_;refine gH ?_
          (first|refine⟨.inr (.inr (loadK rfl (O.at (.head _)) rfl rfl)),?_⟩|refine⟨.inr (.inr (loadK rfl (O.at (.tail _ (.head _))) rfl rfl)),?_⟩|refine⟨.inr (.inr (loadK rfl (O.at (.tail _ (.tail _ (.head _)))) rfl rfl)),?_⟩|refine⟨.inr (.inr (loadK rfl (O.at (.tail _ (.tail _ (.tail _ (.head _))))) rfl rfl)),?_⟩|refine⟨.inr (.inr (loadK rfl (O.at (.tail _ (.tail _ (.tail _ (.tail _ (.head _)))))) rfl rfl)),?_⟩|refine⟨.inr (.inr (loadK rfl (O.at (.tail _ (.tail _ (.tail _ (.tail _ (.tail _ (.head _))))))) rfl rfl)),?_⟩|refine⟨.inr (.inr (loadK rfl (O.at (.tail _ (.tail _ (.tail _ (.tail _ (.tail _ (.tail _ (.head _)))))))) rfl rfl)),?_⟩|refine⟨.inl (Ext.refl _),?_⟩|refine⟨.inr (.inr rfl),?_⟩|refine⟨.inr (by kernel_rfl),?_⟩|refine⟨.inl (by kernel_rfl),?_⟩|refine id ?_);refine gH ?_
          refine gX ?_
          refine aAdd hm fun hm=>?_;refine gH ?_
          exact jx ((v152.set x155 x156),(v153+1)) hm O
         ·refine gX ?_
          exact jx v152 hm O
        ·clear hm;rintro v150 base h hm O
         refine gX ?_
         refine ca (netlists_Order_walk hm O.has) fun r158 hm=>?_;refine gH ?_
         apply Cs;conv=>whnf
         apply Cs;refine gH ?_
         refine jn hm 189 [0,4,5] (fun s=>s) (fun v159 h=>Own vars h0 [((some g138),.cells (flatC (v159.map n8)) false),((some g11),.cells [(.func (.func 112) ⟨[]⟩ ⟨[(FP ((encL 1 n8) r6.2.1)),(.pointer (some ⟨g9,0,none⟩))]⟩)] false),((some g9),.cells [(i64 p1.other)] false),((some g136),.cells [(.slice none 0 0),(.slice none 0 0)] false),((some g1),.cells [((encL 1 n8) r6.1.out),((encL 1 n8) r6.1.next)] false),((some g3),.cells [(.slice none 0 0),(.slice none 0 0)] false),((some g13),.cells [((encL 4 encNode) p0.nodes),((encL 1 Value.string) p0.names),((encL 3 encMem) p0.mems),((encL 1 i64) p0.outs),(.slice (some ⟨g138,0,none⟩) p0.nodes.length p0.nodes.length),(.func (.func 134) ⟨[]⟩ ⟨[]⟩),(.func (.func 136) ⟨[]⟩ ⟨[(FP (encLnZ p1.line)),(.pointer (some ⟨g11,0,none⟩))]⟩)] true)] h) (fun v159=>[]) (fun hm=>?_) ?_
         ·refine gX ?_
          refine lw 189 [0,4,5,12,89,90] (σ:=((List Nat)×Nat)) (fun s=>s) (fun (v161,v162) h=>Own vars h0 [((some g138),.cells (flatC (v161.map n8)) false),((some g11),.cells [(.func (.func 112) ⟨[]⟩ ⟨[(FP ((encL 1 n8) r6.2.1)),(.pointer (some ⟨g9,0,none⟩))]⟩)] false),((some g9),.cells [(i64 p1.other)] false),((some g136),.cells [(.slice none 0 0),(.slice none 0 0)] false),((some g1),.cells [((encL 1 n8) r6.1.out),((encL 1 n8) r6.1.next)] false),((some g3),.cells [(.slice none 0 0),(.slice none 0 0)] false),((some g13),.cells [((encL 4 encNode) p0.nodes),((encL 1 Value.string) p0.names),((encL 3 encMem) p0.mems),((encL 1 i64) p0.outs),(.slice (some ⟨g138,0,none⟩) p0.nodes.length p0.nodes.length),(.func (.func 134) ⟨[]⟩ ⟨[]⟩),(.func (.func 136) ⟨[]⟩ ⟨[(FP (encLnZ p1.line)),(.pointer (some ⟨g11,0,none⟩))]⟩)] true)] h) (fun (v161,v162)=>[(91,(i64 v162))]) (v150,0) hm O ?_
          clear hm;rintro⟨v161,v162⟩ nx163 base h hm O
          refine gX ?_
          refine br hm (fun hm=>?_) fun hm=>?_
          ·refine gX ?_
           refine atF hm fun x164 hx164 hm=>?_;refine gH ?_
           refine jn hm 189 [0,4,5,12,14,89,90,91] (fun s=>s) (fun v165 h=>Own vars h0 [((some g138),.cells (flatC (v165.map n8)) false),((some g11),.cells [(.func (.func 112) ⟨[]⟩ ⟨[(FP ((encL 1 n8) r6.2.1)),(.pointer (some ⟨g9,0,none⟩))]⟩)] false),((some g9),.cells [(i64 p1.other)] false),((some g136),.cells [(.slice none 0 0),(.slice none 0 0)] false),((some g1),.cells [((encL 1 n8) r6.1.out),((encL 1 n8) r6.1.next)] false),((some g3),.cells [(.slice none 0 0),(.slice none 0 0)] false),((some g13),.cells [((encL 4 encNode) p0.nodes),((encL 1 Value.string) p0.names),((encL 3 encMem) p0.mems),((encL 1 i64) p0.outs),(.slice (some ⟨g138,0,none⟩) p0.nodes.length p0.nodes.length),(.func (.func 134) ⟨[]⟩ ⟨[]⟩),(.func (.func 136) ⟨[]⟩ ⟨[(FP (encLnZ p1.line)),(.pointer (some ⟨g11,0,none⟩))]⟩)] true)] h) (fun v165=>[]) (fun hm=>?_) ?_
           ·refine gX ?_
            refine atF hm fun x167 hx167 hm=>?_;refine gH ?_
            refine jn hm 189 [0,4,5,12,14,89,90,91] (fun s=>s) (fun v168 h=>Own vars h0 [((some g138),.cells (flatC (v161.map n8)) false),((some g11),.cells [(.func (.func 112) ⟨[]⟩ ⟨[(FP ((encL 1 n8) r6.2.1)),(.pointer (some ⟨g9,0,none⟩))]⟩)] false),((some g9),.cells [(i64 p1.other)] false),((some g136),.cells [(.slice none 0 0),(.slice none 0 0)] false),((some g1),.cells [((encL 1 n8) r6.1.out),((encL 1 n8) r6.1.next)] false),((some g3),.cells [(.slice none 0 0),(.slice none 0 0)] false),((some g13),.cells [((encL 4 encNode) p0.nodes),((encL 1 Value.string) p0.names),((encL 3 encMem) p0.mems),((encL 1 i64) p0.outs),(.slice (some ⟨g138,0,none⟩) p0.nodes.length p0.nodes.length),(.func (.func 134) ⟨[]⟩ ⟨[]⟩),(.func (.func 136) ⟨[]⟩ ⟨[(FP (encLnZ p1.line)),(.pointer (some ⟨g11,0,none⟩))]⟩)] true)] h) (fun v168=>[(109,(.bool v168))]) (fun hm=>?_) ?_
            ·refine gX ?_
             refine br hm (fun hm=>?_) fun hm=>?_
             ·refine gX ?_
              exact jx (neN x167.kind 14) hm O
             ·refine gX ?_
              exact jx false hm O
            ·clear hm;rintro v168 base h hm O
             refine gX ?_
             refine br hm (fun hm=>?_) fun hm=>?_
             ·refine CodeS.drawF ?_;refine gH ?_
              refine fg Tryz.func114 ?_;conv=>whnf
              apply Cs;conv=>whnf
              apply Cs;refine gH ?_
              apply Cs;conv=>whnf
              refine CodeS.drawF ?_;refine gH ?_
              refine atF hm fun x170 hx170 hm=>?_;refine gH ?_
              refine fg Tryz.func115 ?_;conv=>whnf
              apply Cs;conv=>whnf
              apply Cs;refine gH ?_
              have O:=O.addNil (.cells (flatC ((([]:List Nat)).map n8)) false)
              apply Cs;conv=>whnf
              apply Cs;refine gH ?_
              have O:=O.addNil (.cells (flatC ((([]:List Nat)).map n8)) false)
              refine jn (σ:=(List Nat)×Option Nat) hm 42 [] (fun s=>s.1) (fun (v174,a173) h=>(a173=none->v174=[])/\Own vars h0 [(a173,.cells (flatC (v174.map n8)) false),((some g1),.cells [((encL 1 n8) r6.1.out),((encL 1 n8) r6.1.next)] false),((some g3),.cells [(.slice none 0 0),(.slice none 0 0)] false),((some g13),.cells [((encL 4 encNode) p0.nodes),((encL 1 Value.string) p0.names),((encL 3 encMem) p0.mems),((encL 1 i64) p0.outs),(.slice (some ⟨g138,0,none⟩) p0.nodes.length p0.nodes.length),(.func (.func 134) ⟨[]⟩ ⟨[]⟩),(.func (.func 136) ⟨[]⟩ ⟨[(FP (encLnZ p1.line)),(.pointer (some ⟨g11,0,none⟩))]⟩)] true),((some g138),.cells (flatC (v161.map n8)) false),((some g11),.cells [(.func (.func 112) ⟨[]⟩ ⟨[(FP ((encL 1 n8) r6.2.1)),(.pointer (some ⟨g9,0,none⟩))]⟩)] false),((some g9),.cells [(i64 p1.other)] false),((some g136),.cells [(.slice none 0 0),(.slice none 0 0)] false)] h) (fun (v174,a173)=>[(5,(growV 1 a173 (v174.map n8)))]) (fun hm=>?_) ?_
              ·refine gX ?_
               refine atF hm fun x177 hx177 hm=>?_;refine gX ?_
               refine lw 42 [0,1,16,17] (σ:=((List Nat)×Nat)×Option Nat) (fun s=>s.1) (fun ((v179,v180),a178) h=>(a178=none->v179=[])/\Own vars h0 [((some g138),.cells (flatC (v161.map n8)) false),((some g11),.cells [(.func (.func 112) ⟨[]⟩ ⟨[(FP ((encL 1 n8) r6.2.1)),(.pointer (some ⟨g9,0,none⟩))]⟩)] false),((some g9),.cells [(i64 p1.other)] false),(a178,.cells (flatC (v179.map n8)) false),((some g1),.cells [((encL 1 n8) r6.1.out),((encL 1 n8) r6.1.next)] false),((some g3),.cells [(.slice none 0 0),(.slice none 0 0)] false),((some g13),.cells [((encL 4 encNode) p0.nodes),((encL 1 Value.string) p0.names),((encL 3 encMem) p0.mems),((encL 1 i64) p0.outs),(.slice (some ⟨g138,0,none⟩) p0.nodes.length p0.nodes.length),(.func (.func 134) ⟨[]⟩ ⟨[]⟩),(.func (.func 136) ⟨[]⟩ ⟨[(FP (encLnZ p1.line)),(.pointer (some ⟨g11,0,none⟩))]⟩)] true),((some g136),.cells [(.slice none 0 0),(.slice none 0 0)] false)] h) (fun ((v179,v180),a178)=>[(5,(growV 1 a178 (v179.map n8))),(18,(i64 v180))]) ((([]:List Nat),0),none) hm ⟨(fun _=>rfl),(O.sel [2,3,4,0,6,7,8,5] (by decide))⟩ ?_
               clear hm;rintro⟨⟨v179,v180⟩,a178⟩ nx182 base h hm ⟨ha181,O⟩
               refine gX ?_
               refine br hm (fun hm=>?_) fun hm=>?_
               ·refine gX ?_
                refine atF hm fun x183 hx183 hm=>?_;refine gX ?_
                first|refine⟨.inr (.inr (rfl)),?_⟩|refine⟨.inr (.inl (by kernel_rfl)),?_⟩
                refine gX ?_
                first|refine⟨.inr (.inr (rfl)),?_⟩|refine⟨.inr (.inl (by kernel_rfl)),?_⟩
                refine gX ?_
                refine ix 1 hm fun x184 hx184 hm=>?_;refine gH ?_
                refine⟨_,loadK rfl (O.at (.head _)) rfl (cell_map (enc:=n8) (s:=1) (k:=0) (fun _=>rfl) hx184 rfl),?_⟩;refine gH ?_
                refine fg Tryz.func136 ?_;conv=>whnf
                apply Cs;conv=>whnf
                apply Cs;refine gH ?_
                apply Cs;conv=>whnf
                refine jn hm 23 [2,4] (fun s=>s) (fun v185 h=>(a178=none->v179=[])/\Own vars h0 [((some g11),.cells [(.func (.func 112) ⟨[]⟩ ⟨[(FP ((encL 1 n8) r6.2.1)),(.pointer (some ⟨g9,0,none⟩))]⟩)] false),((some g9),.cells [(i64 p1.other)] false),((some g1),.cells [((encL 1 n8) r6.1.out),((encL 1 n8) r6.1.next)] false),((some g3),.cells [(.slice none 0 0),(.slice none 0 0)] false),((some g13),.cells [((encL 4 encNode) p0.nodes),((encL 1 Value.string) p0.names),((encL 3 encMem) p0.mems),((encL 1 i64) p0.outs),(.slice (some ⟨g138,0,none⟩) p0.nodes.length p0.nodes.length),(.func (.func 134) ⟨[]⟩ ⟨[]⟩),(.func (.func 136) ⟨[]⟩ ⟨[(FP (encLnZ p1.line)),(.pointer (some ⟨g11,0,none⟩))]⟩)] true),((some g138),.cells (flatC (v161.map n8)) false),((some g136),.cells [(.slice none 0 0),(.slice none 0 0)] false),(a178,.cells (flatC (v179.map n8)) false)] h) (fun v185=>[(18,(.bool v185))]) (fun hm=>?_) ?_
                ·refine gX ?_
                 refine br hm (fun hm=>?_) fun hm=>?_
                 ·refine gX ?_
                  exact jx (eqZ (Int.ofNat v180) p1.line.pin) hm ⟨ha181,(O.sel [1,2,4,5,6,0,7,3] (by decide))⟩
                 ·refine gX ?_
                  exact jx false hm ⟨ha181,(O.sel [1,2,4,5,6,0,7,3] (by decide))⟩
                ·clear hm;rintro v185 base h hm ⟨ha186,O⟩
                 refine gX ?_
                 refine br hm (fun hm=>?_) fun hm=>?_
                 ·refine gX ?_
                  refine fg Tryz.func112 ?_;refine gX ?_
                  refine atF hm fun x188 hx188 hm=>?_;refine gX ?_
                  (first|refine⟨.inr (.inr (loadK rfl (O.at (.head _)) rfl rfl)),?_⟩|refine⟨.inr (.inr (loadK rfl (O.at (.tail _ (.head _))) rfl rfl)),?_⟩|refine⟨.inr (.inr (loadK rfl (O.at (.tail _ (.tail _ (.head _)))) rfl rfl)),?_⟩|refine⟨.inr (.inr (loadK rfl (O.at (.tail _ (.tail _ (.tail _ (.head _))))) rfl rfl)),?_⟩|refine⟨.inr (.inr (loadK rfl (O.at (.tail _ (.tail _ (.tail _ (.tail _ (.head _)))))) rfl rfl)),?_⟩|refine⟨.inr (.inr (loadK rfl (O.at (.tail _ (.tail _ (.tail _ (.tail _ (.tail _ (.head _))))))) rfl rfl)),?_⟩|refine⟨.inr (.inr (loadK rfl (O.at (.tail _ (.tail _ (.tail _ (.tail _ (.tail _ (.tail _ (.head _)))))))) rfl rfl)),?_⟩|refine⟨.inl (Ext.refl _),?_⟩|refine⟨.inr (.inr rfl),?_⟩|refine⟨.inr (by kernel_rfl),?_⟩|refine⟨.inl (by kernel_rfl),?_⟩|refine id ?_);refine gH ?_
                  refine O.buildLX (l:=([x188]:(List Nat))) (enc:=n8) (s:=1) (z:=(n8 0)) rfl rfl (by kernel_rfl) (by kernel_rfl) rfl rfl rfl rfl (fun _=>rfl) fun g189 h O=>?_;refine gH ?_
                  refine O.appendL (enc:=n8) (l:=v179) (new:=([x188]:(List Nat))) (s:=1) (b:=1) (.tail _ (.tail _ (.tail _ (.tail _ (.tail _ (.tail _ (.tail _ (.tail _ (.head _))))))))) ha186 rfl rfl rfl rfl rfl rfl rfl rfl (YOk.own (O.at (.head _)) rfl (fun _=>rfl) rfl) (fun _=>rfl) (fun _=>rfl) (by decide) hm.1 fun a191 h ha192 O=>?_;refine gH ?_
                  (first|refine⟨.inr (.inr (loadK rfl (O.at (.head _)) rfl rfl)),?_⟩|refine⟨.inr (.inr (loadK rfl (O.at (.tail _ (.head _))) rfl rfl)),?_⟩|refine⟨.inr (.inr (loadK rfl (O.at (.tail _ (.tail _ (.head _)))) rfl rfl)),?_⟩|refine⟨.inr (.inr (loadK rfl (O.at (.tail _ (.tail _ (.tail _ (.head _))))) rfl rfl)),?_⟩|refine⟨.inr (.inr (loadK rfl (O.at (.tail _ (.tail _ (.tail _ (.tail _ (.head _)))))) rfl rfl)),?_⟩|refine⟨.inr (.inr (loadK rfl (O.at (.tail _ (.tail _ (.tail _ (.tail _ (.tail _ (.head _))))))) rfl rfl)),?_⟩|refine⟨.inr (.inr (loadK rfl (O.at (.tail _ (.tail _ (.tail _ (.tail _ (.tail _ (.tail _ (.head _)))))))) rfl rfl)),?_⟩|refine⟨.inl (Ext.refl _),?_⟩|refine⟨.inr (.inr rfl),?_⟩|refine⟨.inr (by kernel_rfl),?_⟩|refine⟨.inl (by kernel_rfl),?_⟩|refine id ?_);refine gH ?_
                  replace hm:=hm.2
                  refine gX ?_
                  refine aAdd hm fun hm=>?_;refine gH ?_
                  exact jx (((v179++([x188]:(List Nat))),(v180+1)),a191) hm ⟨ha192,(O.sel [6,1,2,8,3,4,5,7] (by decide))⟩
                 ·refine gX ?_
                  (first|refine⟨.inr (.inr (loadK rfl (O.at (.head _)) rfl rfl)),?_⟩|refine⟨.inr (.inr (loadK rfl (O.at (.tail _ (.head _))) rfl rfl)),?_⟩|refine⟨.inr (.inr (loadK rfl (O.at (.tail _ (.tail _ (.head _)))) rfl rfl)),?_⟩|refine⟨.inr (.inr (loadK rfl (O.at (.tail _ (.tail _ (.tail _ (.head _))))) rfl rfl)),?_⟩|refine⟨.inr (.inr (loadK rfl (O.at (.tail _ (.tail _ (.tail _ (.tail _ (.head _)))))) rfl rfl)),?_⟩|refine⟨.inr (.inr (loadK rfl (O.at (.tail _ (.tail _ (.tail _ (.tail _ (.tail _ (.head _))))))) rfl rfl)),?_⟩|refine⟨.inr (.inr (loadK rfl (O.at (.tail _ (.tail _ (.tail _ (.tail _ (.tail _ (.tail _ (.head _)))))))) rfl rfl)),?_⟩|refine⟨.inl (Ext.refl _),?_⟩|refine⟨.inr (.inr rfl),?_⟩|refine⟨.inr (by kernel_rfl),?_⟩|refine⟨.inl (by kernel_rfl),?_⟩|refine id ?_);refine gH ?_
                  refine O.buildLX (l:=([x184]:(List Nat))) (enc:=n8) (s:=1) (z:=(n8 0)) rfl rfl (by kernel_rfl) (by kernel_rfl) rfl rfl rfl rfl (fun _=>rfl) fun g193 h O=>?_;refine gH ?_
                  refine O.appendL (enc:=n8) (l:=v179) (new:=([x184]:(List Nat))) (s:=1) (b:=1) (.tail _ (.tail _ (.tail _ (.tail _ (.tail _ (.tail _ (.tail _ (.tail _ (.head _))))))))) ha186 rfl rfl rfl rfl rfl rfl rfl rfl (YOk.own (O.at (.head _)) rfl (fun _=>rfl) rfl) (fun _=>rfl) (fun _=>rfl) (by decide) hm.1 fun a195 h ha196 O=>?_;refine gH ?_
                  (first|refine⟨.inr (.inr (loadK rfl (O.at (.head _)) rfl rfl)),?_⟩|refine⟨.inr (.inr (loadK rfl (O.at (.tail _ (.head _))) rfl rfl)),?_⟩|refine⟨.inr (.inr (loadK rfl (O.at (.tail _ (.tail _ (.head _)))) rfl rfl)),?_⟩|refine⟨.inr (.inr (loadK rfl (O.at (.tail _ (.tail _ (.tail _ (.head _))))) rfl rfl)),?_⟩|refine⟨.inr (.inr (loadK rfl (O.at (.tail _ (.tail _ (.tail _ (.tail _ (.head _)))))) rfl rfl)),?_⟩|refine⟨.inr (.inr (loadK rfl (O.at (.tail _ (.tail _ (.tail _ (.tail _ (.tail _ (.head _))))))) rfl rfl)),?_⟩|refine⟨.inr (.inr (loadK rfl (O.at (.tail _ (.tail _ (.tail _ (.tail _ (.tail _ (.tail _ (.head _)))))))) rfl rfl)),?_⟩|refine⟨.inl (Ext.refl _),?_⟩|refine⟨.inr (.inr rfl),?_⟩|refine⟨.inr (by kernel_rfl),?_⟩|refine⟨.inl (by kernel_rfl),?_⟩|refine id ?_);refine gH ?_
                  replace hm:=hm.2
                  refine gX ?_
                  refine aAdd hm fun hm=>?_;refine gH ?_
                  exact jx (((v179++([x184]:(List Nat))),(v180+1)),a195) hm ⟨ha196,(O.sel [6,1,2,8,3,4,5,7] (by decide))⟩
               ·refine gX ?_
                exact jx (v179,a178) hm ⟨ha181,(O.sel [3,4,5,6,0,1,2,7] (by decide))⟩
              ·clear hm;rintro⟨v174,a173⟩ base h hm ⟨ha175,O⟩
               refine gX ?_
               refine CallD.useB (fun _ hb=>logic_Eval_walk hm hb) (fun _=>flatB_ok rfl) fzVars O.has (fun h2 F=>(LLe.cons (VLe.refl _ _) (LLe.cons (O.grownL F (Nat.zero_le _) (.head _) ha175 (fun _=>rfl)) (LLe.nil _)))) (by kernel_rfl) (fun r197 hm'=>?_);replace hm:=hm';refine gX ?_
               refine ix 1 hm fun x198 hx198 hm=>?_;refine gH ?_
               refine O.stE 1 (.tail _ (.tail _ (.tail _ (.tail _ (.head _))))) hx198 r197 fun h O=>?_;refine gH ?_
               exact jx (v161.set x164 r197) hm (O.sel [4,5,6,7,1,2,3] (by decide))
             ·refine gX ?_
              exact jx v161 hm O
           ·clear hm;rintro v165 base h hm O
            refine gX ?_
            first|refine⟨.inr (.inr (rfl)),?_⟩|refine⟨.inr (.inl (by kernel_rfl)),?_⟩
            refine gX ?_
            first|refine⟨.inr (.inr (rfl)),?_⟩|refine⟨.inr (.inl (by kernel_rfl)),?_⟩
            refine gX ?_
            first|refine⟨.inr (.inr (rfl)),?_⟩|refine⟨.inr (.inl (by kernel_rfl)),?_⟩
            refine gX ?_
            refine ix 1 hm fun x199 hx199 hm=>?_;refine gH ?_
            refine⟨_,loadK rfl (O.at (.head _)) rfl (cell_map (enc:=n8) (s:=1) (k:=0) (fun _=>rfl) hx199 rfl),?_⟩;refine gH ?_
            refine fg Tryz.func134 ?_;refine gX ?_
            (first|refine⟨.inr (.inr (loadK rfl (O.at (.head _)) rfl rfl)),?_⟩|refine⟨.inr (.inr (loadK rfl (O.at (.tail _ (.head _))) rfl rfl)),?_⟩|refine⟨.inr (.inr (loadK rfl (O.at (.tail _ (.tail _ (.head _)))) rfl rfl)),?_⟩|refine⟨.inr (.inr (loadK rfl (O.at (.tail _ (.tail _ (.tail _ (.head _))))) rfl rfl)),?_⟩|refine⟨.inr (.inr (loadK rfl (O.at (.tail _ (.tail _ (.tail _ (.tail _ (.head _)))))) rfl rfl)),?_⟩|refine⟨.inr (.inr (loadK rfl (O.at (.tail _ (.tail _ (.tail _ (.tail _ (.tail _ (.head _))))))) rfl rfl)),?_⟩|refine⟨.inr (.inr (loadK rfl (O.at (.tail _ (.tail _ (.tail _ (.tail _ (.tail _ (.tail _ (.head _)))))))) rfl rfl)),?_⟩|refine⟨.inl (Ext.refl _),?_⟩|refine⟨.inr (.inr rfl),?_⟩|refine⟨.inr (by kernel_rfl),?_⟩|refine⟨.inl (by kernel_rfl),?_⟩|refine id ?_);refine gH ?_
            refine ix 1 hm fun x200 hx200 hm=>?_;refine gH ?_
            refine O.stE 1 (.head _) hx200 x199 fun h O=>?_;refine gH ?_
            (first|refine⟨.inr (.inr (loadK rfl (O.at (.head _)) rfl rfl)),?_⟩|refine⟨.inr (.inr (loadK rfl (O.at (.tail _ (.head _))) rfl rfl)),?_⟩|refine⟨.inr (.inr (loadK rfl (O.at (.tail _ (.tail _ (.head _)))) rfl rfl)),?_⟩|refine⟨.inr (.inr (loadK rfl (O.at (.tail _ (.tail _ (.tail _ (.head _))))) rfl rfl)),?_⟩|refine⟨.inr (.inr (loadK rfl (O.at (.tail _ (.tail _ (.tail _ (.tail _ (.head _)))))) rfl rfl)),?_⟩|refine⟨.inr (.inr (loadK rfl (O.at (.tail _ (.tail _ (.tail _ (.tail _ (.tail _ (.head _))))))) rfl rfl)),?_⟩|refine⟨.inr (.inr (loadK rfl (O.at (.tail _ (.tail _ (.tail _ (.tail _ (.tail _ (.tail _ (.head _)))))))) rfl rfl)),?_⟩|refine⟨.inl (Ext.refl _),?_⟩|refine⟨.inr (.inr rfl),?_⟩|refine⟨.inr (by kernel_rfl),?_⟩|refine⟨.inl (by kernel_rfl),?_⟩|refine id ?_);refine gH ?_
            refine gX ?_
            refine aAdd hm fun hm=>?_;refine gH ?_
            exact jx ((v165.set x164 x199),(v162+1)) hm O
          ·refine gX ?_
           exact jx v161 hm O
         ·clear hm;rintro v159 base h hm O
          refine gX ?_
          have O:=O.addNil (.cells (flatC ((([]:List Nat)).map n8)) false)
          have O:=O.addNil (.cells (flatC ((([]:List Nat)).map n8)) false)
          (first|refine O.new (anew_alloc (l:=[(.slice none 0 0),(.slice none 0 0)]) rfl rfl rfl) fun g201 h O=>?_|refine O.newX (anew_alloc (l:=[(.slice none 0 0),(.slice none 0 0)]) rfl rfl rfl) fun g201 h O=>?_);refine gH ?_
          refine jn (σ:=(List Nat)×Option Nat) hm 189 [0,4,5,16] (fun s=>s.1) (fun (v206,a205) h=>(a205=none->v206=[])/\Own vars h0 [((some g138),.cells (flatC (v159.map n8)) false),((some g11),.cells [(.func (.func 112) ⟨[]⟩ ⟨[(FP ((encL 1 n8) r6.2.1)),(.pointer (some ⟨g9,0,none⟩))]⟩)] false),((some g9),.cells [(i64 p1.other)] false),((some g136),.cells [(.slice none 0 0),(.slice none 0 0)] false),((some g201),.cells [(growV 1 a205 (v206.map n8)),(growV 1 none (([]:List Nat).map n8))] false),(a205,.cells (flatC (v206.map n8)) false),(none,.cells (flatC (([]:List Nat).map n8)) false),((some g1),.cells [((encL 1 n8) r6.1.out),((encL 1 n8) r6.1.next)] false),((some g3),.cells [(.slice none 0 0),(.slice none 0 0)] false),((some g13),.cells [((encL 4 encNode) p0.nodes),((encL 1 Value.string) p0.names),((encL 3 encMem) p0.mems),((encL 1 i64) p0.outs),(.slice (some ⟨g138,0,none⟩) p0.nodes.length p0.nodes.length),(.func (.func 134) ⟨[]⟩ ⟨[]⟩),(.func (.func 136) ⟨[]⟩ ⟨[(FP (encLnZ p1.line)),(.pointer (some ⟨g11,0,none⟩))]⟩)] true)] h) (fun (v206,a205)=>[]) (fun hm=>?_) ?_
          ·refine gX ?_
           refine lw 189 [0,4,5,16,143,144] (σ:=((List Nat)×Nat)×Option Nat) (fun s=>s.1) (fun ((v210,v211),a209) h=>(a209=none->v210=[])/\Own vars h0 [((some g138),.cells (flatC (v159.map n8)) false),((some g11),.cells [(.func (.func 112) ⟨[]⟩ ⟨[(FP ((encL 1 n8) r6.2.1)),(.pointer (some ⟨g9,0,none⟩))]⟩)] false),((some g9),.cells [(i64 p1.other)] false),((some g136),.cells [(.slice none 0 0),(.slice none 0 0)] false),((some g201),.cells [(growV 1 a209 (v210.map n8)),(growV 1 none (([]:List Nat).map n8))] false),(a209,.cells (flatC (v210.map n8)) false),(none,.cells (flatC (([]:List Nat).map n8)) false),((some g1),.cells [((encL 1 n8) r6.1.out),((encL 1 n8) r6.1.next)] false),((some g3),.cells [(.slice none 0 0),(.slice none 0 0)] false),((some g13),.cells [((encL 4 encNode) p0.nodes),((encL 1 Value.string) p0.names),((encL 3 encMem) p0.mems),((encL 1 i64) p0.outs),(.slice (some ⟨g138,0,none⟩) p0.nodes.length p0.nodes.length),(.func (.func 134) ⟨[]⟩ ⟨[]⟩),(.func (.func 136) ⟨[]⟩ ⟨[(FP (encLnZ p1.line)),(.pointer (some ⟨g11,0,none⟩))]⟩)] true)] h) (fun ((v210,v211),a209)=>[(145,(i64 v211))]) ((([]:List Nat),0),none) hm ⟨(fun _=>rfl),(O.sel [3,4,5,6,0,2,1,7,8,9] (by decide))⟩ ?_
           clear hm;rintro⟨⟨v210,v211⟩,a209⟩ nx213 base h hm ⟨ha212,O⟩
           refine gX ?_
           refine br hm (fun hm=>?_) fun hm=>?_
           ·refine gX ?_
            refine atF hm fun x214 hx214 hm=>?_;refine gX ?_
            refine ldO (O.at (.tail _ (.tail _ (.tail _ (.tail _ (.head _)))))) ?_;refine gH ?_
            first|refine⟨.inr (.inr (loadK rfl (O.at (.tail _ (.tail _ (.tail _ (.tail _ (.head _)))))) rfl rfl)),?_⟩|refine⟨.inr (.inl (by kernel_rfl)),?_⟩
            refine gX ?_
            first|refine⟨.inr (.inr (rfl)),?_⟩|refine⟨.inr (.inl (by kernel_rfl)),?_⟩
            refine gX ?_
            refine ix 1 hm fun x215 hx215 hm=>?_;refine gH ?_
            refine⟨_,loadK rfl (O.at (.head _)) rfl (cell_map (enc:=n8) (s:=1) (k:=0) (fun _=>rfl) hx215 rfl),?_⟩;refine gH ?_
            refine O.buildLX (l:=([x215]:(List Nat))) (enc:=n8) (s:=1) (z:=(n8 0)) rfl rfl (by kernel_rfl) (by kernel_rfl) rfl rfl rfl rfl (fun _=>rfl) fun g216 h O=>?_;refine gH ?_
            refine O.appendL (enc:=n8) (l:=v210) (new:=([x215]:(List Nat))) (s:=1) (b:=1) (.tail _ (.tail _ (.tail _ (.tail _ (.tail _ (.tail _ (.head _))))))) ha212 rfl rfl rfl rfl rfl rfl rfl rfl (YOk.own (O.at (.head _)) rfl (fun _=>rfl) rfl) (fun _=>rfl) (fun _=>rfl) (by decide) hm.1 fun a218 h ha219 O=>?_;refine gH ?_
            (first|refine⟨.inr (.inr (loadK rfl (O.at (.head _)) rfl rfl)),?_⟩|refine⟨.inr (.inr (loadK rfl (O.at (.tail _ (.head _))) rfl rfl)),?_⟩|refine⟨.inr (.inr (loadK rfl (O.at (.tail _ (.tail _ (.head _)))) rfl rfl)),?_⟩|refine⟨.inr (.inr (loadK rfl (O.at (.tail _ (.tail _ (.tail _ (.head _))))) rfl rfl)),?_⟩|refine⟨.inr (.inr (loadK rfl (O.at (.tail _ (.tail _ (.tail _ (.tail _ (.head _)))))) rfl rfl)),?_⟩|refine⟨.inr (.inr (loadK rfl (O.at (.tail _ (.tail _ (.tail _ (.tail _ (.tail _ (.head _))))))) rfl rfl)),?_⟩|refine⟨.inr (.inr (loadK rfl (O.at (.tail _ (.tail _ (.tail _ (.tail _ (.tail _ (.tail _ (.head _)))))))) rfl rfl)),?_⟩|refine⟨.inl (Ext.refl _),?_⟩|refine⟨.inr (.inr rfl),?_⟩|refine⟨.inr (by kernel_rfl),?_⟩|refine⟨.inl (by kernel_rfl),?_⟩|refine id ?_);refine gH ?_
            replace hm:=hm.2
            refine O.stC 1 (.tail _ (.tail _ (.tail _ (.tail _ (.tail _ (.head _)))))) [(growV 1 a218 ((v210++([x215]:(List Nat))).map n8)),(growV 1 none (([]:List Nat).map n8))] fun h O=>?_;refine gH ?_
            (first|refine⟨.inr (.inr (loadK rfl (O.at (.head _)) rfl rfl)),?_⟩|refine⟨.inr (.inr (loadK rfl (O.at (.tail _ (.head _))) rfl rfl)),?_⟩|refine⟨.inr (.inr (loadK rfl (O.at (.tail _ (.tail _ (.head _)))) rfl rfl)),?_⟩|refine⟨.inr (.inr (loadK rfl (O.at (.tail _ (.tail _ (.tail _ (.head _))))) rfl rfl)),?_⟩|refine⟨.inr (.inr (loadK rfl (O.at (.tail _ (.tail _ (.tail _ (.tail _ (.head _)))))) rfl rfl)),?_⟩|refine⟨.inr (.inr (loadK rfl (O.at (.tail _ (.tail _ (.tail _ (.tail _ (.tail _ (.head _))))))) rfl rfl)),?_⟩|refine⟨.inr (.inr (loadK rfl (O.at (.tail _ (.tail _ (.tail _ (.tail _ (.tail _ (.tail _ (.head _)))))))) rfl rfl)),?_⟩|refine⟨.inl (Ext.refl _),?_⟩|refine⟨.inr (.inr rfl),?_⟩|refine⟨.inr (by kernel_rfl),?_⟩|refine⟨.inl (by kernel_rfl),?_⟩|refine id ?_);refine gH ?_
            refine gX ?_
            refine aAdd hm fun hm=>?_;refine gH ?_
            exact jx (((v210++([x215]:(List Nat))),(v211+1)),a218) hm ⟨ha219,(O.sel [1,2,3,4,5,6,7,8,9,10] (by decide))⟩
           ·refine gX ?_
            exact jx (v210,a209) hm ⟨ha212,O⟩
          ·clear hm;rintro⟨v206,a205⟩ base h hm ⟨ha207,O⟩
           conv=>whnf
           refine jn (σ:=(List Nat)×Option Nat) hm 189 [4,16] (fun s=>s.1) (fun (v221,a220) h=>(a205=none->v206=[])/\(a220=none->v221=[])/\Own vars h0 [((some g136),.cells [(.slice none 0 0),(.slice none 0 0)] false),((some g201),.cells [(growV 1 a205 (v206.map n8)),(growV 1 a220 (v221.map n8))] false),(a205,.cells (flatC (v206.map n8)) false),(a220,.cells (flatC (v221.map n8)) false),((some g1),.cells [((encL 1 n8) r6.1.out),((encL 1 n8) r6.1.next)] false),((some g3),.cells [(.slice none 0 0),(.slice none 0 0)] false),((some g13),.cells [((encL 4 encNode) p0.nodes),((encL 1 Value.string) p0.names),((encL 3 encMem) p0.mems),((encL 1 i64) p0.outs),(.slice (some ⟨g138,0,none⟩) p0.nodes.length p0.nodes.length),(.func (.func 134) ⟨[]⟩ ⟨[]⟩),(.func (.func 136) ⟨[]⟩ ⟨[(FP (encLnZ p1.line)),(.pointer (some ⟨g11,0,none⟩))]⟩)] true),((some g138),.cells (flatC (v159.map n8)) false),((some g11),.cells [(.func (.func 112) ⟨[]⟩ ⟨[(FP ((encL 1 n8) r6.2.1)),(.pointer (some ⟨g9,0,none⟩))]⟩)] false),((some g9),.cells [(i64 p1.other)] false)] h) (fun (v221,a220)=>[]) (fun hm=>?_) ?_
           ·refine gX ?_
            refine lw 189 [0,4,16,162,163] (σ:=((List Nat)×Nat)×Option Nat) (fun s=>s.1) (fun ((v226,v227),a225) h=>(a205=none->v206=[])/\(a225=none->v226=[])/\Own vars h0 [((some g138),.cells (flatC (v159.map n8)) false),((some g11),.cells [(.func (.func 112) ⟨[]⟩ ⟨[(FP ((encL 1 n8) r6.2.1)),(.pointer (some ⟨g9,0,none⟩))]⟩)] false),((some g9),.cells [(i64 p1.other)] false),((some g136),.cells [(.slice none 0 0),(.slice none 0 0)] false),((some g201),.cells [(growV 1 a205 (v206.map n8)),(growV 1 a225 (v226.map n8))] false),(a205,.cells (flatC (v206.map n8)) false),(a225,.cells (flatC (v226.map n8)) false),((some g1),.cells [((encL 1 n8) r6.1.out),((encL 1 n8) r6.1.next)] false),((some g3),.cells [(.slice none 0 0),(.slice none 0 0)] false),((some g13),.cells [((encL 4 encNode) p0.nodes),((encL 1 Value.string) p0.names),((encL 3 encMem) p0.mems),((encL 1 i64) p0.outs),(.slice (some ⟨g138,0,none⟩) p0.nodes.length p0.nodes.length),(.func (.func 134) ⟨[]⟩ ⟨[]⟩),(.func (.func 136) ⟨[]⟩ ⟨[(FP (encLnZ p1.line)),(.pointer (some ⟨g11,0,none⟩))]⟩)] true)] h) (fun ((v226,v227),a225)=>[(164,(i64 v227))]) ((([]:List Nat),0),none) hm ⟨ha207,(fun _=>rfl),O⟩ ?_
            clear hm;rintro⟨⟨v226,v227⟩,a225⟩ nx230 base h hm ⟨ha228,ha229,O⟩
            refine gX ?_
            refine br hm (fun hm=>?_) fun hm=>?_
            ·refine gX ?_
             refine atF hm fun x231 hx231 hm=>?_;refine gX ?_
             refine fg Tryz.func115 ?_;conv=>whnf
             apply Cs;conv=>whnf
             apply Cs;refine gH ?_
             have O:=O.addNil (.cells (flatC ((([]:List Nat)).map n8)) false)
             apply Cs;conv=>whnf
             apply Cs;refine gH ?_
             have O:=O.addNil (.cells (flatC ((([]:List Nat)).map n8)) false)
             refine jn (σ:=(List Nat)×Option Nat) hm 42 [] (fun s=>s.1) (fun (v235,a234) h=>(a234=none->v235=[])/\(a205=none->v206=[])/\(a225=none->v226=[])/\Own vars h0 [(a234,.cells (flatC (v235.map n8)) false),((some g1),.cells [((encL 1 n8) r6.1.out),((encL 1 n8) r6.1.next)] false),((some g3),.cells [(.slice none 0 0),(.slice none 0 0)] false),((some g13),.cells [((encL 4 encNode) p0.nodes),((encL 1 Value.string) p0.names),((encL 3 encMem) p0.mems),((encL 1 i64) p0.outs),(.slice (some ⟨g138,0,none⟩) p0.nodes.length p0.nodes.length),(.func (.func 134) ⟨[]⟩ ⟨[]⟩),(.func (.func 136) ⟨[]⟩ ⟨[(FP (encLnZ p1.line)),(.pointer (some ⟨g11,0,none⟩))]⟩)] true),((some g138),.cells (flatC (v159.map n8)) false),((some g11),.cells [(.func (.func 112) ⟨[]⟩ ⟨[(FP ((encL 1 n8) r6.2.1)),(.pointer (some ⟨g9,0,none⟩))]⟩)] false),((some g9),.cells [(i64 p1.other)] false),((some g136),.cells [(.slice none 0 0),(.slice none 0 0)] false),((some g201),.cells [(growV 1 a205 (v206.map n8)),(growV 1 a225 (v226.map n8))] false),(a205,.cells (flatC (v206.map n8)) false),(a225,.cells (flatC (v226.map n8)) false)] h) (fun (v235,a234)=>[(5,(growV 1 a234 (v235.map n8)))]) (fun hm=>?_) ?_
             ·refine gX ?_
              refine atF hm fun x240 hx240 hm=>?_;refine gX ?_
              refine lw 42 [0,1,16,17] (σ:=((List Nat)×Nat)×Option Nat) (fun s=>s.1) (fun ((v242,v243),a241) h=>(a241=none->v242=[])/\(a205=none->v206=[])/\(a225=none->v226=[])/\Own vars h0 [((some g138),.cells (flatC (v159.map n8)) false),((some g11),.cells [(.func (.func 112) ⟨[]⟩ ⟨[(FP ((encL 1 n8) r6.2.1)),(.pointer (some ⟨g9,0,none⟩))]⟩)] false),((some g9),.cells [(i64 p1.other)] false),(a241,.cells (flatC (v242.map n8)) false),((some g1),.cells [((encL 1 n8) r6.1.out),((encL 1 n8) r6.1.next)] false),((some g3),.cells [(.slice none 0 0),(.slice none 0 0)] false),((some g13),.cells [((encL 4 encNode) p0.nodes),((encL 1 Value.string) p0.names),((encL 3 encMem) p0.mems),((encL 1 i64) p0.outs),(.slice (some ⟨g138,0,none⟩) p0.nodes.length p0.nodes.length),(.func (.func 134) ⟨[]⟩ ⟨[]⟩),(.func (.func 136) ⟨[]⟩ ⟨[(FP (encLnZ p1.line)),(.pointer (some ⟨g11,0,none⟩))]⟩)] true),((some g136),.cells [(.slice none 0 0),(.slice none 0 0)] false),((some g201),.cells [(growV 1 a205 (v206.map n8)),(growV 1 a225 (v226.map n8))] false),(a205,.cells (flatC (v206.map n8)) false),(a225,.cells (flatC (v226.map n8)) false)] h) (fun ((v242,v243),a241)=>[(5,(growV 1 a241 (v242.map n8))),(18,(i64 v243))]) ((([]:List Nat),0),none) hm ⟨(fun _=>rfl),ha228,ha229,(O.sel [2,3,4,0,9,10,11,5,6,7,8] (by decide))⟩ ?_
              clear hm;rintro⟨⟨v242,v243⟩,a241⟩ nx247 base h hm ⟨ha244,ha245,ha246,O⟩
              refine gX ?_
              refine br hm (fun hm=>?_) fun hm=>?_
              ·refine gX ?_
               refine atF hm fun x248 hx248 hm=>?_;refine gX ?_
               first|refine⟨.inr (.inr (rfl)),?_⟩|refine⟨.inr (.inl (by kernel_rfl)),?_⟩
               refine gX ?_
               first|refine⟨.inr (.inr (rfl)),?_⟩|refine⟨.inr (.inl (by kernel_rfl)),?_⟩
               refine gX ?_
               refine ix 1 hm fun x249 hx249 hm=>?_;refine gH ?_
               refine⟨_,loadK rfl (O.at (.head _)) rfl (cell_map (enc:=n8) (s:=1) (k:=0) (fun _=>rfl) hx249 rfl),?_⟩;refine gH ?_
               refine fg Tryz.func136 ?_;conv=>whnf
               apply Cs;conv=>whnf
               apply Cs;refine gH ?_
               apply Cs;conv=>whnf
               refine jn hm 23 [2,4] (fun s=>s) (fun v250 h=>(a205=none->v206=[])/\(a225=none->v226=[])/\(a241=none->v242=[])/\Own vars h0 [((some g11),.cells [(.func (.func 112) ⟨[]⟩ ⟨[(FP ((encL 1 n8) r6.2.1)),(.pointer (some ⟨g9,0,none⟩))]⟩)] false),((some g9),.cells [(i64 p1.other)] false),((some g1),.cells [((encL 1 n8) r6.1.out),((encL 1 n8) r6.1.next)] false),((some g3),.cells [(.slice none 0 0),(.slice none 0 0)] false),((some g13),.cells [((encL 4 encNode) p0.nodes),((encL 1 Value.string) p0.names),((encL 3 encMem) p0.mems),((encL 1 i64) p0.outs),(.slice (some ⟨g138,0,none⟩) p0.nodes.length p0.nodes.length),(.func (.func 134) ⟨[]⟩ ⟨[]⟩),(.func (.func 136) ⟨[]⟩ ⟨[(FP (encLnZ p1.line)),(.pointer (some ⟨g11,0,none⟩))]⟩)] true),((some g138),.cells (flatC (v159.map n8)) false),((some g136),.cells [(.slice none 0 0),(.slice none 0 0)] false),((some g201),.cells [(growV 1 a205 (v206.map n8)),(growV 1 a225 (v226.map n8))] false),(a205,.cells (flatC (v206.map n8)) false),(a225,.cells (flatC (v226.map n8)) false),(a241,.cells (flatC (v242.map n8)) false)] h) (fun v250=>[(18,(.bool v250))]) (fun hm=>?_) ?_
               ·refine gX ?_
                refine br hm (fun hm=>?_) fun hm=>?_
                ·refine gX ?_
                 exact jx (eqZ (Int.ofNat v243) p1.line.pin) hm ⟨ha245,ha246,ha244,(O.sel [1,2,4,5,6,0,7,8,9,10,3] (by decide))⟩
                ·refine gX ?_
                 exact jx false hm ⟨ha245,ha246,ha244,(O.sel [1,2,4,5,6,0,7,8,9,10,3] (by decide))⟩
               ·clear hm;rintro v250 base h hm ⟨ha251,ha252,ha253,O⟩
                refine gX ?_
                refine br hm (fun hm=>?_) fun hm=>?_
                ·refine gX ?_
                 refine fg Tryz.func112 ?_;refine gX ?_
                 refine atF hm fun x255 hx255 hm=>?_;refine gX ?_
                 (first|refine⟨.inr (.inr (loadK rfl (O.at (.head _)) rfl rfl)),?_⟩|refine⟨.inr (.inr (loadK rfl (O.at (.tail _ (.head _))) rfl rfl)),?_⟩|refine⟨.inr (.inr (loadK rfl (O.at (.tail _ (.tail _ (.head _)))) rfl rfl)),?_⟩|refine⟨.inr (.inr (loadK rfl (O.at (.tail _ (.tail _ (.tail _ (.head _))))) rfl rfl)),?_⟩|refine⟨.inr (.inr (loadK rfl (O.at (.tail _ (.tail _ (.tail _ (.tail _ (.head _)))))) rfl rfl)),?_⟩|refine⟨.inr (.inr (loadK rfl (O.at (.tail _ (.tail _ (.tail _ (.tail _ (.tail _ (.head _))))))) rfl rfl)),?_⟩|refine⟨.inr (.inr (loadK rfl (O.at (.tail _ (.tail _ (.tail _ (.tail _ (.tail _ (.tail _ (.head _)))))))) rfl rfl)),?_⟩|refine⟨.inl (Ext.refl _),?_⟩|refine⟨.inr (.inr rfl),?_⟩|refine⟨.inr (by kernel_rfl),?_⟩|refine⟨.inl (by kernel_rfl),?_⟩|refine id ?_);refine gH ?_
                 refine O.buildLX (l:=([x255]:(List Nat))) (enc:=n8) (s:=1) (z:=(n8 0)) rfl rfl (by kernel_rfl) (by kernel_rfl) rfl rfl rfl rfl (fun _=>rfl) fun g256 h O=>?_;refine gH ?_
                 refine O.appendL (enc:=n8) (l:=v242) (new:=([x255]:(List Nat))) (s:=1) (b:=1) (.tail _ (.tail _ (.tail _ (.tail _ (.tail _ (.tail _ (.tail _ (.tail _ (.tail _ (.tail _ (.tail _ (.head _)))))))))))) ha253 rfl rfl rfl rfl rfl rfl rfl rfl (YOk.own (O.at (.head _)) rfl (fun _=>rfl) rfl) (fun _=>rfl) (fun _=>rfl) (by decide) hm.1 fun a258 h ha259 O=>?_;refine gH ?_
                 (first|refine⟨.inr (.inr (loadK rfl (O.at (.head _)) rfl rfl)),?_⟩|refine⟨.inr (.inr (loadK rfl (O.at (.tail _ (.head _))) rfl rfl)),?_⟩|refine⟨.inr (.inr (loadK rfl (O.at (.tail _ (.tail _ (.head _)))) rfl rfl)),?_⟩|refine⟨.inr (.inr (loadK rfl (O.at (.tail _ (.tail _ (.tail _ (.head _))))) rfl rfl)),?_⟩|refine⟨.inr (.inr (loadK rfl (O.at (.tail _ (.tail _ (.tail _ (.tail _ (.head _)))))) rfl rfl)),?_⟩|refine⟨.inr (.inr (loadK rfl (O.at (.tail _ (.tail _ (.tail _ (.tail _ (.tail _ (.head _))))))) rfl rfl)),?_⟩|refine⟨.inr (.inr (loadK rfl (O.at (.tail _ (.tail _ (.tail _ (.tail _ (.tail _ (.tail _ (.head _)))))))) rfl rfl)),?_⟩|refine⟨.inl (Ext.refl _),?_⟩|refine⟨.inr (.inr rfl),?_⟩|refine⟨.inr (by kernel_rfl),?_⟩|refine⟨.inl (by kernel_rfl),?_⟩|refine id ?_);refine gH ?_
                 replace hm:=hm.2
                 refine gX ?_
                 refine aAdd hm fun hm=>?_;refine gH ?_
                 exact jx (((v242++([x255]:(List Nat))),(v243+1)),a258) hm ⟨ha259,ha251,ha252,(O.sel [6,1,2,11,3,4,5,7,8,9,10] (by decide))⟩
                ·refine gX ?_
                 (first|refine⟨.inr (.inr (loadK rfl (O.at (.head _)) rfl rfl)),?_⟩|refine⟨.inr (.inr (loadK rfl (O.at (.tail _ (.head _))) rfl rfl)),?_⟩|refine⟨.inr (.inr (loadK rfl (O.at (.tail _ (.tail _ (.head _)))) rfl rfl)),?_⟩|refine⟨.inr (.inr (loadK rfl (O.at (.tail _ (.tail _ (.tail _ (.head _))))) rfl rfl)),?_⟩|refine⟨.inr (.inr (loadK rfl (O.at (.tail _ (.tail _ (.tail _ (.tail _ (.head _)))))) rfl rfl)),?_⟩|refine⟨.inr (.inr (loadK rfl (O.at (.tail _ (.tail _ (.tail _ (.tail _ (.tail _ (.head _))))))) rfl rfl)),?_⟩|refine⟨.inr (.inr (loadK rfl (O.at (.tail _ (.tail _ (.tail _ (.tail _ (.tail _ (.tail _ (.head _)))))))) rfl rfl)),?_⟩|refine⟨.inl (Ext.refl _),?_⟩|refine⟨.inr (.inr rfl),?_⟩|refine⟨.inr (by kernel_rfl),?_⟩|refine⟨.inl (by kernel_rfl),?_⟩|refine id ?_);refine gH ?_
                 refine O.buildLX (l:=([x249]:(List Nat))) (enc:=n8) (s:=1) (z:=(n8 0)) rfl rfl (by kernel_rfl) (by kernel_rfl) rfl rfl rfl rfl (fun _=>rfl) fun g260 h O=>?_;refine gH ?_
                 refine O.appendL (enc:=n8) (l:=v242) (new:=([x249]:(List Nat))) (s:=1) (b:=1) (.tail _ (.tail _ (.tail _ (.tail _ (.tail _ (.tail _ (.tail _ (.tail _ (.tail _ (.tail _ (.tail _ (.head _)))))))))))) ha253 rfl rfl rfl rfl rfl rfl rfl rfl (YOk.own (O.at (.head _)) rfl (fun _=>rfl) rfl) (fun _=>rfl) (fun _=>rfl) (by decide) hm.1 fun a262 h ha263 O=>?_;refine gH ?_
                 (first|refine⟨.inr (.inr (loadK rfl (O.at (.head _)) rfl rfl)),?_⟩|refine⟨.inr (.inr (loadK rfl (O.at (.tail _ (.head _))) rfl rfl)),?_⟩|refine⟨.inr (.inr (loadK rfl (O.at (.tail _ (.tail _ (.head _)))) rfl rfl)),?_⟩|refine⟨.inr (.inr (loadK rfl (O.at (.tail _ (.tail _ (.tail _ (.head _))))) rfl rfl)),?_⟩|refine⟨.inr (.inr (loadK rfl (O.at (.tail _ (.tail _ (.tail _ (.tail _ (.head _)))))) rfl rfl)),?_⟩|refine⟨.inr (.inr (loadK rfl (O.at (.tail _ (.tail _ (.tail _ (.tail _ (.tail _ (.head _))))))) rfl rfl)),?_⟩|refine⟨.inr (.inr (loadK rfl (O.at (.tail _ (.tail _ (.tail _ (.tail _ (.tail _ (.tail _ (.head _)))))))) rfl rfl)),?_⟩|refine⟨.inl (Ext.refl _),?_⟩|refine⟨.inr (.inr rfl),?_⟩|refine⟨.inr (by kernel_rfl),?_⟩|refine⟨.inl (by kernel_rfl),?_⟩|refine id ?_);refine gH ?_
                 replace hm:=hm.2
                 refine gX ?_
                 refine aAdd hm fun hm=>?_;refine gH ?_
                 exact jx (((v242++([x249]:(List Nat))),(v243+1)),a262) hm ⟨ha263,ha251,ha252,(O.sel [6,1,2,11,3,4,5,7,8,9,10] (by decide))⟩
              ·refine gX ?_
               exact jx (v242,a241) hm ⟨ha244,ha245,ha246,(O.sel [3,4,5,6,0,1,2,7,8,9,10] (by decide))⟩
             ·clear hm;rintro⟨v235,a234⟩ base h hm ⟨ha236,ha237,ha238,O⟩
              refine gX ?_
              obtain⟨x264,hx264,hm⟩:=hm
              have h9:=hm
              obtain⟨g265,rfl⟩:=addr_some ha236 hx264
              replace hm:=h9
              refine indexK (s:=1) (j:=0) rfl rfl rfl rfl (by rw[List.length_map];exact lt_of_get hx264) ?_;refine gH ?_
              refine ldE (s:=1) (i:=0) (O.at (.head _)) hx264 ?_;refine gH ?_
              refine jn hm 189 [0,4,16,162,163,164] (fun s=>s) (fun v266 h=>(a205=none->v206=[])/\(a225=none->v226=[])/\Own vars h0 [((some g138),.cells (flatC (v159.map n8)) false),((some g11),.cells [(.func (.func 112) ⟨[]⟩ ⟨[(FP ((encL 1 n8) r6.2.1)),(.pointer (some ⟨g9,0,none⟩))]⟩)] false),((some g9),.cells [(i64 p1.other)] false),((some g136),.cells [(.slice none 0 0),(.slice none 0 0)] false),((some g201),.cells [(growV 1 a205 (v206.map n8)),(growV 1 a225 (v226.map n8))] false),(a205,.cells (flatC (v206.map n8)) false),(a225,.cells (flatC (v226.map n8)) false),((some g1),.cells [((encL 1 n8) r6.1.out),((encL 1 n8) r6.1.next)] false),((some g3),.cells [(.slice none 0 0),(.slice none 0 0)] false),((some g13),.cells [((encL 4 encNode) p0.nodes),((encL 1 Value.string) p0.names),((encL 3 encMem) p0.mems),((encL 1 i64) p0.outs),(.slice (some ⟨g138,0,none⟩) p0.nodes.length p0.nodes.length),(.func (.func 134) ⟨[]⟩ ⟨[]⟩),(.func (.func 136) ⟨[]⟩ ⟨[(FP (encLnZ p1.line)),(.pointer (some ⟨g11,0,none⟩))]⟩)] true)] h) (fun v266=>[(21,(n8 v266))]) (fun hm=>?_) ?_
              ·refine gX ?_
               refine br hm (fun hm=>?_) fun hm=>?_
               ·refine gX ?_
                exact jx 2 hm ⟨ha237,ha238,(O.sel [4,5,6,7,8,9,10,1,2,3] (by decide))⟩
               ·refine gX ?_
                exact jx x264 hm ⟨ha237,ha238,(O.sel [4,5,6,7,8,9,10,1,2,3] (by decide))⟩
              ·clear hm;rintro v266 base h hm ⟨ha267,ha268,O⟩
               refine gX ?_
               refine ldO (O.at (.tail _ (.tail _ (.tail _ (.tail _ (.head _)))))) ?_;refine gH ?_
               refine fz ?_;refine gH ?_
               refine O.apL (enc:=n8) (l:=v226) (new:=([v266]:(List Nat))) 1 (.tail _ (.tail _ (.tail _ (.tail _ (.tail _ (.tail _ (.head _))))))) ha268 hm fun a270 h ha271 O hm=>?_;refine gH ?_
               refine O.stC 1 (.tail _ (.tail _ (.tail _ (.tail _ (.head _))))) [(growV 1 a205 (v206.map n8)),(growV 1 a270 ((v226++([v266]:(List Nat))).map n8))] fun h O=>?_;refine gX ?_
               refine aAdd hm fun hm=>?_;refine gH ?_
               exact jx (((v226++([v266]:(List Nat))),(v227+1)),a270) hm ⟨ha267,ha271,O⟩
            ·refine gX ?_
             exact jx (v226,a225) hm ⟨ha228,ha229,(O.sel [3,4,5,6,7,8,9,0,1,2] (by decide))⟩
           ·clear hm;rintro⟨v221,a220⟩ base h hm ⟨ha222,ha223,O⟩
            refine gX ?_
            first|refine⟨.inr (.inr (loadK rfl (O.at (.tail _ (.head _))) rfl rfl)),?_⟩|refine⟨.inr (.inl (by kernel_rfl)),?_⟩
            refine gX ?_
            refine fg Tryz.func73 ?_;refine gX ?_
            refine clipK (s:=1) (enc:=n8) (l:=v206) (n:=v206.length) (m:=v206.length) rfl rfl rfl rfl rfl rfl rfl ?_;refine gX ?_
            (first|refine⟨.inr (.inr (loadK rfl (O.at (.head _)) rfl rfl)),?_⟩|refine⟨.inr (.inr (loadK rfl (O.at (.tail _ (.head _))) rfl rfl)),?_⟩|refine⟨.inr (.inr (loadK rfl (O.at (.tail _ (.tail _ (.head _)))) rfl rfl)),?_⟩|refine⟨.inr (.inr (loadK rfl (O.at (.tail _ (.tail _ (.tail _ (.head _))))) rfl rfl)),?_⟩|refine⟨.inr (.inr (loadK rfl (O.at (.tail _ (.tail _ (.tail _ (.tail _ (.head _)))))) rfl rfl)),?_⟩|refine⟨.inr (.inr (loadK rfl (O.at (.tail _ (.tail _ (.tail _ (.tail _ (.tail _ (.head _))))))) rfl rfl)),?_⟩|refine⟨.inr (.inr (loadK rfl (O.at (.tail _ (.tail _ (.tail _ (.tail _ (.tail _ (.tail _ (.head _)))))))) rfl rfl)),?_⟩|refine⟨.inl (Ext.refl _),?_⟩|refine⟨.inr (.inr rfl),?_⟩|refine⟨.inr (by kernel_rfl),?_⟩|refine⟨.inl (by kernel_rfl),?_⟩|refine id ?_);refine gH ?_
            first|refine⟨.inr (.inr (loadK rfl (O.at (.tail _ (.head _))) rfl rfl)),?_⟩|refine⟨.inr (.inl (by kernel_rfl)),?_⟩
            refine gX ?_
            refine fg Tryz.func73 ?_;refine gX ?_
            refine clipK (s:=1) (enc:=n8) (l:=v221) (n:=v221.length) (m:=v221.length) rfl rfl rfl rfl rfl rfl rfl ?_;refine gX ?_
            (first|refine⟨.inr (.inr (loadK rfl (O.at (.head _)) rfl rfl)),?_⟩|refine⟨.inr (.inr (loadK rfl (O.at (.tail _ (.head _))) rfl rfl)),?_⟩|refine⟨.inr (.inr (loadK rfl (O.at (.tail _ (.tail _ (.head _)))) rfl rfl)),?_⟩|refine⟨.inr (.inr (loadK rfl (O.at (.tail _ (.tail _ (.tail _ (.head _))))) rfl rfl)),?_⟩|refine⟨.inr (.inr (loadK rfl (O.at (.tail _ (.tail _ (.tail _ (.tail _ (.head _)))))) rfl rfl)),?_⟩|refine⟨.inr (.inr (loadK rfl (O.at (.tail _ (.tail _ (.tail _ (.tail _ (.tail _ (.head _))))))) rfl rfl)),?_⟩|refine⟨.inr (.inr (loadK rfl (O.at (.tail _ (.tail _ (.tail _ (.tail _ (.tail _ (.tail _ (.head _)))))))) rfl rfl)),?_⟩|refine⟨.inl (Ext.refl _),?_⟩|refine⟨.inr (.inr rfl),?_⟩|refine⟨.inr (by kernel_rfl),?_⟩|refine⟨.inl (by kernel_rfl),?_⟩|refine id ?_);refine gH ?_
            refine O.stC 2 (.head _) [(clipV a205 (v206.map n8)),(clipV a220 (v221.map n8))] fun h O=>?_;refine gH ?_
            (first|refine⟨.inr (.inr (loadK rfl (O.at (.head _)) rfl rfl)),?_⟩|refine⟨.inr (.inr (loadK rfl (O.at (.tail _ (.head _))) rfl rfl)),?_⟩|refine⟨.inr (.inr (loadK rfl (O.at (.tail _ (.tail _ (.head _)))) rfl rfl)),?_⟩|refine⟨.inr (.inr (loadK rfl (O.at (.tail _ (.tail _ (.tail _ (.head _))))) rfl rfl)),?_⟩|refine⟨.inr (.inr (loadK rfl (O.at (.tail _ (.tail _ (.tail _ (.tail _ (.head _)))))) rfl rfl)),?_⟩|refine⟨.inr (.inr (loadK rfl (O.at (.tail _ (.tail _ (.tail _ (.tail _ (.tail _ (.head _))))))) rfl rfl)),?_⟩|refine⟨.inr (.inr (loadK rfl (O.at (.tail _ (.tail _ (.tail _ (.tail _ (.tail _ (.tail _ (.head _)))))))) rfl rfl)),?_⟩|refine⟨.inl (Ext.refl _),?_⟩|refine⟨.inr (.inr rfl),?_⟩|refine⟨.inr (by kernel_rfl),?_⟩|refine⟨.inl (by kernel_rfl),?_⟩|refine id ?_);refine gH ?_
            refine gX ?_
            refine⟨_,resAggK rfl rfl (O.at (.head _)) rfl rfl (lbE rfl) rfl,?_⟩;refine gX ?_
            refine O.stC 2 (.tail _ (.tail _ (.tail _ (.tail _ (.tail _ (.head _)))))) [(clipV a205 (v206.map n8)),(clipV a220 (v221.map n8))] fun h O=>?_;refine gX ?_
            refine ldA (O.at (.tail _ (.tail _ (.tail _ (.tail _ (.head _)))))) ?_;refine gH ?_
            first|refine⟨.inr (.inr (loadAggK rfl (O.at (.tail _ (.tail _ (.tail _ (.tail _ (.head _)))))) rfl rfl (lbE rfl) rfl)),?_⟩|refine⟨.inr (.inl (by kernel_rfl)),?_⟩
            refine gX ?_
            refine ldA (O.at (.tail _ (.tail _ (.tail _ (.tail _ (.tail _ (.head _))))))) ?_;refine gH ?_
            first|refine⟨.inr (.inr (loadAggK rfl (O.at (.tail _ (.tail _ (.tail _ (.tail _ (.tail _ (.head _))))))) rfl rfl (lbE rfl) rfl)),?_⟩|refine⟨.inr (.inl (by kernel_rfl)),?_⟩
            refine gX ?_
            refine ldO (O.at (.tail _ (.tail _ (.tail _ (.tail _ (.tail _ (.tail _ (.head _)))))))) ?_;refine gH ?_
            first|refine⟨.inr (.inr (loadK rfl (O.at (.tail _ (.tail _ (.tail _ (.tail _ (.tail _ (.tail _ (.head _)))))))) rfl rfl)),?_⟩|refine⟨.inr (.inl (by kernel_rfl)),?_⟩
            refine gX ?_
            refine O.stSame 2 (.tail _ (.tail _ (.tail _ (.tail _ (.head _))))) fun h hext O=>?_;conv=>whnf
            refine⟨.inr hext,?_⟩;refine gH ?_
            refine O.stSame 2 (.tail _ (.tail _ (.tail _ (.tail _ (.tail _ (.head _)))))) fun h hext O=>?_;conv=>whnf
            refine⟨.inr hext,?_⟩;refine gX ?_
            refine⟨_,resAggK rfl rfl (O.at (.tail _ (.tail _ (.tail _ (.tail _ (.head _)))))) rfl rfl (lbE rfl) rfl,?_⟩;conv=>whnf
            refine⟨_,resAggK rfl rfl (O.at (.tail _ (.tail _ (.tail _ (.tail _ (.tail _ (.head _))))))) rfl rfl (lbE rfl) rfl,?_⟩;conv=>whnf
            obtain⟨hn272,hm⟩:=hm
            exact⟨(r6.1,(⟨v206,v221⟩:Rsp),v159,0),hm,O.ext,fun h2 F=>VLe.tup (LLe.cons (VLe.refl _ _) (LLe.cons (VLe.agg (LLe.cons (O.clipL F (Nat.le_refl _) (.tail _ (.tail _ (.head _))) ha222 (fun _=>rfl)) (LLe.cons (O.clipL F (Nat.le_refl _) (.tail _ (.tail _ (.tail _ (.head _)))) ha223 (fun _=>rfl)) (LLe.nil _)))) (LLe.cons (O.flatL F (Nat.le_refl _) (.tail _ (.tail _ (.tail _ (.tail _ (.tail _ (.tail _ (.tail _ (.head _)))))))) (fun _=>rfl) hn272) (LLe.cons (VLe.refl _ _) (LLe.nil _)))))⟩
     ·refine gX ?_
      refine fg Tryz.func111 ?_;refine gX ?_
      refine fz ?_;refine gH ?_
      refine fz ?_;refine gH ?_
      (first|refine O.new (boxK rfl) fun g273 h O=>?_|refine O.newX (boxK rfl) fun g273 h O=>?_);refine gH ?_
      refine gX ?_
      (first|refine O.new (boxK rfl) fun g275 h O=>?_|refine O.newX (boxK rfl) fun g275 h O=>?_);refine gH ?_
      refine gX ?_
      refine br hm (fun hm=>?_) fun hm=>?_
      ·refine gX ?_
       refine O.stC 1 (.head _) [((encL 4 encNode) p0.nodes),((encL 1 Value.string) p0.names),((encL 3 encMem) p0.mems),((encL 1 i64) p0.outs),(.slice none 0 0),(.func (.func 135) ⟨[]⟩ ⟨[(FP (encLnZ p1.line)),(.pointer (some ⟨g273,0,none⟩))]⟩),(.func (.func 109) ⟨[]⟩ ⟨[]⟩)] fun h O=>?_;refine gX ?_
       refine fg Tryz.func75 ?_;refine gX ?_
       refine fz ?_;refine gH ?_
       (first|refine O.new (anew_alloc (l:=[(.slice none 0 0),(.slice none 0 0)]) rfl rfl rfl) fun g277 h O=>?_|refine O.newX (anew_alloc (l:=[(.slice none 0 0),(.slice none 0 0)]) rfl rfl rfl) fun g277 h O=>?_);refine gH ?_
       refine gX ?_
       refine O.mkL (enc:=n8) 1 1 0 hm fun g279 h O hm=>?_;refine gH ?_
       refine O.stC 1 (.tail _ (.tail _ (.head _))) [((encL 4 encNode) p0.nodes),((encL 1 Value.string) p0.names),((encL 3 encMem) p0.mems),((encL 1 i64) p0.outs),(.slice (some ⟨g279,0,none⟩) p0.nodes.length p0.nodes.length),(.func (.func 135) ⟨[]⟩ ⟨[(FP (encLnZ p1.line)),(.pointer (some ⟨g273,0,none⟩))]⟩),(.func (.func 109) ⟨[]⟩ ⟨[]⟩)] fun h O=>?_;refine gH ?_
       apply Cs;conv=>whnf
       refine CodeS.freezeP (v:=(.agg ⟨[((encL 4 encNode) p0.nodes),((encL 1 Value.string) p0.names),((encL 3 encMem) p0.mems),((encL 1 i64) p0.outs),(.slice (some ⟨g279,0,none⟩) p0.nodes.length p0.nodes.length),(.func (.func 135) ⟨[]⟩ ⟨[(FP (encLnZ p1.line)),(.pointer (some ⟨g273,0,none⟩))]⟩),(.func (.func 109) ⟨[]⟩ ⟨[]⟩)]⟩)) O (.tail _ (.tail _ (.head _))) (t2:=0) rfl rfl rfl fun h O=>?_;conv=>whnf
       refine CodeS.freezeP (v:=(.agg ⟨[((encL 4 encNode) p0.nodes),((encL 1 Value.string) p0.names),((encL 3 encMem) p0.mems),((encL 1 i64) p0.outs),(.slice (some ⟨g279,0,none⟩) p0.nodes.length p0.nodes.length),(.func (.func 135) ⟨[]⟩ ⟨[(FP (encLnZ p1.line)),(.pointer (some ⟨g273,0,none⟩))]⟩),(.func (.func 109) ⟨[]⟩ ⟨[]⟩)]⟩)) O (.tail _ (.tail _ (.head _))) (t2:=22) rfl rfl rfl fun h O=>?_;conv=>whnf
       refine CodeS.freezeP (v:=(.agg ⟨[((encL 4 encNode) p0.nodes),((encL 1 Value.string) p0.names),((encL 3 encMem) p0.mems),((encL 1 i64) p0.outs),(.slice (some ⟨g279,0,none⟩) p0.nodes.length p0.nodes.length),(.func (.func 135) ⟨[]⟩ ⟨[(FP (encLnZ p1.line)),(.pointer (some ⟨g273,0,none⟩))]⟩),(.func (.func 109) ⟨[]⟩ ⟨[]⟩)]⟩)) O (.tail _ (.tail _ (.head _))) (t2:=23) rfl rfl rfl fun h O=>?_;conv=>whnf
       refine CodeS.freezeP (v:=(.agg ⟨[((encL 4 encNode) p0.nodes),((encL 1 Value.string) p0.names),((encL 3 encMem) p0.mems),((encL 1 i64) p0.outs),(.slice (some ⟨g279,0,none⟩) p0.nodes.length p0.nodes.length),(.func (.func 135) ⟨[]⟩ ⟨[(FP (encLnZ p1.line)),(.pointer (some ⟨g273,0,none⟩))]⟩),(.func (.func 109) ⟨[]⟩ ⟨[]⟩)]⟩)) O (.tail _ (.tail _ (.head _))) (t2:=24) rfl rfl rfl fun h O=>?_;conv=>whnf
       refine CodeS.freezeP (v:=(.agg ⟨[((encL 4 encNode) p0.nodes),((encL 1 Value.string) p0.names),((encL 3 encMem) p0.mems),((encL 1 i64) p0.outs),(.slice (some ⟨g279,0,none⟩) p0.nodes.length p0.nodes.length),(.func (.func 135) ⟨[]⟩ ⟨[(FP (encLnZ p1.line)),(.pointer (some ⟨g273,0,none⟩))]⟩),(.func (.func 109) ⟨[]⟩ ⟨[]⟩)]⟩)) O (.tail _ (.tail _ (.head _))) (t2:=25) rfl rfl rfl fun h O=>?_;conv=>whnf
       refine CodeS.freezeP (v:=(.agg ⟨[((encL 4 encNode) p0.nodes),((encL 1 Value.string) p0.names),((encL 3 encMem) p0.mems),((encL 1 i64) p0.outs),(.slice (some ⟨g279,0,none⟩) p0.nodes.length p0.nodes.length),(.func (.func 135) ⟨[]⟩ ⟨[(FP (encLnZ p1.line)),(.pointer (some ⟨g273,0,none⟩))]⟩),(.func (.func 109) ⟨[]⟩ ⟨[]⟩)]⟩)) O (.tail _ (.tail _ (.head _))) (t2:=26) rfl rfl rfl fun h O=>?_;conv=>whnf
       refine CodeS.freezeP (v:=(.agg ⟨[((encL 4 encNode) p0.nodes),((encL 1 Value.string) p0.names),((encL 3 encMem) p0.mems),((encL 1 i64) p0.outs),(.slice (some ⟨g279,0,none⟩) p0.nodes.length p0.nodes.length),(.func (.func 135) ⟨[]⟩ ⟨[(FP (encLnZ p1.line)),(.pointer (some ⟨g273,0,none⟩))]⟩),(.func (.func 109) ⟨[]⟩ ⟨[]⟩)]⟩)) O (.tail _ (.tail _ (.head _))) (t2:=30) rfl rfl rfl fun h O=>?_;refine gX ?_
       refine ca (netlists_States_walk hm O.has) fun r281 hm=>?_;refine gH ?_
       refine jn hm 189 [0,3,4,5] (fun s=>s) (fun v282 h=>Own vars h0 [((some g279),.cells (flatC (v282.map n8)) false),((some g273),.cells [(.func (.func 113) ⟨[]⟩ ⟨[(FP (encFlt p1))]⟩)] false),((some g277),.cells [(.slice none 0 0),(.slice none 0 0)] false),((some g1),.cells [((encL 1 n8) r6.1.out),((encL 1 n8) r6.1.next)] false),((some g3),.cells [(.slice none 0 0),(.slice none 0 0)] false),((some g275),.cells [((encL 4 encNode) p0.nodes),((encL 1 Value.string) p0.names),((encL 3 encMem) p0.mems),((encL 1 i64) p0.outs),(.slice (some ⟨g279,0,none⟩) p0.nodes.length p0.nodes.length),(.func (.func 135) ⟨[]⟩ ⟨[(FP (encLnZ p1.line)),(.pointer (some ⟨g273,0,none⟩))]⟩),(.func (.func 109) ⟨[]⟩ ⟨[]⟩)] true)] h) (fun v282=>[]) (fun hm=>?_) ?_
       ·refine gX ?_
        refine ca (netlists_Inputs_walk hm O.has) fun r284 hm=>?_;refine gX ?_
        refine lw 189 [0,3,4,5,41,42] (σ:=((List Nat)×Nat)) (fun s=>s) (fun (v285,v286) h=>Own vars h0 [((some g279),.cells (flatC (v285.map n8)) false),((some g273),.cells [(.func (.func 113) ⟨[]⟩ ⟨[(FP (encFlt p1))]⟩)] false),((some g277),.cells [(.slice none 0 0),(.slice none 0 0)] false),((some g1),.cells [((encL 1 n8) r6.1.out),((encL 1 n8) r6.1.next)] false),((some g3),.cells [(.slice none 0 0),(.slice none 0 0)] false),((some g275),.cells [((encL 4 encNode) p0.nodes),((encL 1 Value.string) p0.names),((encL 3 encMem) p0.mems),((encL 1 i64) p0.outs),(.slice (some ⟨g279,0,none⟩) p0.nodes.length p0.nodes.length),(.func (.func 135) ⟨[]⟩ ⟨[(FP (encLnZ p1.line)),(.pointer (some ⟨g273,0,none⟩))]⟩),(.func (.func 109) ⟨[]⟩ ⟨[]⟩)] true)] h) (fun (v285,v286)=>[(43,(i64 v286))]) ((List.replicate p0.nodes.length (0:Nat)),0) hm (O.sel [0,3,1,7,6,2] (by decide)) ?_
        clear hm;rintro⟨v285,v286⟩ nx287 base h hm O
        refine gX ?_
        refine br hm (fun hm=>?_) fun hm=>?_
        ·refine gX ?_
         refine atF hm fun x288 hx288 hm=>?_;refine gX ?_
         first|refine⟨.inr (.inr (rfl)),?_⟩|refine⟨.inr (.inl (by kernel_rfl)),?_⟩
         refine gX ?_
         first|refine⟨.inr (.inr (rfl)),?_⟩|refine⟨.inr (.inl (by kernel_rfl)),?_⟩
         refine gX ?_
         refine atF hm fun x289 hx289 hm=>?_;refine gH ?_
         refine ix 1 hm fun x290 hx290 hm=>?_;refine gH ?_
         refine O.stE 1 (.head _) hx290 x289 fun h O=>?_;refine gH ?_
         (first|refine⟨.inr (.inr (loadK rfl (O.at (.head _)) rfl rfl)),?_⟩|refine⟨.inr (.inr (loadK rfl (O.at (.tail _ (.head _))) rfl rfl)),?_⟩|refine⟨.inr (.inr (loadK rfl (O.at (.tail _ (.tail _ (.head _)))) rfl rfl)),?_⟩|refine⟨.inr (.inr (loadK rfl (O.at (.tail _ (.tail _ (.tail _ (.head _))))) rfl rfl)),?_⟩|refine⟨.inr (.inr (loadK rfl (O.at (.tail _ (.tail _ (.tail _ (.tail _ (.head _)))))) rfl rfl)),?_⟩|refine⟨.inr (.inr (loadK rfl (O.at (.tail _ (.tail _ (.tail _ (.tail _ (.tail _ (.head _))))))) rfl rfl)),?_⟩|refine⟨.inr (.inr (loadK rfl (O.at (.tail _ (.tail _ (.tail _ (.tail _ (.tail _ (.tail _ (.head _)))))))) rfl rfl)),?_⟩|refine⟨.inl (Ext.refl _),?_⟩|refine⟨.inr (.inr rfl),?_⟩|refine⟨.inr (by kernel_rfl),?_⟩|refine⟨.inl (by kernel_rfl),?_⟩|refine id ?_);refine gH ?_
         refine gX ?_
         refine aAdd hm fun hm=>?_;refine gH ?_
         exact jx ((v285.set x288 x289),(v286+1)) hm O
        ·refine gX ?_
         exact jx v285 hm O
       ·clear hm;rintro v282 base h hm O
        conv=>whnf
        refine jn hm 189 [0,4,5] (fun s=>s) (fun v291 h=>Own vars h0 [((some g279),.cells (flatC (v291.map n8)) false),((some g273),.cells [(.func (.func 113) ⟨[]⟩ ⟨[(FP (encFlt p1))]⟩)] false),((some g277),.cells [(.slice none 0 0),(.slice none 0 0)] false),((some g1),.cells [((encL 1 n8) r6.1.out),((encL 1 n8) r6.1.next)] false),((some g3),.cells [(.slice none 0 0),(.slice none 0 0)] false),((some g275),.cells [((encL 4 encNode) p0.nodes),((encL 1 Value.string) p0.names),((encL 3 encMem) p0.mems),((encL 1 i64) p0.outs),(.slice (some ⟨g279,0,none⟩) p0.nodes.length p0.nodes.length),(.func (.func 135) ⟨[]⟩ ⟨[(FP (encLnZ p1.line)),(.pointer (some ⟨g273,0,none⟩))]⟩),(.func (.func 109) ⟨[]⟩ ⟨[]⟩)] true)] h) (fun v291=>[]) (fun hm=>?_) ?_
        ·refine gX ?_
         refine lw 189 [0,3,4,5,60,61] (σ:=((List Nat)×Nat)) (fun s=>s) (fun (v293,v294) h=>Own vars h0 [((some g279),.cells (flatC (v293.map n8)) false),((some g273),.cells [(.func (.func 113) ⟨[]⟩ ⟨[(FP (encFlt p1))]⟩)] false),((some g277),.cells [(.slice none 0 0),(.slice none 0 0)] false),((some g1),.cells [((encL 1 n8) r6.1.out),((encL 1 n8) r6.1.next)] false),((some g3),.cells [(.slice none 0 0),(.slice none 0 0)] false),((some g275),.cells [((encL 4 encNode) p0.nodes),((encL 1 Value.string) p0.names),((encL 3 encMem) p0.mems),((encL 1 i64) p0.outs),(.slice (some ⟨g279,0,none⟩) p0.nodes.length p0.nodes.length),(.func (.func 135) ⟨[]⟩ ⟨[(FP (encLnZ p1.line)),(.pointer (some ⟨g273,0,none⟩))]⟩),(.func (.func 109) ⟨[]⟩ ⟨[]⟩)] true)] h) (fun (v293,v294)=>[(62,(i64 v294))]) (v282,0) hm O ?_
         clear hm;rintro⟨v293,v294⟩ nx295 base h hm O
         refine gX ?_
         refine br hm (fun hm=>?_) fun hm=>?_
         ·refine gX ?_
          refine atF hm fun x296 hx296 hm=>?_;refine gX ?_
          first|refine⟨.inr (.inr (rfl)),?_⟩|refine⟨.inr (.inl (by kernel_rfl)),?_⟩
          refine gX ?_
          first|refine⟨.inr (.inr (rfl)),?_⟩|refine⟨.inr (.inl (by kernel_rfl)),?_⟩
          refine gX ?_
          refine atF hm fun x297 hx297 hm=>?_;refine gH ?_
          refine ix 1 hm fun x298 hx298 hm=>?_;refine gH ?_
          refine O.stE 1 (.head _) hx298 x297 fun h O=>?_;refine gH ?_
          (first|refine⟨.inr (.inr (loadK rfl (O.at (.head _)) rfl rfl)),?_⟩|refine⟨.inr (.inr (loadK rfl (O.at (.tail _ (.head _))) rfl rfl)),?_⟩|refine⟨.inr (.inr (loadK rfl (O.at (.tail _ (.tail _ (.head _)))) rfl rfl)),?_⟩|refine⟨.inr (.inr (loadK rfl (O.at (.tail _ (.tail _ (.tail _ (.head _))))) rfl rfl)),?_⟩|refine⟨.inr (.inr (loadK rfl (O.at (.tail _ (.tail _ (.tail _ (.tail _ (.head _)))))) rfl rfl)),?_⟩|refine⟨.inr (.inr (loadK rfl (O.at (.tail _ (.tail _ (.tail _ (.tail _ (.tail _ (.head _))))))) rfl rfl)),?_⟩|refine⟨.inr (.inr (loadK rfl (O.at (.tail _ (.tail _ (.tail _ (.tail _ (.tail _ (.tail _ (.head _)))))))) rfl rfl)),?_⟩|refine⟨.inl (Ext.refl _),?_⟩|refine⟨.inr (.inr rfl),?_⟩|refine⟨.inr (by kernel_rfl),?_⟩|refine⟨.inl (by kernel_rfl),?_⟩|refine id ?_);refine gH ?_
          refine gX ?_
          refine aAdd hm fun hm=>?_;refine gH ?_
          exact jx ((v293.set x296 x297),(v294+1)) hm O
         ·refine gX ?_
          exact jx v293 hm O
        ·clear hm;rintro v291 base h hm O
         refine gX ?_
         refine ca (netlists_Order_walk hm O.has) fun r299 hm=>?_;refine gH ?_
         apply Cs;conv=>whnf
         apply Cs;refine gH ?_
         refine jn hm 189 [0,4,5] (fun s=>s) (fun v300 h=>Own vars h0 [((some g279),.cells (flatC (v300.map n8)) false),((some g273),.cells [(.func (.func 113) ⟨[]⟩ ⟨[(FP (encFlt p1))]⟩)] false),((some g277),.cells [(.slice none 0 0),(.slice none 0 0)] false),((some g1),.cells [((encL 1 n8) r6.1.out),((encL 1 n8) r6.1.next)] false),((some g3),.cells [(.slice none 0 0),(.slice none 0 0)] false),((some g275),.cells [((encL 4 encNode) p0.nodes),((encL 1 Value.string) p0.names),((encL 3 encMem) p0.mems),((encL 1 i64) p0.outs),(.slice (some ⟨g279,0,none⟩) p0.nodes.length p0.nodes.length),(.func (.func 135) ⟨[]⟩ ⟨[(FP (encLnZ p1.line)),(.pointer (some ⟨g273,0,none⟩))]⟩),(.func (.func 109) ⟨[]⟩ ⟨[]⟩)] true)] h) (fun v300=>[]) (fun hm=>?_) ?_
         ·refine gX ?_
          refine lw 189 [0,4,5,12,89,90] (σ:=((List Nat)×Nat)) (fun s=>s) (fun (v302,v303) h=>Own vars h0 [((some g279),.cells (flatC (v302.map n8)) false),((some g273),.cells [(.func (.func 113) ⟨[]⟩ ⟨[(FP (encFlt p1))]⟩)] false),((some g277),.cells [(.slice none 0 0),(.slice none 0 0)] false),((some g1),.cells [((encL 1 n8) r6.1.out),((encL 1 n8) r6.1.next)] false),((some g3),.cells [(.slice none 0 0),(.slice none 0 0)] false),((some g275),.cells [((encL 4 encNode) p0.nodes),((encL 1 Value.string) p0.names),((encL 3 encMem) p0.mems),((encL 1 i64) p0.outs),(.slice (some ⟨g279,0,none⟩) p0.nodes.length p0.nodes.length),(.func (.func 135) ⟨[]⟩ ⟨[(FP (encLnZ p1.line)),(.pointer (some ⟨g273,0,none⟩))]⟩),(.func (.func 109) ⟨[]⟩ ⟨[]⟩)] true)] h) (fun (v302,v303)=>[(91,(i64 v303))]) (v291,0) hm O ?_
          clear hm;rintro⟨v302,v303⟩ nx304 base h hm O
          refine gX ?_
          refine br hm (fun hm=>?_) fun hm=>?_
          ·refine gX ?_
           refine atF hm fun x305 hx305 hm=>?_;refine gH ?_
           refine jn hm 189 [0,4,5,12,14,89,90,91] (fun s=>s) (fun v306 h=>Own vars h0 [((some g279),.cells (flatC (v306.map n8)) false),((some g273),.cells [(.func (.func 113) ⟨[]⟩ ⟨[(FP (encFlt p1))]⟩)] false),((some g277),.cells [(.slice none 0 0),(.slice none 0 0)] false),((some g1),.cells [((encL 1 n8) r6.1.out),((encL 1 n8) r6.1.next)] false),((some g3),.cells [(.slice none 0 0),(.slice none 0 0)] false),((some g275),.cells [((encL 4 encNode) p0.nodes),((encL 1 Value.string) p0.names),((encL 3 encMem) p0.mems),((encL 1 i64) p0.outs),(.slice (some ⟨g279,0,none⟩) p0.nodes.length p0.nodes.length),(.func (.func 135) ⟨[]⟩ ⟨[(FP (encLnZ p1.line)),(.pointer (some ⟨g273,0,none⟩))]⟩),(.func (.func 109) ⟨[]⟩ ⟨[]⟩)] true)] h) (fun v306=>[]) (fun hm=>?_) ?_
           ·refine gX ?_
            refine atF hm fun x308 hx308 hm=>?_;refine gH ?_
            refine jn hm 189 [0,4,5,12,14,89,90,91] (fun s=>s) (fun v309 h=>Own vars h0 [((some g279),.cells (flatC (v302.map n8)) false),((some g273),.cells [(.func (.func 113) ⟨[]⟩ ⟨[(FP (encFlt p1))]⟩)] false),((some g277),.cells [(.slice none 0 0),(.slice none 0 0)] false),((some g1),.cells [((encL 1 n8) r6.1.out),((encL 1 n8) r6.1.next)] false),((some g3),.cells [(.slice none 0 0),(.slice none 0 0)] false),((some g275),.cells [((encL 4 encNode) p0.nodes),((encL 1 Value.string) p0.names),((encL 3 encMem) p0.mems),((encL 1 i64) p0.outs),(.slice (some ⟨g279,0,none⟩) p0.nodes.length p0.nodes.length),(.func (.func 135) ⟨[]⟩ ⟨[(FP (encLnZ p1.line)),(.pointer (some ⟨g273,0,none⟩))]⟩),(.func (.func 109) ⟨[]⟩ ⟨[]⟩)] true)] h) (fun v309=>[(109,(.bool v309))]) (fun hm=>?_) ?_
            ·refine gX ?_
             refine br hm (fun hm=>?_) fun hm=>?_
             ·refine gX ?_
              exact jx (neN x308.kind 14) hm O
             ·refine gX ?_
              exact jx false hm O
            ·clear hm;rintro v309 base h hm O
             refine gX ?_
             refine br hm (fun hm=>?_) fun hm=>?_
             ·refine CodeS.drawF ?_;refine gH ?_
              refine fg Tryz.func114 ?_;conv=>whnf
              apply Cs;conv=>whnf
              apply Cs;refine gH ?_
              apply Cs;conv=>whnf
              refine CodeS.drawF ?_;refine gH ?_
              refine atF hm fun x311 hx311 hm=>?_;refine gH ?_
              refine fg Tryz.func115 ?_;conv=>whnf
              apply Cs;conv=>whnf
              apply Cs;refine gH ?_
              have O:=O.addNil (.cells (flatC ((([]:List Nat)).map n8)) false)
              apply Cs;conv=>whnf
              apply Cs;refine gH ?_
              have O:=O.addNil (.cells (flatC ((([]:List Nat)).map n8)) false)
              refine jn (σ:=(List Nat)×Option Nat) hm 42 [] (fun s=>s.1) (fun (v315,a314) h=>(a314=none->v315=[])/\Own vars h0 [(a314,.cells (flatC (v315.map n8)) false),((some g1),.cells [((encL 1 n8) r6.1.out),((encL 1 n8) r6.1.next)] false),((some g3),.cells [(.slice none 0 0),(.slice none 0 0)] false),((some g275),.cells [((encL 4 encNode) p0.nodes),((encL 1 Value.string) p0.names),((encL 3 encMem) p0.mems),((encL 1 i64) p0.outs),(.slice (some ⟨g279,0,none⟩) p0.nodes.length p0.nodes.length),(.func (.func 135) ⟨[]⟩ ⟨[(FP (encLnZ p1.line)),(.pointer (some ⟨g273,0,none⟩))]⟩),(.func (.func 109) ⟨[]⟩ ⟨[]⟩)] true),((some g279),.cells (flatC (v302.map n8)) false),((some g273),.cells [(.func (.func 113) ⟨[]⟩ ⟨[(FP (encFlt p1))]⟩)] false),((some g277),.cells [(.slice none 0 0),(.slice none 0 0)] false)] h) (fun (v315,a314)=>[(5,(growV 1 a314 (v315.map n8)))]) (fun hm=>?_) ?_
              ·refine gX ?_
               refine atF hm fun x318 hx318 hm=>?_;refine gX ?_
               refine lw 42 [0,1,16,17] (σ:=((List Nat)×Nat)×Option Nat) (fun s=>s.1) (fun ((v320,v321),a319) h=>(a319=none->v320=[])/\Own vars h0 [((some g279),.cells (flatC (v302.map n8)) false),((some g273),.cells [(.func (.func 113) ⟨[]⟩ ⟨[(FP (encFlt p1))]⟩)] false),(a319,.cells (flatC (v320.map n8)) false),((some g1),.cells [((encL 1 n8) r6.1.out),((encL 1 n8) r6.1.next)] false),((some g3),.cells [(.slice none 0 0),(.slice none 0 0)] false),((some g275),.cells [((encL 4 encNode) p0.nodes),((encL 1 Value.string) p0.names),((encL 3 encMem) p0.mems),((encL 1 i64) p0.outs),(.slice (some ⟨g279,0,none⟩) p0.nodes.length p0.nodes.length),(.func (.func 135) ⟨[]⟩ ⟨[(FP (encLnZ p1.line)),(.pointer (some ⟨g273,0,none⟩))]⟩),(.func (.func 109) ⟨[]⟩ ⟨[]⟩)] true),((some g277),.cells [(.slice none 0 0),(.slice none 0 0)] false)] h) (fun ((v320,v321),a319)=>[(5,(growV 1 a319 (v320.map n8))),(18,(i64 v321))]) ((([]:List Nat),0),none) hm ⟨(fun _=>rfl),(O.sel [2,3,0,5,6,7,4] (by decide))⟩ ?_
               clear hm;rintro⟨⟨v320,v321⟩,a319⟩ nx323 base h hm ⟨ha322,O⟩
               refine gX ?_
               refine br hm (fun hm=>?_) fun hm=>?_
               ·refine gX ?_
                refine atF hm fun x324 hx324 hm=>?_;refine gX ?_
                first|refine⟨.inr (.inr (rfl)),?_⟩|refine⟨.inr (.inl (by kernel_rfl)),?_⟩
                refine gX ?_
                first|refine⟨.inr (.inr (rfl)),?_⟩|refine⟨.inr (.inl (by kernel_rfl)),?_⟩
                refine gX ?_
                refine ix 1 hm fun x325 hx325 hm=>?_;refine gH ?_
                refine⟨_,loadK rfl (O.at (.head _)) rfl (cell_map (enc:=n8) (s:=1) (k:=0) (fun _=>rfl) hx325 rfl),?_⟩;refine gH ?_
                refine fg Tryz.func109 ?_;refine gX ?_
                (first|refine⟨.inr (.inr (loadK rfl (O.at (.head _)) rfl rfl)),?_⟩|refine⟨.inr (.inr (loadK rfl (O.at (.tail _ (.head _))) rfl rfl)),?_⟩|refine⟨.inr (.inr (loadK rfl (O.at (.tail _ (.tail _ (.head _)))) rfl rfl)),?_⟩|refine⟨.inr (.inr (loadK rfl (O.at (.tail _ (.tail _ (.tail _ (.head _))))) rfl rfl)),?_⟩|refine⟨.inr (.inr (loadK rfl (O.at (.tail _ (.tail _ (.tail _ (.tail _ (.head _)))))) rfl rfl)),?_⟩|refine⟨.inr (.inr (loadK rfl (O.at (.tail _ (.tail _ (.tail _ (.tail _ (.tail _ (.head _))))))) rfl rfl)),?_⟩|refine⟨.inr (.inr (loadK rfl (O.at (.tail _ (.tail _ (.tail _ (.tail _ (.tail _ (.tail _ (.head _)))))))) rfl rfl)),?_⟩|refine⟨.inl (Ext.refl _),?_⟩|refine⟨.inr (.inr rfl),?_⟩|refine⟨.inr (by kernel_rfl),?_⟩|refine⟨.inl (by kernel_rfl),?_⟩|refine id ?_);refine gH ?_
                refine O.buildLX (l:=([x325]:(List Nat))) (enc:=n8) (s:=1) (z:=(n8 0)) rfl rfl (by kernel_rfl) (by kernel_rfl) rfl rfl rfl rfl (fun _=>rfl) fun g326 h O=>?_;refine gH ?_
                refine O.appendL (enc:=n8) (l:=v320) (new:=([x325]:(List Nat))) (s:=1) (b:=1) (.tail _ (.tail _ (.tail _ (.head _)))) ha322 rfl rfl rfl rfl rfl rfl rfl rfl (YOk.own (O.at (.head _)) rfl (fun _=>rfl) rfl) (fun _=>rfl) (fun _=>rfl) (by decide) hm.1 fun a328 h ha329 O=>?_;refine gH ?_
                (first|refine⟨.inr (.inr (loadK rfl (O.at (.head _)) rfl rfl)),?_⟩|refine⟨.inr (.inr (loadK rfl (O.at (.tail _ (.head _))) rfl rfl)),?_⟩|refine⟨.inr (.inr (loadK rfl (O.at (.tail _ (.tail _ (.head _)))) rfl rfl)),?_⟩|refine⟨.inr (.inr (loadK rfl (O.at (.tail _ (.tail _ (.tail _ (.head _))))) rfl rfl)),?_⟩|refine⟨.inr (.inr (loadK rfl (O.at (.tail _ (.tail _ (.tail _ (.tail _ (.head _)))))) rfl rfl)),?_⟩|refine⟨.inr (.inr (loadK rfl (O.at (.tail _ (.tail _ (.tail _ (.tail _ (.tail _ (.head _))))))) rfl rfl)),?_⟩|refine⟨.inr (.inr (loadK rfl (O.at (.tail _ (.tail _ (.tail _ (.tail _ (.tail _ (.tail _ (.head _)))))))) rfl rfl)),?_⟩|refine⟨.inl (Ext.refl _),?_⟩|refine⟨.inr (.inr rfl),?_⟩|refine⟨.inr (by kernel_rfl),?_⟩|refine⟨.inl (by kernel_rfl),?_⟩|refine id ?_);refine gH ?_
                replace hm:=hm.2
                refine gX ?_
                refine aAdd hm fun hm=>?_;refine gH ?_
                exact jx (((v320++([x325]:(List Nat))),(v321+1)),a328) hm ⟨ha329,(O.sel [1,2,3,4,5,6,7] (by decide))⟩
               ·refine gX ?_
                exact jx (v320,a319) hm ⟨ha322,(O.sel [2,3,4,5,0,1,6] (by decide))⟩
              ·clear hm;rintro⟨v315,a314⟩ base h hm ⟨ha316,O⟩
               refine gX ?_
               refine CallD.useB (fun _ hb=>logic_Eval_walk hm hb) (fun _=>flatB_ok rfl) fzVars O.has (fun h2 F=>(LLe.cons (VLe.refl _ _) (LLe.cons (O.grownL F (Nat.zero_le _) (.head _) ha316 (fun _=>rfl)) (LLe.nil _)))) (by kernel_rfl) (fun r330 hm'=>?_);replace hm:=hm';refine gX ?_
               refine ix 1 hm fun x331 hx331 hm=>?_;refine gH ?_
               refine O.stE 1 (.tail _ (.tail _ (.tail _ (.tail _ (.head _))))) hx331 r330 fun h O=>?_;refine gH ?_
               exact jx (v302.set x305 r330) hm (O.sel [4,5,6,1,2,3] (by decide))
             ·refine gX ?_
              exact jx v302 hm O
           ·clear hm;rintro v306 base h hm O
            refine gX ?_
            first|refine⟨.inr (.inr (rfl)),?_⟩|refine⟨.inr (.inl (by kernel_rfl)),?_⟩
            refine gX ?_
            first|refine⟨.inr (.inr (rfl)),?_⟩|refine⟨.inr (.inl (by kernel_rfl)),?_⟩
            refine gX ?_
            first|refine⟨.inr (.inr (rfl)),?_⟩|refine⟨.inr (.inl (by kernel_rfl)),?_⟩
            refine gX ?_
            refine ix 1 hm fun x332 hx332 hm=>?_;refine gH ?_
            refine⟨_,loadK rfl (O.at (.head _)) rfl (cell_map (enc:=n8) (s:=1) (k:=0) (fun _=>rfl) hx332 rfl),?_⟩;refine gH ?_
            refine fg Tryz.func135 ?_;refine gX ?_
            refine br hm (fun hm=>?_) fun hm=>?_
            ·refine gX ?_
             refine fg Tryz.func113 ?_;refine gX ?_
             (first|refine⟨.inr (.inr (loadK rfl (O.at (.head _)) rfl rfl)),?_⟩|refine⟨.inr (.inr (loadK rfl (O.at (.tail _ (.head _))) rfl rfl)),?_⟩|refine⟨.inr (.inr (loadK rfl (O.at (.tail _ (.tail _ (.head _)))) rfl rfl)),?_⟩|refine⟨.inr (.inr (loadK rfl (O.at (.tail _ (.tail _ (.tail _ (.head _))))) rfl rfl)),?_⟩|refine⟨.inr (.inr (loadK rfl (O.at (.tail _ (.tail _ (.tail _ (.tail _ (.head _)))))) rfl rfl)),?_⟩|refine⟨.inr (.inr (loadK rfl (O.at (.tail _ (.tail _ (.tail _ (.tail _ (.tail _ (.head _))))))) rfl rfl)),?_⟩|refine⟨.inr (.inr (loadK rfl (O.at (.tail _ (.tail _ (.tail _ (.tail _ (.tail _ (.tail _ (.head _)))))))) rfl rfl)),?_⟩|refine⟨.inl (Ext.refl _),?_⟩|refine⟨.inr (.inr rfl),?_⟩|refine⟨.inr (by kernel_rfl),?_⟩|refine⟨.inl (by kernel_rfl),?_⟩|refine id ?_);refine gH ?_
             refine ix 1 hm fun x333 hx333 hm=>?_;refine gH ?_
             refine O.stE 1 (.head _) hx333 p1.value fun h O=>?_;refine gH ?_
             (first|refine⟨.inr (.inr (loadK rfl (O.at (.head _)) rfl rfl)),?_⟩|refine⟨.inr (.inr (loadK rfl (O.at (.tail _ (.head _))) rfl rfl)),?_⟩|refine⟨.inr (.inr (loadK rfl (O.at (.tail _ (.tail _ (.head _)))) rfl rfl)),?_⟩|refine⟨.inr (.inr (loadK rfl (O.at (.tail _ (.tail _ (.tail _ (.head _))))) rfl rfl)),?_⟩|refine⟨.inr (.inr (loadK rfl (O.at (.tail _ (.tail _ (.tail _ (.tail _ (.head _)))))) rfl rfl)),?_⟩|refine⟨.inr (.inr (loadK rfl (O.at (.tail _ (.tail _ (.tail _ (.tail _ (.tail _ (.head _))))))) rfl rfl)),?_⟩|refine⟨.inr (.inr (loadK rfl (O.at (.tail _ (.tail _ (.tail _ (.tail _ (.tail _ (.tail _ (.head _)))))))) rfl rfl)),?_⟩|refine⟨.inl (Ext.refl _),?_⟩|refine⟨.inr (.inr rfl),?_⟩|refine⟨.inr (by kernel_rfl),?_⟩|refine⟨.inl (by kernel_rfl),?_⟩|refine id ?_);refine gH ?_
             refine gX ?_
             refine aAdd hm fun hm=>?_;refine gH ?_
             exact jx ((v306.set x305 p1.value),(v303+1)) hm O
            ·refine gX ?_
             (first|refine⟨.inr (.inr (loadK rfl (O.at (.head _)) rfl rfl)),?_⟩|refine⟨.inr (.inr (loadK rfl (O.at (.tail _ (.head _))) rfl rfl)),?_⟩|refine⟨.inr (.inr (loadK rfl (O.at (.tail _ (.tail _ (.head _)))) rfl rfl)),?_⟩|refine⟨.inr (.inr (loadK rfl (O.at (.tail _ (.tail _ (.tail _ (.head _))))) rfl rfl)),?_⟩|refine⟨.inr (.inr (loadK rfl (O.at (.tail _ (.tail _ (.tail _ (.tail _ (.head _)))))) rfl rfl)),?_⟩|refine⟨.inr (.inr (loadK rfl (O.at (.tail _ (.tail _ (.tail _ (.tail _ (.tail _ (.head _))))))) rfl rfl)),?_⟩|refine⟨.inr (.inr (loadK rfl (O.at (.tail _ (.tail _ (.tail _ (.tail _ (.tail _ (.tail _ (.head _)))))))) rfl rfl)),?_⟩|refine⟨.inl (Ext.refl _),?_⟩|refine⟨.inr (.inr rfl),?_⟩|refine⟨.inr (by kernel_rfl),?_⟩|refine⟨.inl (by kernel_rfl),?_⟩|refine id ?_);refine gH ?_
             refine ix 1 hm fun x334 hx334 hm=>?_;refine gH ?_
             refine O.stE 1 (.head _) hx334 x332 fun h O=>?_;refine gH ?_
             (first|refine⟨.inr (.inr (loadK rfl (O.at (.head _)) rfl rfl)),?_⟩|refine⟨.inr (.inr (loadK rfl (O.at (.tail _ (.head _))) rfl rfl)),?_⟩|refine⟨.inr (.inr (loadK rfl (O.at (.tail _ (.tail _ (.head _)))) rfl rfl)),?_⟩|refine⟨.inr (.inr (loadK rfl (O.at (.tail _ (.tail _ (.tail _ (.head _))))) rfl rfl)),?_⟩|refine⟨.inr (.inr (loadK rfl (O.at (.tail _ (.tail _ (.tail _ (.tail _ (.head _)))))) rfl rfl)),?_⟩|refine⟨.inr (.inr (loadK rfl (O.at (.tail _ (.tail _ (.tail _ (.tail _ (.tail _ (.head _))))))) rfl rfl)),?_⟩|refine⟨.inr (.inr (loadK rfl (O.at (.tail _ (.tail _ (.tail _ (.tail _ (.tail _ (.tail _ (.head _)))))))) rfl rfl)),?_⟩|refine⟨.inl (Ext.refl _),?_⟩|refine⟨.inr (.inr rfl),?_⟩|refine⟨.inr (by kernel_rfl),?_⟩|refine⟨.inl (by kernel_rfl),?_⟩|refine id ?_);refine gH ?_
             refine gX ?_
             refine aAdd hm fun hm=>?_;refine gH ?_
             exact jx ((v306.set x305 x332),(v303+1)) hm O
          ·refine gX ?_
           exact jx v302 hm O
         ·clear hm;rintro v300 base h hm O
          refine gX ?_
          have O:=O.addNil (.cells (flatC ((([]:List Nat)).map n8)) false)
          have O:=O.addNil (.cells (flatC ((([]:List Nat)).map n8)) false)
          (first|refine O.new (anew_alloc (l:=[(.slice none 0 0),(.slice none 0 0)]) rfl rfl rfl) fun g335 h O=>?_|refine O.newX (anew_alloc (l:=[(.slice none 0 0),(.slice none 0 0)]) rfl rfl rfl) fun g335 h O=>?_);refine gH ?_
          refine jn (σ:=(List Nat)×Option Nat) hm 189 [0,4,5,16] (fun s=>s.1) (fun (v340,a339) h=>(a339=none->v340=[])/\Own vars h0 [((some g279),.cells (flatC (v300.map n8)) false),((some g273),.cells [(.func (.func 113) ⟨[]⟩ ⟨[(FP (encFlt p1))]⟩)] false),((some g277),.cells [(.slice none 0 0),(.slice none 0 0)] false),((some g335),.cells [(growV 1 a339 (v340.map n8)),(growV 1 none (([]:List Nat).map n8))] false),(a339,.cells (flatC (v340.map n8)) false),(none,.cells (flatC (([]:List Nat).map n8)) false),((some g1),.cells [((encL 1 n8) r6.1.out),((encL 1 n8) r6.1.next)] false),((some g3),.cells [(.slice none 0 0),(.slice none 0 0)] false),((some g275),.cells [((encL 4 encNode) p0.nodes),((encL 1 Value.string) p0.names),((encL 3 encMem) p0.mems),((encL 1 i64) p0.outs),(.slice (some ⟨g279,0,none⟩) p0.nodes.length p0.nodes.length),(.func (.func 135) ⟨[]⟩ ⟨[(FP (encLnZ p1.line)),(.pointer (some ⟨g273,0,none⟩))]⟩),(.func (.func 109) ⟨[]⟩ ⟨[]⟩)] true)] h) (fun (v340,a339)=>[]) (fun hm=>?_) ?_
          ·refine gX ?_
           refine lw 189 [0,4,5,16,143,144] (σ:=((List Nat)×Nat)×Option Nat) (fun s=>s.1) (fun ((v344,v345),a343) h=>(a343=none->v344=[])/\Own vars h0 [((some g279),.cells (flatC (v300.map n8)) false),((some g273),.cells [(.func (.func 113) ⟨[]⟩ ⟨[(FP (encFlt p1))]⟩)] false),((some g277),.cells [(.slice none 0 0),(.slice none 0 0)] false),((some g335),.cells [(growV 1 a343 (v344.map n8)),(growV 1 none (([]:List Nat).map n8))] false),(a343,.cells (flatC (v344.map n8)) false),(none,.cells (flatC (([]:List Nat).map n8)) false),((some g1),.cells [((encL 1 n8) r6.1.out),((encL 1 n8) r6.1.next)] false),((some g3),.cells [(.slice none 0 0),(.slice none 0 0)] false),((some g275),.cells [((encL 4 encNode) p0.nodes),((encL 1 Value.string) p0.names),((encL 3 encMem) p0.mems),((encL 1 i64) p0.outs),(.slice (some ⟨g279,0,none⟩) p0.nodes.length p0.nodes.length),(.func (.func 135) ⟨[]⟩ ⟨[(FP (encLnZ p1.line)),(.pointer (some ⟨g273,0,none⟩))]⟩),(.func (.func 109) ⟨[]⟩ ⟨[]⟩)] true)] h) (fun ((v344,v345),a343)=>[(145,(i64 v345))]) ((([]:List Nat),0),none) hm ⟨(fun _=>rfl),(O.sel [3,4,5,0,2,1,6,7,8] (by decide))⟩ ?_
           clear hm;rintro⟨⟨v344,v345⟩,a343⟩ nx347 base h hm ⟨ha346,O⟩
           refine gX ?_
           refine br hm (fun hm=>?_) fun hm=>?_
           ·refine gX ?_
            refine atF hm fun x348 hx348 hm=>?_;refine gX ?_
            refine ldO (O.at (.tail _ (.tail _ (.tail _ (.head _))))) ?_;refine gH ?_
            first|refine⟨.inr (.inr (loadK rfl (O.at (.tail _ (.tail _ (.tail _ (.head _))))) rfl rfl)),?_⟩|refine⟨.inr (.inl (by kernel_rfl)),?_⟩
            refine gX ?_
            first|refine⟨.inr (.inr (rfl)),?_⟩|refine⟨.inr (.inl (by kernel_rfl)),?_⟩
            refine gX ?_
            refine ix 1 hm fun x349 hx349 hm=>?_;refine gH ?_
            refine⟨_,loadK rfl (O.at (.head _)) rfl (cell_map (enc:=n8) (s:=1) (k:=0) (fun _=>rfl) hx349 rfl),?_⟩;refine gH ?_
            refine O.buildLX (l:=([x349]:(List Nat))) (enc:=n8) (s:=1) (z:=(n8 0)) rfl rfl (by kernel_rfl) (by kernel_rfl) rfl rfl rfl rfl (fun _=>rfl) fun g350 h O=>?_;refine gH ?_
            refine O.appendL (enc:=n8) (l:=v344) (new:=([x349]:(List Nat))) (s:=1) (b:=1) (.tail _ (.tail _ (.tail _ (.tail _ (.tail _ (.head _)))))) ha346 rfl rfl rfl rfl rfl rfl rfl rfl (YOk.own (O.at (.head _)) rfl (fun _=>rfl) rfl) (fun _=>rfl) (fun _=>rfl) (by decide) hm.1 fun a352 h ha353 O=>?_;refine gH ?_
            (first|refine⟨.inr (.inr (loadK rfl (O.at (.head _)) rfl rfl)),?_⟩|refine⟨.inr (.inr (loadK rfl (O.at (.tail _ (.head _))) rfl rfl)),?_⟩|refine⟨.inr (.inr (loadK rfl (O.at (.tail _ (.tail _ (.head _)))) rfl rfl)),?_⟩|refine⟨.inr (.inr (loadK rfl (O.at (.tail _ (.tail _ (.tail _ (.head _))))) rfl rfl)),?_⟩|refine⟨.inr (.inr (loadK rfl (O.at (.tail _ (.tail _ (.tail _ (.tail _ (.head _)))))) rfl rfl)),?_⟩|refine⟨.inr (.inr (loadK rfl (O.at (.tail _ (.tail _ (.tail _ (.tail _ (.tail _ (.head _))))))) rfl rfl)),?_⟩|refine⟨.inr (.inr (loadK rfl (O.at (.tail _ (.tail _ (.tail _ (.tail _ (.tail _ (.tail _ (.head _)))))))) rfl rfl)),?_⟩|refine⟨.inl (Ext.refl _),?_⟩|refine⟨.inr (.inr rfl),?_⟩|refine⟨.inr (by kernel_rfl),?_⟩|refine⟨.inl (by kernel_rfl),?_⟩|refine id ?_);refine gH ?_
            replace hm:=hm.2
            refine O.stC 1 (.tail _ (.tail _ (.tail _ (.tail _ (.head _))))) [(growV 1 a352 ((v344++([x349]:(List Nat))).map n8)),(growV 1 none (([]:List Nat).map n8))] fun h O=>?_;refine gH ?_
            (first|refine⟨.inr (.inr (loadK rfl (O.at (.head _)) rfl rfl)),?_⟩|refine⟨.inr (.inr (loadK rfl (O.at (.tail _ (.head _))) rfl rfl)),?_⟩|refine⟨.inr (.inr (loadK rfl (O.at (.tail _ (.tail _ (.head _)))) rfl rfl)),?_⟩|refine⟨.inr (.inr (loadK rfl (O.at (.tail _ (.tail _ (.tail _ (.head _))))) rfl rfl)),?_⟩|refine⟨.inr (.inr (loadK rfl (O.at (.tail _ (.tail _ (.tail _ (.tail _ (.head _)))))) rfl rfl)),?_⟩|refine⟨.inr (.inr (loadK rfl (O.at (.tail _ (.tail _ (.tail _ (.tail _ (.tail _ (.head _))))))) rfl rfl)),?_⟩|refine⟨.inr (.inr (loadK rfl (O.at (.tail _ (.tail _ (.tail _ (.tail _ (.tail _ (.tail _ (.head _)))))))) rfl rfl)),?_⟩|refine⟨.inl (Ext.refl _),?_⟩|refine⟨.inr (.inr rfl),?_⟩|refine⟨.inr (by kernel_rfl),?_⟩|refine⟨.inl (by kernel_rfl),?_⟩|refine id ?_);refine gH ?_
            refine gX ?_
            refine aAdd hm fun hm=>?_;refine gH ?_
            exact jx (((v344++([x349]:(List Nat))),(v345+1)),a352) hm ⟨ha353,(O.sel [1,2,3,4,5,6,7,8,9] (by decide))⟩
           ·refine gX ?_
            exact jx (v344,a343) hm ⟨ha346,O⟩
          ·clear hm;rintro⟨v340,a339⟩ base h hm ⟨ha341,O⟩
           conv=>whnf
           refine jn (σ:=(List Nat)×Option Nat) hm 189 [4,16] (fun s=>s.1) (fun (v355,a354) h=>(a339=none->v340=[])/\(a354=none->v355=[])/\Own vars h0 [((some g277),.cells [(.slice none 0 0),(.slice none 0 0)] false),((some g335),.cells [(growV 1 a339 (v340.map n8)),(growV 1 a354 (v355.map n8))] false),(a339,.cells (flatC (v340.map n8)) false),(a354,.cells (flatC (v355.map n8)) false),((some g1),.cells [((encL 1 n8) r6.1.out),((encL 1 n8) r6.1.next)] false),((some g3),.cells [(.slice none 0 0),(.slice none 0 0)] false),((some g275),.cells [((encL 4 encNode) p0.nodes),((encL 1 Value.string) p0.names),((encL 3 encMem) p0.mems),((encL 1 i64) p0.outs),(.slice (some ⟨g279,0,none⟩) p0.nodes.length p0.nodes.length),(.func (.func 135) ⟨[]⟩ ⟨[(FP (encLnZ p1.line)),(.pointer (some ⟨g273,0,none⟩))]⟩),(.func (.func 109) ⟨[]⟩ ⟨[]⟩)] true),((some g279),.cells (flatC (v300.map n8)) false),((some g273),.cells [(.func (.func 113) ⟨[]⟩ ⟨[(FP (encFlt p1))]⟩)] false)] h) (fun (v355,a354)=>[]) (fun hm=>?_) ?_
           ·refine gX ?_
            refine lw 189 [0,4,16,162,163] (σ:=((List Nat)×Nat)×Option Nat) (fun s=>s.1) (fun ((v360,v361),a359) h=>(a339=none->v340=[])/\(a359=none->v360=[])/\Own vars h0 [((some g279),.cells (flatC (v300.map n8)) false),((some g273),.cells [(.func (.func 113) ⟨[]⟩ ⟨[(FP (encFlt p1))]⟩)] false),((some g277),.cells [(.slice none 0 0),(.slice none 0 0)] false),((some g335),.cells [(growV 1 a339 (v340.map n8)),(growV 1 a359 (v360.map n8))] false),(a339,.cells (flatC (v340.map n8)) false),(a359,.cells (flatC (v360.map n8)) false),((some g1),.cells [((encL 1 n8) r6.1.out),((encL 1 n8) r6.1.next)] false),((some g3),.cells [(.slice none 0 0),(.slice none 0 0)] false),((some g275),.cells [((encL 4 encNode) p0.nodes),((encL 1 Value.string) p0.names),((encL 3 encMem) p0.mems),((encL 1 i64) p0.outs),(.slice (some ⟨g279,0,none⟩) p0.nodes.length p0.nodes.length),(.func (.func 135) ⟨[]⟩ ⟨[(FP (encLnZ p1.line)),(.pointer (some ⟨g273,0,none⟩))]⟩),(.func (.func 109) ⟨[]⟩ ⟨[]⟩)] true)] h) (fun ((v360,v361),a359)=>[(164,(i64 v361))]) ((([]:List Nat),0),none) hm ⟨ha341,(fun _=>rfl),O⟩ ?_
            clear hm;rintro⟨⟨v360,v361⟩,a359⟩ nx364 base h hm ⟨ha362,ha363,O⟩
            refine gX ?_
            refine br hm (fun hm=>?_) fun hm=>?_
            ·refine gX ?_
             refine atF hm fun x365 hx365 hm=>?_;refine gX ?_
             refine fg Tryz.func115 ?_;conv=>whnf
             apply Cs;conv=>whnf
             apply Cs;refine gH ?_
             have O:=O.addNil (.cells (flatC ((([]:List Nat)).map n8)) false)
             apply Cs;conv=>whnf
             apply Cs;refine gH ?_
             have O:=O.addNil (.cells (flatC ((([]:List Nat)).map n8)) false)
             refine jn (σ:=(List Nat)×Option Nat) hm 42 [] (fun s=>s.1) (fun (v369,a368) h=>(a368=none->v369=[])/\(a339=none->v340=[])/\(a359=none->v360=[])/\Own vars h0 [(a368,.cells (flatC (v369.map n8)) false),((some g1),.cells [((encL 1 n8) r6.1.out),((encL 1 n8) r6.1.next)] false),((some g3),.cells [(.slice none 0 0),(.slice none 0 0)] false),((some g275),.cells [((encL 4 encNode) p0.nodes),((encL 1 Value.string) p0.names),((encL 3 encMem) p0.mems),((encL 1 i64) p0.outs),(.slice (some ⟨g279,0,none⟩) p0.nodes.length p0.nodes.length),(.func (.func 135) ⟨[]⟩ ⟨[(FP (encLnZ p1.line)),(.pointer (some ⟨g273,0,none⟩))]⟩),(.func (.func 109) ⟨[]⟩ ⟨[]⟩)] true),((some g279),.cells (flatC (v300.map n8)) false),((some g273),.cells [(.func (.func 113) ⟨[]⟩ ⟨[(FP (encFlt p1))]⟩)] false),((some g277),.cells [(.slice none 0 0),(.slice none 0 0)] false),((some g335),.cells [(growV 1 a339 (v340.map n8)),(growV 1 a359 (v360.map n8))] false),(a339,.cells (flatC (v340.map n8)) false),(a359,.cells (flatC (v360.map n8)) false)] h) (fun (v369,a368)=>[(5,(growV 1 a368 (v369.map n8)))]) (fun hm=>?_) ?_
             ·refine gX ?_
              refine atF hm fun x374 hx374 hm=>?_;refine gX ?_
              refine lw 42 [0,1,16,17] (σ:=((List Nat)×Nat)×Option Nat) (fun s=>s.1) (fun ((v376,v377),a375) h=>(a375=none->v376=[])/\(a339=none->v340=[])/\(a359=none->v360=[])/\Own vars h0 [((some g279),.cells (flatC (v300.map n8)) false),((some g273),.cells [(.func (.func 113) ⟨[]⟩ ⟨[(FP (encFlt p1))]⟩)] false),(a375,.cells (flatC (v376.map n8)) false),((some g1),.cells [((encL 1 n8) r6.1.out),((encL 1 n8) r6.1.next)] false),((some g3),.cells [(.slice none 0 0),(.slice none 0 0)] false),((some g275),.cells [((encL 4 encNode) p0.nodes),((encL 1 Value.string) p0.names),((encL 3 encMem) p0.mems),((encL 1 i64) p0.outs),(.slice (some ⟨g279,0,none⟩) p0.nodes.length p0.nodes.length),(.func (.func 135) ⟨[]⟩ ⟨[(FP (encLnZ p1.line)),(.pointer (some ⟨g273,0,none⟩))]⟩),(.func (.func 109) ⟨[]⟩ ⟨[]⟩)] true),((some g277),.cells [(.slice none 0 0),(.slice none 0 0)] false),((some g335),.cells [(growV 1 a339 (v340.map n8)),(growV 1 a359 (v360.map n8))] false),(a339,.cells (flatC (v340.map n8)) false),(a359,.cells (flatC (v360.map n8)) false)] h) (fun ((v376,v377),a375)=>[(5,(growV 1 a375 (v376.map n8))),(18,(i64 v377))]) ((([]:List Nat),0),none) hm ⟨(fun _=>rfl),ha362,ha363,(O.sel [2,3,0,8,9,10,4,5,6,7] (by decide))⟩ ?_
              clear hm;rintro⟨⟨v376,v377⟩,a375⟩ nx381 base h hm ⟨ha378,ha379,ha380,O⟩
              refine gX ?_
              refine br hm (fun hm=>?_) fun hm=>?_
              ·refine gX ?_
               refine atF hm fun x382 hx382 hm=>?_;refine gX ?_
               first|refine⟨.inr (.inr (rfl)),?_⟩|refine⟨.inr (.inl (by kernel_rfl)),?_⟩
               refine gX ?_
               first|refine⟨.inr (.inr (rfl)),?_⟩|refine⟨.inr (.inl (by kernel_rfl)),?_⟩
               refine gX ?_
               refine ix 1 hm fun x383 hx383 hm=>?_;refine gH ?_
               refine⟨_,loadK rfl (O.at (.head _)) rfl (cell_map (enc:=n8) (s:=1) (k:=0) (fun _=>rfl) hx383 rfl),?_⟩;refine gH ?_
               refine fg Tryz.func109 ?_;refine gX ?_
               (first|refine⟨.inr (.inr (loadK rfl (O.at (.head _)) rfl rfl)),?_⟩|refine⟨.inr (.inr (loadK rfl (O.at (.tail _ (.head _))) rfl rfl)),?_⟩|refine⟨.inr (.inr (loadK rfl (O.at (.tail _ (.tail _ (.head _)))) rfl rfl)),?_⟩|refine⟨.inr (.inr (loadK rfl (O.at (.tail _ (.tail _ (.tail _ (.head _))))) rfl rfl)),?_⟩|refine⟨.inr (.inr (loadK rfl (O.at (.tail _ (.tail _ (.tail _ (.tail _ (.head _)))))) rfl rfl)),?_⟩|refine⟨.inr (.inr (loadK rfl (O.at (.tail _ (.tail _ (.tail _ (.tail _ (.tail _ (.head _))))))) rfl rfl)),?_⟩|refine⟨.inr (.inr (loadK rfl (O.at (.tail _ (.tail _ (.tail _ (.tail _ (.tail _ (.tail _ (.head _)))))))) rfl rfl)),?_⟩|refine⟨.inl (Ext.refl _),?_⟩|refine⟨.inr (.inr rfl),?_⟩|refine⟨.inr (by kernel_rfl),?_⟩|refine⟨.inl (by kernel_rfl),?_⟩|refine id ?_);refine gH ?_
               refine O.buildLX (l:=([x383]:(List Nat))) (enc:=n8) (s:=1) (z:=(n8 0)) rfl rfl (by kernel_rfl) (by kernel_rfl) rfl rfl rfl rfl (fun _=>rfl) fun g384 h O=>?_;refine gH ?_
               refine O.appendL (enc:=n8) (l:=v376) (new:=([x383]:(List Nat))) (s:=1) (b:=1) (.tail _ (.tail _ (.tail _ (.head _)))) ha378 rfl rfl rfl rfl rfl rfl rfl rfl (YOk.own (O.at (.head _)) rfl (fun _=>rfl) rfl) (fun _=>rfl) (fun _=>rfl) (by decide) hm.1 fun a386 h ha387 O=>?_;refine gH ?_
               (first|refine⟨.inr (.inr (loadK rfl (O.at (.head _)) rfl rfl)),?_⟩|refine⟨.inr (.inr (loadK rfl (O.at (.tail _ (.head _))) rfl rfl)),?_⟩|refine⟨.inr (.inr (loadK rfl (O.at (.tail _ (.tail _ (.head _)))) rfl rfl)),?_⟩|refine⟨.inr (.inr (loadK rfl (O.at (.tail _ (.tail _ (.tail _ (.head _))))) rfl rfl)),?_⟩|refine⟨.inr (.inr (loadK rfl (O.at (.tail _ (.tail _ (.tail _ (.tail _ (.head _)))))) rfl rfl)),?_⟩|refine⟨.inr (.inr (loadK rfl (O.at (.tail _ (.tail _ (.tail _ (.tail _ (.tail _ (.head _))))))) rfl rfl)),?_⟩|refine⟨.inr (.inr (loadK rfl (O.at (.tail _ (.tail _ (.tail _ (.tail _ (.tail _ (.tail _ (.head _)))))))) rfl rfl)),?_⟩|refine⟨.inl (Ext.refl _),?_⟩|refine⟨.inr (.inr rfl),?_⟩|refine⟨.inr (by kernel_rfl),?_⟩|refine⟨.inl (by kernel_rfl),?_⟩|refine id ?_);refine gH ?_
               replace hm:=hm.2
               refine gX ?_
               refine aAdd hm fun hm=>?_;refine gH ?_
               exact jx (((v376++([x383]:(List Nat))),(v377+1)),a386) hm ⟨ha387,ha379,ha380,(O.sel [1,2,3,4,5,6,7,8,9,10] (by decide))⟩
              ·refine gX ?_
               exact jx (v376,a375) hm ⟨ha378,ha379,ha380,(O.sel [2,3,4,5,0,1,6,7,8,9] (by decide))⟩
             ·clear hm;rintro⟨v369,a368⟩ base h hm ⟨ha370,ha371,ha372,O⟩
              refine gX ?_
              obtain⟨x388,hx388,hm⟩:=hm
              have h9:=hm
              obtain⟨g389,rfl⟩:=addr_some ha370 hx388
              replace hm:=h9
              refine indexK (s:=1) (j:=0) rfl rfl rfl rfl (by rw[List.length_map];exact lt_of_get hx388) ?_;refine gH ?_
              refine ldE (s:=1) (i:=0) (O.at (.head _)) hx388 ?_;refine gH ?_
              refine jn hm 189 [0,4,16,162,163,164] (fun s=>s) (fun v390 h=>(a339=none->v340=[])/\(a359=none->v360=[])/\Own vars h0 [((some g279),.cells (flatC (v300.map n8)) false),((some g273),.cells [(.func (.func 113) ⟨[]⟩ ⟨[(FP (encFlt p1))]⟩)] false),((some g277),.cells [(.slice none 0 0),(.slice none 0 0)] false),((some g335),.cells [(growV 1 a339 (v340.map n8)),(growV 1 a359 (v360.map n8))] false),(a339,.cells (flatC (v340.map n8)) false),(a359,.cells (flatC (v360.map n8)) false),((some g1),.cells [((encL 1 n8) r6.1.out),((encL 1 n8) r6.1.next)] false),((some g3),.cells [(.slice none 0 0),(.slice none 0 0)] false),((some g275),.cells [((encL 4 encNode) p0.nodes),((encL 1 Value.string) p0.names),((encL 3 encMem) p0.mems),((encL 1 i64) p0.outs),(.slice (some ⟨g279,0,none⟩) p0.nodes.length p0.nodes.length),(.func (.func 135) ⟨[]⟩ ⟨[(FP (encLnZ p1.line)),(.pointer (some ⟨g273,0,none⟩))]⟩),(.func (.func 109) ⟨[]⟩ ⟨[]⟩)] true)] h) (fun v390=>[(21,(n8 v390))]) (fun hm=>?_) ?_
              ·refine gX ?_
               refine br hm (fun hm=>?_) fun hm=>?_
               ·refine gX ?_
                exact jx 2 hm ⟨ha371,ha372,(O.sel [4,5,6,7,8,9,1,2,3] (by decide))⟩
               ·refine gX ?_
                exact jx x388 hm ⟨ha371,ha372,(O.sel [4,5,6,7,8,9,1,2,3] (by decide))⟩
              ·clear hm;rintro v390 base h hm ⟨ha391,ha392,O⟩
               refine gX ?_
               refine ldO (O.at (.tail _ (.tail _ (.tail _ (.head _))))) ?_;refine gH ?_
               refine fz ?_;refine gH ?_
               refine O.apL (enc:=n8) (l:=v360) (new:=([v390]:(List Nat))) 1 (.tail _ (.tail _ (.tail _ (.tail _ (.tail _ (.head _)))))) ha392 hm fun a394 h ha395 O hm=>?_;refine gH ?_
               refine O.stC 1 (.tail _ (.tail _ (.tail _ (.head _)))) [(growV 1 a339 (v340.map n8)),(growV 1 a394 ((v360++([v390]:(List Nat))).map n8))] fun h O=>?_;refine gX ?_
               refine aAdd hm fun hm=>?_;refine gH ?_
               exact jx (((v360++([v390]:(List Nat))),(v361+1)),a394) hm ⟨ha391,ha395,O⟩
            ·refine gX ?_
             exact jx (v360,a359) hm ⟨ha362,ha363,(O.sel [2,3,4,5,6,7,8,0,1] (by decide))⟩
           ·clear hm;rintro⟨v355,a354⟩ base h hm ⟨ha356,ha357,O⟩
            refine gX ?_
            first|refine⟨.inr (.inr (loadK rfl (O.at (.tail _ (.head _))) rfl rfl)),?_⟩|refine⟨.inr (.inl (by kernel_rfl)),?_⟩
            refine gX ?_
            refine fg Tryz.func73 ?_;refine gX ?_
            refine clipK (s:=1) (enc:=n8) (l:=v340) (n:=v340.length) (m:=v340.length) rfl rfl rfl rfl rfl rfl rfl ?_;refine gX ?_
            (first|refine⟨.inr (.inr (loadK rfl (O.at (.head _)) rfl rfl)),?_⟩|refine⟨.inr (.inr (loadK rfl (O.at (.tail _ (.head _))) rfl rfl)),?_⟩|refine⟨.inr (.inr (loadK rfl (O.at (.tail _ (.tail _ (.head _)))) rfl rfl)),?_⟩|refine⟨.inr (.inr (loadK rfl (O.at (.tail _ (.tail _ (.tail _ (.head _))))) rfl rfl)),?_⟩|refine⟨.inr (.inr (loadK rfl (O.at (.tail _ (.tail _ (.tail _ (.tail _ (.head _)))))) rfl rfl)),?_⟩|refine⟨.inr (.inr (loadK rfl (O.at (.tail _ (.tail _ (.tail _ (.tail _ (.tail _ (.head _))))))) rfl rfl)),?_⟩|refine⟨.inr (.inr (loadK rfl (O.at (.tail _ (.tail _ (.tail _ (.tail _ (.tail _ (.tail _ (.head _)))))))) rfl rfl)),?_⟩|refine⟨.inl (Ext.refl _),?_⟩|refine⟨.inr (.inr rfl),?_⟩|refine⟨.inr (by kernel_rfl),?_⟩|refine⟨.inl (by kernel_rfl),?_⟩|refine id ?_);refine gH ?_
            first|refine⟨.inr (.inr (loadK rfl (O.at (.tail _ (.head _))) rfl rfl)),?_⟩|refine⟨.inr (.inl (by kernel_rfl)),?_⟩
            refine gX ?_
            refine fg Tryz.func73 ?_;refine gX ?_
            refine clipK (s:=1) (enc:=n8) (l:=v355) (n:=v355.length) (m:=v355.length) rfl rfl rfl rfl rfl rfl rfl ?_;refine gX ?_
            (first|refine⟨.inr (.inr (loadK rfl (O.at (.head _)) rfl rfl)),?_⟩|refine⟨.inr (.inr (loadK rfl (O.at (.tail _ (.head _))) rfl rfl)),?_⟩|refine⟨.inr (.inr (loadK rfl (O.at (.tail _ (.tail _ (.head _)))) rfl rfl)),?_⟩|refine⟨.inr (.inr (loadK rfl (O.at (.tail _ (.tail _ (.tail _ (.head _))))) rfl rfl)),?_⟩|refine⟨.inr (.inr (loadK rfl (O.at (.tail _ (.tail _ (.tail _ (.tail _ (.head _)))))) rfl rfl)),?_⟩|refine⟨.inr (.inr (loadK rfl (O.at (.tail _ (.tail _ (.tail _ (.tail _ (.tail _ (.head _))))))) rfl rfl)),?_⟩|refine⟨.inr (.inr (loadK rfl (O.at (.tail _ (.tail _ (.tail _ (.tail _ (.tail _ (.tail _ (.head _)))))))) rfl rfl)),?_⟩|refine⟨.inl (Ext.refl _),?_⟩|refine⟨.inr (.inr rfl),?_⟩|refine⟨.inr (by kernel_rfl),?_⟩|refine⟨.inl (by kernel_rfl),?_⟩|refine id ?_);refine gH ?_
            refine O.stC 2 (.head _) [(clipV a339 (v340.map n8)),(clipV a354 (v355.map n8))] fun h O=>?_;refine gH ?_
            (first|refine⟨.inr (.inr (loadK rfl (O.at (.head _)) rfl rfl)),?_⟩|refine⟨.inr (.inr (loadK rfl (O.at (.tail _ (.head _))) rfl rfl)),?_⟩|refine⟨.inr (.inr (loadK rfl (O.at (.tail _ (.tail _ (.head _)))) rfl rfl)),?_⟩|refine⟨.inr (.inr (loadK rfl (O.at (.tail _ (.tail _ (.tail _ (.head _))))) rfl rfl)),?_⟩|refine⟨.inr (.inr (loadK rfl (O.at (.tail _ (.tail _ (.tail _ (.tail _ (.head _)))))) rfl rfl)),?_⟩|refine⟨.inr (.inr (loadK rfl (O.at (.tail _ (.tail _ (.tail _ (.tail _ (.tail _ (.head _))))))) rfl rfl)),?_⟩|refine⟨.inr (.inr (loadK rfl (O.at (.tail _ (.tail _ (.tail _ (.tail _ (.tail _ (.tail _ (.head _)))))))) rfl rfl)),?_⟩|refine⟨.inl (Ext.refl _),?_⟩|refine⟨.inr (.inr rfl),?_⟩|refine⟨.inr (by kernel_rfl),?_⟩|refine⟨.inl (by kernel_rfl),?_⟩|refine id ?_);refine gH ?_
            refine gX ?_
            refine⟨_,resAggK rfl rfl (O.at (.head _)) rfl rfl (lbE rfl) rfl,?_⟩;refine gX ?_
            refine O.stC 2 (.tail _ (.tail _ (.tail _ (.tail _ (.tail _ (.head _)))))) [(clipV a339 (v340.map n8)),(clipV a354 (v355.map n8))] fun h O=>?_;refine gX ?_
            refine ldA (O.at (.tail _ (.tail _ (.tail _ (.tail _ (.head _)))))) ?_;refine gH ?_
            first|refine⟨.inr (.inr (loadAggK rfl (O.at (.tail _ (.tail _ (.tail _ (.tail _ (.head _)))))) rfl rfl (lbE rfl) rfl)),?_⟩|refine⟨.inr (.inl (by kernel_rfl)),?_⟩
            refine gX ?_
            refine ldA (O.at (.tail _ (.tail _ (.tail _ (.tail _ (.tail _ (.head _))))))) ?_;refine gH ?_
            first|refine⟨.inr (.inr (loadAggK rfl (O.at (.tail _ (.tail _ (.tail _ (.tail _ (.tail _ (.head _))))))) rfl rfl (lbE rfl) rfl)),?_⟩|refine⟨.inr (.inl (by kernel_rfl)),?_⟩
            refine gX ?_
            refine ldO (O.at (.tail _ (.tail _ (.tail _ (.tail _ (.tail _ (.tail _ (.head _)))))))) ?_;refine gH ?_
            first|refine⟨.inr (.inr (loadK rfl (O.at (.tail _ (.tail _ (.tail _ (.tail _ (.tail _ (.tail _ (.head _)))))))) rfl rfl)),?_⟩|refine⟨.inr (.inl (by kernel_rfl)),?_⟩
            refine gX ?_
            refine O.stSame 2 (.tail _ (.tail _ (.tail _ (.tail _ (.head _))))) fun h hext O=>?_;conv=>whnf
            refine⟨.inr hext,?_⟩;refine gH ?_
            refine O.stSame 2 (.tail _ (.tail _ (.tail _ (.tail _ (.tail _ (.head _)))))) fun h hext O=>?_;conv=>whnf
            refine⟨.inr hext,?_⟩;refine gX ?_
            refine⟨_,resAggK rfl rfl (O.at (.tail _ (.tail _ (.tail _ (.tail _ (.head _)))))) rfl rfl (lbE rfl) rfl,?_⟩;conv=>whnf
            refine⟨_,resAggK rfl rfl (O.at (.tail _ (.tail _ (.tail _ (.tail _ (.tail _ (.head _))))))) rfl rfl (lbE rfl) rfl,?_⟩;conv=>whnf
            obtain⟨hn396,hm⟩:=hm
            exact⟨(r6.1,(⟨v340,v355⟩:Rsp),v300,0),hm,O.ext,fun h2 F=>VLe.tup (LLe.cons (VLe.refl _ _) (LLe.cons (VLe.agg (LLe.cons (O.clipL F (Nat.le_refl _) (.tail _ (.tail _ (.head _))) ha356 (fun _=>rfl)) (LLe.cons (O.clipL F (Nat.le_refl _) (.tail _ (.tail _ (.tail _ (.head _)))) ha357 (fun _=>rfl)) (LLe.nil _)))) (LLe.cons (O.flatL F (Nat.le_refl _) (.tail _ (.tail _ (.tail _ (.tail _ (.tail _ (.tail _ (.tail _ (.head _)))))))) (fun _=>rfl) hn396) (LLe.cons (VLe.refl _ _) (LLe.nil _)))))⟩
      ·refine gX ?_
       refine O.stC 1 (.head _) [((encL 4 encNode) p0.nodes),((encL 1 Value.string) p0.names),((encL 3 encMem) p0.mems),((encL 1 i64) p0.outs),(.slice none 0 0),(.func (.func 134) ⟨[]⟩ ⟨[]⟩),(.func (.func 136) ⟨[]⟩ ⟨[(FP (encLnZ p1.line)),(.pointer (some ⟨g273,0,none⟩))]⟩)] fun h O=>?_;refine gX ?_
       refine fg Tryz.func75 ?_;refine gX ?_
       refine fz ?_;refine gH ?_
       (first|refine O.new (anew_alloc (l:=[(.slice none 0 0),(.slice none 0 0)]) rfl rfl rfl) fun g397 h O=>?_|refine O.newX (anew_alloc (l:=[(.slice none 0 0),(.slice none 0 0)]) rfl rfl rfl) fun g397 h O=>?_);refine gH ?_
       refine gX ?_
       refine O.mkL (enc:=n8) 1 1 0 hm fun g399 h O hm=>?_;refine gH ?_
       refine O.stC 1 (.tail _ (.tail _ (.head _))) [((encL 4 encNode) p0.nodes),((encL 1 Value.string) p0.names),((encL 3 encMem) p0.mems),((encL 1 i64) p0.outs),(.slice (some ⟨g399,0,none⟩) p0.nodes.length p0.nodes.length),(.func (.func 134) ⟨[]⟩ ⟨[]⟩),(.func (.func 136) ⟨[]⟩ ⟨[(FP (encLnZ p1.line)),(.pointer (some ⟨g273,0,none⟩))]⟩)] fun h O=>?_;refine gH ?_
       apply Cs;conv=>whnf
       refine CodeS.freezeP (v:=(.agg ⟨[((encL 4 encNode) p0.nodes),((encL 1 Value.string) p0.names),((encL 3 encMem) p0.mems),((encL 1 i64) p0.outs),(.slice (some ⟨g399,0,none⟩) p0.nodes.length p0.nodes.length),(.func (.func 134) ⟨[]⟩ ⟨[]⟩),(.func (.func 136) ⟨[]⟩ ⟨[(FP (encLnZ p1.line)),(.pointer (some ⟨g273,0,none⟩))]⟩)]⟩)) O (.tail _ (.tail _ (.head _))) (t2:=0) rfl rfl rfl fun h O=>?_;conv=>whnf
       refine CodeS.freezeP (v:=(.agg ⟨[((encL 4 encNode) p0.nodes),((encL 1 Value.string) p0.names),((encL 3 encMem) p0.mems),((encL 1 i64) p0.outs),(.slice (some ⟨g399,0,none⟩) p0.nodes.length p0.nodes.length),(.func (.func 134) ⟨[]⟩ ⟨[]⟩),(.func (.func 136) ⟨[]⟩ ⟨[(FP (encLnZ p1.line)),(.pointer (some ⟨g273,0,none⟩))]⟩)]⟩)) O (.tail _ (.tail _ (.head _))) (t2:=22) rfl rfl rfl fun h O=>?_;conv=>whnf
       refine CodeS.freezeP (v:=(.agg ⟨[((encL 4 encNode) p0.nodes),((encL 1 Value.string) p0.names),((encL 3 encMem) p0.mems),((encL 1 i64) p0.outs),(.slice (some ⟨g399,0,none⟩) p0.nodes.length p0.nodes.length),(.func (.func 134) ⟨[]⟩ ⟨[]⟩),(.func (.func 136) ⟨[]⟩ ⟨[(FP (encLnZ p1.line)),(.pointer (some ⟨g273,0,none⟩))]⟩)]⟩)) O (.tail _ (.tail _ (.head _))) (t2:=23) rfl rfl rfl fun h O=>?_;conv=>whnf
       refine CodeS.freezeP (v:=(.agg ⟨[((encL 4 encNode) p0.nodes),((encL 1 Value.string) p0.names),((encL 3 encMem) p0.mems),((encL 1 i64) p0.outs),(.slice (some ⟨g399,0,none⟩) p0.nodes.length p0.nodes.length),(.func (.func 134) ⟨[]⟩ ⟨[]⟩),(.func (.func 136) ⟨[]⟩ ⟨[(FP (encLnZ p1.line)),(.pointer (some ⟨g273,0,none⟩))]⟩)]⟩)) O (.tail _ (.tail _ (.head _))) (t2:=24) rfl rfl rfl fun h O=>?_;conv=>whnf
       refine CodeS.freezeP (v:=(.agg ⟨[((encL 4 encNode) p0.nodes),((encL 1 Value.string) p0.names),((encL 3 encMem) p0.mems),((encL 1 i64) p0.outs),(.slice (some ⟨g399,0,none⟩) p0.nodes.length p0.nodes.length),(.func (.func 134) ⟨[]⟩ ⟨[]⟩),(.func (.func 136) ⟨[]⟩ ⟨[(FP (encLnZ p1.line)),(.pointer (some ⟨g273,0,none⟩))]⟩)]⟩)) O (.tail _ (.tail _ (.head _))) (t2:=25) rfl rfl rfl fun h O=>?_;conv=>whnf
       refine CodeS.freezeP (v:=(.agg ⟨[((encL 4 encNode) p0.nodes),((encL 1 Value.string) p0.names),((encL 3 encMem) p0.mems),((encL 1 i64) p0.outs),(.slice (some ⟨g399,0,none⟩) p0.nodes.length p0.nodes.length),(.func (.func 134) ⟨[]⟩ ⟨[]⟩),(.func (.func 136) ⟨[]⟩ ⟨[(FP (encLnZ p1.line)),(.pointer (some ⟨g273,0,none⟩))]⟩)]⟩)) O (.tail _ (.tail _ (.head _))) (t2:=26) rfl rfl rfl fun h O=>?_;conv=>whnf
       refine CodeS.freezeP (v:=(.agg ⟨[((encL 4 encNode) p0.nodes),((encL 1 Value.string) p0.names),((encL 3 encMem) p0.mems),((encL 1 i64) p0.outs),(.slice (some ⟨g399,0,none⟩) p0.nodes.length p0.nodes.length),(.func (.func 134) ⟨[]⟩ ⟨[]⟩),(.func (.func 136) ⟨[]⟩ ⟨[(FP (encLnZ p1.line)),(.pointer (some ⟨g273,0,none⟩))]⟩)]⟩)) O (.tail _ (.tail _ (.head _))) (t2:=30) rfl rfl rfl fun h O=>?_;refine gX ?_
       refine ca (netlists_States_walk hm O.has) fun r401 hm=>?_;refine gH ?_
       refine jn hm 189 [0,3,4,5] (fun s=>s) (fun v402 h=>Own vars h0 [((some g399),.cells (flatC (v402.map n8)) false),((some g273),.cells [(.func (.func 113) ⟨[]⟩ ⟨[(FP (encFlt p1))]⟩)] false),((some g397),.cells [(.slice none 0 0),(.slice none 0 0)] false),((some g1),.cells [((encL 1 n8) r6.1.out),((encL 1 n8) r6.1.next)] false),((some g3),.cells [(.slice none 0 0),(.slice none 0 0)] false),((some g275),.cells [((encL 4 encNode) p0.nodes),((encL 1 Value.string) p0.names),((encL 3 encMem) p0.mems),((encL 1 i64) p0.outs),(.slice (some ⟨g399,0,none⟩) p0.nodes.length p0.nodes.length),(.func (.func 134) ⟨[]⟩ ⟨[]⟩),(.func (.func 136) ⟨[]⟩ ⟨[(FP (encLnZ p1.line)),(.pointer (some ⟨g273,0,none⟩))]⟩)] true)] h) (fun v402=>[]) (fun hm=>?_) ?_
       ·refine gX ?_
        refine ca (netlists_Inputs_walk hm O.has) fun r404 hm=>?_;refine gX ?_
        refine lw 189 [0,3,4,5,41,42] (σ:=((List Nat)×Nat)) (fun s=>s) (fun (v405,v406) h=>Own vars h0 [((some g399),.cells (flatC (v405.map n8)) false),((some g273),.cells [(.func (.func 113) ⟨[]⟩ ⟨[(FP (encFlt p1))]⟩)] false),((some g397),.cells [(.slice none 0 0),(.slice none 0 0)] false),((some g1),.cells [((encL 1 n8) r6.1.out),((encL 1 n8) r6.1.next)] false),((some g3),.cells [(.slice none 0 0),(.slice none 0 0)] false),((some g275),.cells [((encL 4 encNode) p0.nodes),((encL 1 Value.string) p0.names),((encL 3 encMem) p0.mems),((encL 1 i64) p0.outs),(.slice (some ⟨g399,0,none⟩) p0.nodes.length p0.nodes.length),(.func (.func 134) ⟨[]⟩ ⟨[]⟩),(.func (.func 136) ⟨[]⟩ ⟨[(FP (encLnZ p1.line)),(.pointer (some ⟨g273,0,none⟩))]⟩)] true)] h) (fun (v405,v406)=>[(43,(i64 v406))]) ((List.replicate p0.nodes.length (0:Nat)),0) hm (O.sel [0,3,1,7,6,2] (by decide)) ?_
        clear hm;rintro⟨v405,v406⟩ nx407 base h hm O
        refine gX ?_
        refine br hm (fun hm=>?_) fun hm=>?_
        ·refine gX ?_
         refine atF hm fun x408 hx408 hm=>?_;refine gX ?_
         first|refine⟨.inr (.inr (rfl)),?_⟩|refine⟨.inr (.inl (by kernel_rfl)),?_⟩
         refine gX ?_
         first|refine⟨.inr (.inr (rfl)),?_⟩|refine⟨.inr (.inl (by kernel_rfl)),?_⟩
         refine gX ?_
         refine atF hm fun x409 hx409 hm=>?_;refine gH ?_
         refine ix 1 hm fun x410 hx410 hm=>?_;refine gH ?_
         refine O.stE 1 (.head _) hx410 x409 fun h O=>?_;refine gH ?_
         (first|refine⟨.inr (.inr (loadK rfl (O.at (.head _)) rfl rfl)),?_⟩|refine⟨.inr (.inr (loadK rfl (O.at (.tail _ (.head _))) rfl rfl)),?_⟩|refine⟨.inr (.inr (loadK rfl (O.at (.tail _ (.tail _ (.head _)))) rfl rfl)),?_⟩|refine⟨.inr (.inr (loadK rfl (O.at (.tail _ (.tail _ (.tail _ (.head _))))) rfl rfl)),?_⟩|refine⟨.inr (.inr (loadK rfl (O.at (.tail _ (.tail _ (.tail _ (.tail _ (.head _)))))) rfl rfl)),?_⟩|refine⟨.inr (.inr (loadK rfl (O.at (.tail _ (.tail _ (.tail _ (.tail _ (.tail _ (.head _))))))) rfl rfl)),?_⟩|refine⟨.inr (.inr (loadK rfl (O.at (.tail _ (.tail _ (.tail _ (.tail _ (.tail _ (.tail _ (.head _)))))))) rfl rfl)),?_⟩|refine⟨.inl (Ext.refl _),?_⟩|refine⟨.inr (.inr rfl),?_⟩|refine⟨.inr (by kernel_rfl),?_⟩|refine⟨.inl (by kernel_rfl),?_⟩|refine id ?_);refine gH ?_
         refine gX ?_
         refine aAdd hm fun hm=>?_;refine gH ?_
         exact jx ((v405.set x408 x409),(v406+1)) hm O
        ·refine gX ?_
         exact jx v405 hm O
       ·clear hm;rintro v402 base h hm O
        conv=>whnf
        refine jn hm 189 [0,4,5] (fun s=>s) (fun v411 h=>Own vars h0 [((some g399),.cells (flatC (v411.map n8)) false),((some g273),.cells [(.func (.func 113) ⟨[]⟩ ⟨[(FP (encFlt p1))]⟩)] false),((some g397),.cells [(.slice none 0 0),(.slice none 0 0)] false),((some g1),.cells [((encL 1 n8) r6.1.out),((encL 1 n8) r6.1.next)] false),((some g3),.cells [(.slice none 0 0),(.slice none 0 0)] false),((some g275),.cells [((encL 4 encNode) p0.nodes),((encL 1 Value.string) p0.names),((encL 3 encMem) p0.mems),((encL 1 i64) p0.outs),(.slice (some ⟨g399,0,none⟩) p0.nodes.length p0.nodes.length),(.func (.func 134) ⟨[]⟩ ⟨[]⟩),(.func (.func 136) ⟨[]⟩ ⟨[(FP (encLnZ p1.line)),(.pointer (some ⟨g273,0,none⟩))]⟩)] true)] h) (fun v411=>[]) (fun hm=>?_) ?_
        ·refine gX ?_
         refine lw 189 [0,3,4,5,60,61] (σ:=((List Nat)×Nat)) (fun s=>s) (fun (v413,v414) h=>Own vars h0 [((some g399),.cells (flatC (v413.map n8)) false),((some g273),.cells [(.func (.func 113) ⟨[]⟩ ⟨[(FP (encFlt p1))]⟩)] false),((some g397),.cells [(.slice none 0 0),(.slice none 0 0)] false),((some g1),.cells [((encL 1 n8) r6.1.out),((encL 1 n8) r6.1.next)] false),((some g3),.cells [(.slice none 0 0),(.slice none 0 0)] false),((some g275),.cells [((encL 4 encNode) p0.nodes),((encL 1 Value.string) p0.names),((encL 3 encMem) p0.mems),((encL 1 i64) p0.outs),(.slice (some ⟨g399,0,none⟩) p0.nodes.length p0.nodes.length),(.func (.func 134) ⟨[]⟩ ⟨[]⟩),(.func (.func 136) ⟨[]⟩ ⟨[(FP (encLnZ p1.line)),(.pointer (some ⟨g273,0,none⟩))]⟩)] true)] h) (fun (v413,v414)=>[(62,(i64 v414))]) (v402,0) hm O ?_
         clear hm;rintro⟨v413,v414⟩ nx415 base h hm O
         refine gX ?_
         refine br hm (fun hm=>?_) fun hm=>?_
         ·refine gX ?_
          refine atF hm fun x416 hx416 hm=>?_;refine gX ?_
          first|refine⟨.inr (.inr (rfl)),?_⟩|refine⟨.inr (.inl (by kernel_rfl)),?_⟩
          refine gX ?_
          first|refine⟨.inr (.inr (rfl)),?_⟩|refine⟨.inr (.inl (by kernel_rfl)),?_⟩
          refine gX ?_
          refine atF hm fun x417 hx417 hm=>?_;refine gH ?_
          refine ix 1 hm fun x418 hx418 hm=>?_;refine gH ?_
          refine O.stE 1 (.head _) hx418 x417 fun h O=>?_;refine gH ?_
          (first|refine⟨.inr (.inr (loadK rfl (O.at (.head _)) rfl rfl)),?_⟩|refine⟨.inr (.inr (loadK rfl (O.at (.tail _ (.head _))) rfl rfl)),?_⟩|refine⟨.inr (.inr (loadK rfl (O.at (.tail _ (.tail _ (.head _)))) rfl rfl)),?_⟩|refine⟨.inr (.inr (loadK rfl (O.at (.tail _ (.tail _ (.tail _ (.head _))))) rfl rfl)),?_⟩|refine⟨.inr (.inr (loadK rfl (O.at (.tail _ (.tail _ (.tail _ (.tail _ (.head _)))))) rfl rfl)),?_⟩|refine⟨.inr (.inr (loadK rfl (O.at (.tail _ (.tail _ (.tail _ (.tail _ (.tail _ (.head _))))))) rfl rfl)),?_⟩|refine⟨.inr (.inr (loadK rfl (O.at (.tail _ (.tail _ (.tail _ (.tail _ (.tail _ (.tail _ (.head _)))))))) rfl rfl)),?_⟩|refine⟨.inl (Ext.refl _),?_⟩|refine⟨.inr (.inr rfl),?_⟩|refine⟨.inr (by kernel_rfl),?_⟩|refine⟨.inl (by kernel_rfl),?_⟩|refine id ?_);refine gH ?_
          refine gX ?_
          refine aAdd hm fun hm=>?_;refine gH ?_
          exact jx ((v413.set x416 x417),(v414+1)) hm O
         ·refine gX ?_
          exact jx v413 hm O
        ·clear hm;rintro v411 base h hm O
         refine gX ?_
         refine ca (netlists_Order_walk hm O.has) fun r419 hm=>?_;refine gH ?_
         apply Cs;conv=>whnf
         apply Cs;refine gH ?_
         refine jn hm 189 [0,4,5] (fun s=>s) (fun v420 h=>Own vars h0 [((some g399),.cells (flatC (v420.map n8)) false),((some g273),.cells [(.func (.func 113) ⟨[]⟩ ⟨[(FP (encFlt p1))]⟩)] false),((some g397),.cells [(.slice none 0 0),(.slice none 0 0)] false),((some g1),.cells [((encL 1 n8) r6.1.out),((encL 1 n8) r6.1.next)] false),((some g3),.cells [(.slice none 0 0),(.slice none 0 0)] false),((some g275),.cells [((encL 4 encNode) p0.nodes),((encL 1 Value.string) p0.names),((encL 3 encMem) p0.mems),((encL 1 i64) p0.outs),(.slice (some ⟨g399,0,none⟩) p0.nodes.length p0.nodes.length),(.func (.func 134) ⟨[]⟩ ⟨[]⟩),(.func (.func 136) ⟨[]⟩ ⟨[(FP (encLnZ p1.line)),(.pointer (some ⟨g273,0,none⟩))]⟩)] true)] h) (fun v420=>[]) (fun hm=>?_) ?_
         ·refine gX ?_
          refine lw 189 [0,4,5,12,89,90] (σ:=((List Nat)×Nat)) (fun s=>s) (fun (v422,v423) h=>Own vars h0 [((some g399),.cells (flatC (v422.map n8)) false),((some g273),.cells [(.func (.func 113) ⟨[]⟩ ⟨[(FP (encFlt p1))]⟩)] false),((some g397),.cells [(.slice none 0 0),(.slice none 0 0)] false),((some g1),.cells [((encL 1 n8) r6.1.out),((encL 1 n8) r6.1.next)] false),((some g3),.cells [(.slice none 0 0),(.slice none 0 0)] false),((some g275),.cells [((encL 4 encNode) p0.nodes),((encL 1 Value.string) p0.names),((encL 3 encMem) p0.mems),((encL 1 i64) p0.outs),(.slice (some ⟨g399,0,none⟩) p0.nodes.length p0.nodes.length),(.func (.func 134) ⟨[]⟩ ⟨[]⟩),(.func (.func 136) ⟨[]⟩ ⟨[(FP (encLnZ p1.line)),(.pointer (some ⟨g273,0,none⟩))]⟩)] true)] h) (fun (v422,v423)=>[(91,(i64 v423))]) (v411,0) hm O ?_
          clear hm;rintro⟨v422,v423⟩ nx424 base h hm O
          refine gX ?_
          refine br hm (fun hm=>?_) fun hm=>?_
          ·refine gX ?_
           refine atF hm fun x425 hx425 hm=>?_;refine gH ?_
           refine jn hm 189 [0,4,5,12,14,89,90,91] (fun s=>s) (fun v426 h=>Own vars h0 [((some g399),.cells (flatC (v426.map n8)) false),((some g273),.cells [(.func (.func 113) ⟨[]⟩ ⟨[(FP (encFlt p1))]⟩)] false),((some g397),.cells [(.slice none 0 0),(.slice none 0 0)] false),((some g1),.cells [((encL 1 n8) r6.1.out),((encL 1 n8) r6.1.next)] false),((some g3),.cells [(.slice none 0 0),(.slice none 0 0)] false),((some g275),.cells [((encL 4 encNode) p0.nodes),((encL 1 Value.string) p0.names),((encL 3 encMem) p0.mems),((encL 1 i64) p0.outs),(.slice (some ⟨g399,0,none⟩) p0.nodes.length p0.nodes.length),(.func (.func 134) ⟨[]⟩ ⟨[]⟩),(.func (.func 136) ⟨[]⟩ ⟨[(FP (encLnZ p1.line)),(.pointer (some ⟨g273,0,none⟩))]⟩)] true)] h) (fun v426=>[]) (fun hm=>?_) ?_
           ·refine gX ?_
            refine atF hm fun x428 hx428 hm=>?_;refine gH ?_
            refine jn hm 189 [0,4,5,12,14,89,90,91] (fun s=>s) (fun v429 h=>Own vars h0 [((some g399),.cells (flatC (v422.map n8)) false),((some g273),.cells [(.func (.func 113) ⟨[]⟩ ⟨[(FP (encFlt p1))]⟩)] false),((some g397),.cells [(.slice none 0 0),(.slice none 0 0)] false),((some g1),.cells [((encL 1 n8) r6.1.out),((encL 1 n8) r6.1.next)] false),((some g3),.cells [(.slice none 0 0),(.slice none 0 0)] false),((some g275),.cells [((encL 4 encNode) p0.nodes),((encL 1 Value.string) p0.names),((encL 3 encMem) p0.mems),((encL 1 i64) p0.outs),(.slice (some ⟨g399,0,none⟩) p0.nodes.length p0.nodes.length),(.func (.func 134) ⟨[]⟩ ⟨[]⟩),(.func (.func 136) ⟨[]⟩ ⟨[(FP (encLnZ p1.line)),(.pointer (some ⟨g273,0,none⟩))]⟩)] true)] h) (fun v429=>[(109,(.bool v429))]) (fun hm=>?_) ?_
            ·refine gX ?_
             refine br hm (fun hm=>?_) fun hm=>?_
             ·refine gX ?_
              exact jx (neN x428.kind 14) hm O
             ·refine gX ?_
              exact jx false hm O
            ·clear hm;rintro v429 base h hm O
             refine gX ?_
             refine br hm (fun hm=>?_) fun hm=>?_
             ·refine CodeS.drawF ?_;refine gH ?_
              refine fg Tryz.func114 ?_;conv=>whnf
              apply Cs;conv=>whnf
              apply Cs;refine gH ?_
              apply Cs;conv=>whnf
              refine CodeS.drawF ?_;refine gH ?_
              refine atF hm fun x431 hx431 hm=>?_;refine gH ?_
              refine fg Tryz.func115 ?_;conv=>whnf
              apply Cs;conv=>whnf
              apply Cs;refine gH ?_
              have O:=O.addNil (.cells (flatC ((([]:List Nat)).map n8)) false)
              apply Cs;conv=>whnf
              apply Cs;refine gH ?_
              have O:=O.addNil (.cells (flatC ((([]:List Nat)).map n8)) false)
              refine jn (σ:=(List Nat)×Option Nat) hm 42 [] (fun s=>s.1) (fun (v435,a434) h=>(a434=none->v435=[])/\Own vars h0 [(a434,.cells (flatC (v435.map n8)) false),((some g1),.cells [((encL 1 n8) r6.1.out),((encL 1 n8) r6.1.next)] false),((some g3),.cells [(.slice none 0 0),(.slice none 0 0)] false),((some g275),.cells [((encL 4 encNode) p0.nodes),((encL 1 Value.string) p0.names),((encL 3 encMem) p0.mems),((encL 1 i64) p0.outs),(.slice (some ⟨g399,0,none⟩) p0.nodes.length p0.nodes.length),(.func (.func 134) ⟨[]⟩ ⟨[]⟩),(.func (.func 136) ⟨[]⟩ ⟨[(FP (encLnZ p1.line)),(.pointer (some ⟨g273,0,none⟩))]⟩)] true),((some g399),.cells (flatC (v422.map n8)) false),((some g273),.cells [(.func (.func 113) ⟨[]⟩ ⟨[(FP (encFlt p1))]⟩)] false),((some g397),.cells [(.slice none 0 0),(.slice none 0 0)] false)] h) (fun (v435,a434)=>[(5,(growV 1 a434 (v435.map n8)))]) (fun hm=>?_) ?_
              ·refine gX ?_
               refine atF hm fun x438 hx438 hm=>?_;refine gX ?_
               refine lw 42 [0,1,16,17] (σ:=((List Nat)×Nat)×Option Nat) (fun s=>s.1) (fun ((v440,v441),a439) h=>(a439=none->v440=[])/\Own vars h0 [((some g399),.cells (flatC (v422.map n8)) false),((some g273),.cells [(.func (.func 113) ⟨[]⟩ ⟨[(FP (encFlt p1))]⟩)] false),(a439,.cells (flatC (v440.map n8)) false),((some g1),.cells [((encL 1 n8) r6.1.out),((encL 1 n8) r6.1.next)] false),((some g3),.cells [(.slice none 0 0),(.slice none 0 0)] false),((some g275),.cells [((encL 4 encNode) p0.nodes),((encL 1 Value.string) p0.names),((encL 3 encMem) p0.mems),((encL 1 i64) p0.outs),(.slice (some ⟨g399,0,none⟩) p0.nodes.length p0.nodes.length),(.func (.func 134) ⟨[]⟩ ⟨[]⟩),(.func (.func 136) ⟨[]⟩ ⟨[(FP (encLnZ p1.line)),(.pointer (some ⟨g273,0,none⟩))]⟩)] true),((some g397),.cells [(.slice none 0 0),(.slice none 0 0)] false)] h) (fun ((v440,v441),a439)=>[(5,(growV 1 a439 (v440.map n8))),(18,(i64 v441))]) ((([]:List Nat),0),none) hm ⟨(fun _=>rfl),(O.sel [2,3,0,5,6,7,4] (by decide))⟩ ?_
               clear hm;rintro⟨⟨v440,v441⟩,a439⟩ nx443 base h hm ⟨ha442,O⟩
               refine gX ?_
               refine br hm (fun hm=>?_) fun hm=>?_
               ·refine gX ?_
                refine atF hm fun x444 hx444 hm=>?_;refine gX ?_
                first|refine⟨.inr (.inr (rfl)),?_⟩|refine⟨.inr (.inl (by kernel_rfl)),?_⟩
                refine gX ?_
                first|refine⟨.inr (.inr (rfl)),?_⟩|refine⟨.inr (.inl (by kernel_rfl)),?_⟩
                refine gX ?_
                refine ix 1 hm fun x445 hx445 hm=>?_;refine gH ?_
                refine⟨_,loadK rfl (O.at (.head _)) rfl (cell_map (enc:=n8) (s:=1) (k:=0) (fun _=>rfl) hx445 rfl),?_⟩;refine gH ?_
                refine fg Tryz.func136 ?_;conv=>whnf
                apply Cs;conv=>whnf
                apply Cs;refine gH ?_
                apply Cs;conv=>whnf
                refine jn hm 23 [2,4] (fun s=>s) (fun v446 h=>(a439=none->v440=[])/\Own vars h0 [((some g273),.cells [(.func (.func 113) ⟨[]⟩ ⟨[(FP (encFlt p1))]⟩)] false),((some g1),.cells [((encL 1 n8) r6.1.out),((encL 1 n8) r6.1.next)] false),((some g3),.cells [(.slice none 0 0),(.slice none 0 0)] false),((some g275),.cells [((encL 4 encNode) p0.nodes),((encL 1 Value.string) p0.names),((encL 3 encMem) p0.mems),((encL 1 i64) p0.outs),(.slice (some ⟨g399,0,none⟩) p0.nodes.length p0.nodes.length),(.func (.func 134) ⟨[]⟩ ⟨[]⟩),(.func (.func 136) ⟨[]⟩ ⟨[(FP (encLnZ p1.line)),(.pointer (some ⟨g273,0,none⟩))]⟩)] true),((some g399),.cells (flatC (v422.map n8)) false),((some g397),.cells [(.slice none 0 0),(.slice none 0 0)] false),(a439,.cells (flatC (v440.map n8)) false)] h) (fun v446=>[(18,(.bool v446))]) (fun hm=>?_) ?_
                ·refine gX ?_
                 refine br hm (fun hm=>?_) fun hm=>?_
                 ·refine gX ?_
                  exact jx (eqZ (Int.ofNat v441) p1.line.pin) hm ⟨ha442,(O.sel [1,3,4,5,0,6,2] (by decide))⟩
                 ·refine gX ?_
                  exact jx false hm ⟨ha442,(O.sel [1,3,4,5,0,6,2] (by decide))⟩
                ·clear hm;rintro v446 base h hm ⟨ha447,O⟩
                 refine gX ?_
                 refine br hm (fun hm=>?_) fun hm=>?_
                 ·refine gX ?_
                  refine fg Tryz.func113 ?_;refine gX ?_
                  (first|refine⟨.inr (.inr (loadK rfl (O.at (.head _)) rfl rfl)),?_⟩|refine⟨.inr (.inr (loadK rfl (O.at (.tail _ (.head _))) rfl rfl)),?_⟩|refine⟨.inr (.inr (loadK rfl (O.at (.tail _ (.tail _ (.head _)))) rfl rfl)),?_⟩|refine⟨.inr (.inr (loadK rfl (O.at (.tail _ (.tail _ (.tail _ (.head _))))) rfl rfl)),?_⟩|refine⟨.inr (.inr (loadK rfl (O.at (.tail _ (.tail _ (.tail _ (.tail _ (.head _)))))) rfl rfl)),?_⟩|refine⟨.inr (.inr (loadK rfl (O.at (.tail _ (.tail _ (.tail _ (.tail _ (.tail _ (.head _))))))) rfl rfl)),?_⟩|refine⟨.inr (.inr (loadK rfl (O.at (.tail _ (.tail _ (.tail _ (.tail _ (.tail _ (.tail _ (.head _)))))))) rfl rfl)),?_⟩|refine⟨.inl (Ext.refl _),?_⟩|refine⟨.inr (.inr rfl),?_⟩|refine⟨.inr (by kernel_rfl),?_⟩|refine⟨.inl (by kernel_rfl),?_⟩|refine id ?_);refine gH ?_
                  refine O.buildLX (l:=([p1.value]:(List Nat))) (enc:=n8) (s:=1) (z:=(n8 0)) rfl rfl (by kernel_rfl) (by kernel_rfl) rfl rfl rfl rfl (fun _=>rfl) fun g449 h O=>?_;refine gH ?_
                  refine O.appendL (enc:=n8) (l:=v440) (new:=([p1.value]:(List Nat))) (s:=1) (b:=1) (.tail _ (.tail _ (.tail _ (.tail _ (.tail _ (.tail _ (.tail _ (.head _)))))))) ha447 rfl rfl rfl rfl rfl rfl rfl rfl (YOk.own (O.at (.head _)) rfl (fun _=>rfl) rfl) (fun _=>rfl) (fun _=>rfl) (by decide) hm.1 fun a451 h ha452 O=>?_;refine gH ?_
                  (first|refine⟨.inr (.inr (loadK rfl (O.at (.head _)) rfl rfl)),?_⟩|refine⟨.inr (.inr (loadK rfl (O.at (.tail _ (.head _))) rfl rfl)),?_⟩|refine⟨.inr (.inr (loadK rfl (O.at (.tail _ (.tail _ (.head _)))) rfl rfl)),?_⟩|refine⟨.inr (.inr (loadK rfl (O.at (.tail _ (.tail _ (.tail _ (.head _))))) rfl rfl)),?_⟩|refine⟨.inr (.inr (loadK rfl (O.at (.tail _ (.tail _ (.tail _ (.tail _ (.head _)))))) rfl rfl)),?_⟩|refine⟨.inr (.inr (loadK rfl (O.at (.tail _ (.tail _ (.tail _ (.tail _ (.tail _ (.head _))))))) rfl rfl)),?_⟩|refine⟨.inr (.inr (loadK rfl (O.at (.tail _ (.tail _ (.tail _ (.tail _ (.tail _ (.tail _ (.head _)))))))) rfl rfl)),?_⟩|refine⟨.inl (Ext.refl _),?_⟩|refine⟨.inr (.inr rfl),?_⟩|refine⟨.inr (by kernel_rfl),?_⟩|refine⟨.inl (by kernel_rfl),?_⟩|refine id ?_);refine gH ?_
                  replace hm:=hm.2
                  refine gX ?_
                  refine aAdd hm fun hm=>?_;refine gH ?_
                  exact jx (((v440++([p1.value]:(List Nat))),(v441+1)),a451) hm ⟨ha452,(O.sel [5,1,7,2,3,4,6] (by decide))⟩
                 ·refine gX ?_
                  (first|refine⟨.inr (.inr (loadK rfl (O.at (.head _)) rfl rfl)),?_⟩|refine⟨.inr (.inr (loadK rfl (O.at (.tail _ (.head _))) rfl rfl)),?_⟩|refine⟨.inr (.inr (loadK rfl (O.at (.tail _ (.tail _ (.head _)))) rfl rfl)),?_⟩|refine⟨.inr (.inr (loadK rfl (O.at (.tail _ (.tail _ (.tail _ (.head _))))) rfl rfl)),?_⟩|refine⟨.inr (.inr (loadK rfl (O.at (.tail _ (.tail _ (.tail _ (.tail _ (.head _)))))) rfl rfl)),?_⟩|refine⟨.inr (.inr (loadK rfl (O.at (.tail _ (.tail _ (.tail _ (.tail _ (.tail _ (.head _))))))) rfl rfl)),?_⟩|refine⟨.inr (.inr (loadK rfl (O.at (.tail _ (.tail _ (.tail _ (.tail _ (.tail _ (.tail _ (.head _)))))))) rfl rfl)),?_⟩|refine⟨.inl (Ext.refl _),?_⟩|refine⟨.inr (.inr rfl),?_⟩|refine⟨.inr (by kernel_rfl),?_⟩|refine⟨.inl (by kernel_rfl),?_⟩|refine id ?_);refine gH ?_
                  refine O.buildLX (l:=([x445]:(List Nat))) (enc:=n8) (s:=1) (z:=(n8 0)) rfl rfl (by kernel_rfl) (by kernel_rfl) rfl rfl rfl rfl (fun _=>rfl) fun g453 h O=>?_;refine gH ?_
                  refine O.appendL (enc:=n8) (l:=v440) (new:=([x445]:(List Nat))) (s:=1) (b:=1) (.tail _ (.tail _ (.tail _ (.tail _ (.tail _ (.tail _ (.tail _ (.head _)))))))) ha447 rfl rfl rfl rfl rfl rfl rfl rfl (YOk.own (O.at (.head _)) rfl (fun _=>rfl) rfl) (fun _=>rfl) (fun _=>rfl) (by decide) hm.1 fun a455 h ha456 O=>?_;refine gH ?_
                  (first|refine⟨.inr (.inr (loadK rfl (O.at (.head _)) rfl rfl)),?_⟩|refine⟨.inr (.inr (loadK rfl (O.at (.tail _ (.head _))) rfl rfl)),?_⟩|refine⟨.inr (.inr (loadK rfl (O.at (.tail _ (.tail _ (.head _)))) rfl rfl)),?_⟩|refine⟨.inr (.inr (loadK rfl (O.at (.tail _ (.tail _ (.tail _ (.head _))))) rfl rfl)),?_⟩|refine⟨.inr (.inr (loadK rfl (O.at (.tail _ (.tail _ (.tail _ (.tail _ (.head _)))))) rfl rfl)),?_⟩|refine⟨.inr (.inr (loadK rfl (O.at (.tail _ (.tail _ (.tail _ (.tail _ (.tail _ (.head _))))))) rfl rfl)),?_⟩|refine⟨.inr (.inr (loadK rfl (O.at (.tail _ (.tail _ (.tail _ (.tail _ (.tail _ (.tail _ (.head _)))))))) rfl rfl)),?_⟩|refine⟨.inl (Ext.refl _),?_⟩|refine⟨.inr (.inr rfl),?_⟩|refine⟨.inr (by kernel_rfl),?_⟩|refine⟨.inl (by kernel_rfl),?_⟩|refine id ?_);refine gH ?_
                  replace hm:=hm.2
                  refine gX ?_
                  refine aAdd hm fun hm=>?_;refine gH ?_
                  exact jx (((v440++([x445]:(List Nat))),(v441+1)),a455) hm ⟨ha456,(O.sel [5,1,7,2,3,4,6] (by decide))⟩
               ·refine gX ?_
                exact jx (v440,a439) hm ⟨ha442,(O.sel [2,3,4,5,0,1,6] (by decide))⟩
              ·clear hm;rintro⟨v435,a434⟩ base h hm ⟨ha436,O⟩
               refine gX ?_
               refine CallD.useB (fun _ hb=>logic_Eval_walk hm hb) (fun _=>flatB_ok rfl) fzVars O.has (fun h2 F=>(LLe.cons (VLe.refl _ _) (LLe.cons (O.grownL F (Nat.zero_le _) (.head _) ha436 (fun _=>rfl)) (LLe.nil _)))) (by kernel_rfl) (fun r457 hm'=>?_);replace hm:=hm';refine gX ?_
               refine ix 1 hm fun x458 hx458 hm=>?_;refine gH ?_
               refine O.stE 1 (.tail _ (.tail _ (.tail _ (.tail _ (.head _))))) hx458 r457 fun h O=>?_;refine gH ?_
               exact jx (v422.set x425 r457) hm (O.sel [4,5,6,1,2,3] (by decide))
             ·refine gX ?_
              exact jx v422 hm O
           ·clear hm;rintro v426 base h hm O
            refine gX ?_
            first|refine⟨.inr (.inr (rfl)),?_⟩|refine⟨.inr (.inl (by kernel_rfl)),?_⟩
            refine gX ?_
            first|refine⟨.inr (.inr (rfl)),?_⟩|refine⟨.inr (.inl (by kernel_rfl)),?_⟩
            refine gX ?_
            first|refine⟨.inr (.inr (rfl)),?_⟩|refine⟨.inr (.inl (by kernel_rfl)),?_⟩
            refine gX ?_
            refine ix 1 hm fun x459 hx459 hm=>?_;refine gH ?_
            refine⟨_,loadK rfl (O.at (.head _)) rfl (cell_map (enc:=n8) (s:=1) (k:=0) (fun _=>rfl) hx459 rfl),?_⟩;refine gH ?_
            refine fg Tryz.func134 ?_;refine gX ?_
            (first|refine⟨.inr (.inr (loadK rfl (O.at (.head _)) rfl rfl)),?_⟩|refine⟨.inr (.inr (loadK rfl (O.at (.tail _ (.head _))) rfl rfl)),?_⟩|refine⟨.inr (.inr (loadK rfl (O.at (.tail _ (.tail _ (.head _)))) rfl rfl)),?_⟩|refine⟨.inr (.inr (loadK rfl (O.at (.tail _ (.tail _ (.tail _ (.head _))))) rfl rfl)),?_⟩|refine⟨.inr (.inr (loadK rfl (O.at (.tail _ (.tail _ (.tail _ (.tail _ (.head _)))))) rfl rfl)),?_⟩|refine⟨.inr (.inr (loadK rfl (O.at (.tail _ (.tail _ (.tail _ (.tail _ (.tail _ (.head _))))))) rfl rfl)),?_⟩|refine⟨.inr (.inr (loadK rfl (O.at (.tail _ (.tail _ (.tail _ (.tail _ (.tail _ (.tail _ (.head _)))))))) rfl rfl)),?_⟩|refine⟨.inl (Ext.refl _),?_⟩|refine⟨.inr (.inr rfl),?_⟩|refine⟨.inr (by kernel_rfl),?_⟩|refine⟨.inl (by kernel_rfl),?_⟩|refine id ?_);refine gH ?_
            refine ix 1 hm fun x460 hx460 hm=>?_;refine gH ?_
            refine O.stE 1 (.head _) hx460 x459 fun h O=>?_;refine gH ?_
            (first|refine⟨.inr (.inr (loadK rfl (O.at (.head _)) rfl rfl)),?_⟩|refine⟨.inr (.inr (loadK rfl (O.at (.tail _ (.head _))) rfl rfl)),?_⟩|refine⟨.inr (.inr (loadK rfl (O.at (.tail _ (.tail _ (.head _)))) rfl rfl)),?_⟩|refine⟨.inr (.inr (loadK rfl (O.at (.tail _ (.tail _ (.tail _ (.head _))))) rfl rfl)),?_⟩|refine⟨.inr (.inr (loadK rfl (O.at (.tail _ (.tail _ (.tail _ (.tail _ (.head _)))))) rfl rfl)),?_⟩|refine⟨.inr (.inr (loadK rfl (O.at (.tail _ (.tail _ (.tail _ (.tail _ (.tail _ (.head _))))))) rfl rfl)),?_⟩|refine⟨.inr (.inr (loadK rfl (O.at (.tail _ (.tail _ (.tail _ (.tail _ (.tail _ (.tail _ (.head _)))))))) rfl rfl)),?_⟩|refine⟨.inl (Ext.refl _),?_⟩|refine⟨.inr (.inr rfl),?_⟩|refine⟨.inr (by kernel_rfl),?_⟩|refine⟨.inl (by kernel_rfl),?_⟩|refine id ?_);refine gH ?_
            refine gX ?_
            refine aAdd hm fun hm=>?_;refine gH ?_
            exact jx ((v426.set x425 x459),(v423+1)) hm O
          ·refine gX ?_
           exact jx v422 hm O
         ·clear hm;rintro v420 base h hm O
          refine gX ?_
          have O:=O.addNil (.cells (flatC ((([]:List Nat)).map n8)) false)
          have O:=O.addNil (.cells (flatC ((([]:List Nat)).map n8)) false)
          (first|refine O.new (anew_alloc (l:=[(.slice none 0 0),(.slice none 0 0)]) rfl rfl rfl) fun g461 h O=>?_|refine O.newX (anew_alloc (l:=[(.slice none 0 0),(.slice none 0 0)]) rfl rfl rfl) fun g461 h O=>?_);refine gH ?_
          refine jn (σ:=(List Nat)×Option Nat) hm 189 [0,4,5,16] (fun s=>s.1) (fun (v466,a465) h=>(a465=none->v466=[])/\Own vars h0 [((some g399),.cells (flatC (v420.map n8)) false),((some g273),.cells [(.func (.func 113) ⟨[]⟩ ⟨[(FP (encFlt p1))]⟩)] false),((some g397),.cells [(.slice none 0 0),(.slice none 0 0)] false),((some g461),.cells [(growV 1 a465 (v466.map n8)),(growV 1 none (([]:List Nat).map n8))] false),(a465,.cells (flatC (v466.map n8)) false),(none,.cells (flatC (([]:List Nat).map n8)) false),((some g1),.cells [((encL 1 n8) r6.1.out),((encL 1 n8) r6.1.next)] false),((some g3),.cells [(.slice none 0 0),(.slice none 0 0)] false),((some g275),.cells [((encL 4 encNode) p0.nodes),((encL 1 Value.string) p0.names),((encL 3 encMem) p0.mems),((encL 1 i64) p0.outs),(.slice (some ⟨g399,0,none⟩) p0.nodes.length p0.nodes.length),(.func (.func 134) ⟨[]⟩ ⟨[]⟩),(.func (.func 136) ⟨[]⟩ ⟨[(FP (encLnZ p1.line)),(.pointer (some ⟨g273,0,none⟩))]⟩)] true)] h) (fun (v466,a465)=>[]) (fun hm=>?_) ?_
          ·refine gX ?_
           refine lw 189 [0,4,5,16,143,144] (σ:=((List Nat)×Nat)×Option Nat) (fun s=>s.1) (fun ((v470,v471),a469) h=>(a469=none->v470=[])/\Own vars h0 [((some g399),.cells (flatC (v420.map n8)) false),((some g273),.cells [(.func (.func 113) ⟨[]⟩ ⟨[(FP (encFlt p1))]⟩)] false),((some g397),.cells [(.slice none 0 0),(.slice none 0 0)] false),((some g461),.cells [(growV 1 a469 (v470.map n8)),(growV 1 none (([]:List Nat).map n8))] false),(a469,.cells (flatC (v470.map n8)) false),(none,.cells (flatC (([]:List Nat).map n8)) false),((some g1),.cells [((encL 1 n8) r6.1.out),((encL 1 n8) r6.1.next)] false),((some g3),.cells [(.slice none 0 0),(.slice none 0 0)] false),((some g275),.cells [((encL 4 encNode) p0.nodes),((encL 1 Value.string) p0.names),((encL 3 encMem) p0.mems),((encL 1 i64) p0.outs),(.slice (some ⟨g399,0,none⟩) p0.nodes.length p0.nodes.length),(.func (.func 134) ⟨[]⟩ ⟨[]⟩),(.func (.func 136) ⟨[]⟩ ⟨[(FP (encLnZ p1.line)),(.pointer (some ⟨g273,0,none⟩))]⟩)] true)] h) (fun ((v470,v471),a469)=>[(145,(i64 v471))]) ((([]:List Nat),0),none) hm ⟨(fun _=>rfl),(O.sel [3,4,5,0,2,1,6,7,8] (by decide))⟩ ?_
           clear hm;rintro⟨⟨v470,v471⟩,a469⟩ nx473 base h hm ⟨ha472,O⟩
           refine gX ?_
           refine br hm (fun hm=>?_) fun hm=>?_
           ·refine gX ?_
            refine atF hm fun x474 hx474 hm=>?_;refine gX ?_
            refine ldO (O.at (.tail _ (.tail _ (.tail _ (.head _))))) ?_;refine gH ?_
            first|refine⟨.inr (.inr (loadK rfl (O.at (.tail _ (.tail _ (.tail _ (.head _))))) rfl rfl)),?_⟩|refine⟨.inr (.inl (by kernel_rfl)),?_⟩
            refine gX ?_
            first|refine⟨.inr (.inr (rfl)),?_⟩|refine⟨.inr (.inl (by kernel_rfl)),?_⟩
            refine gX ?_
            refine ix 1 hm fun x475 hx475 hm=>?_;refine gH ?_
            refine⟨_,loadK rfl (O.at (.head _)) rfl (cell_map (enc:=n8) (s:=1) (k:=0) (fun _=>rfl) hx475 rfl),?_⟩;refine gH ?_
            refine O.buildLX (l:=([x475]:(List Nat))) (enc:=n8) (s:=1) (z:=(n8 0)) rfl rfl (by kernel_rfl) (by kernel_rfl) rfl rfl rfl rfl (fun _=>rfl) fun g476 h O=>?_;refine gH ?_
            refine O.appendL (enc:=n8) (l:=v470) (new:=([x475]:(List Nat))) (s:=1) (b:=1) (.tail _ (.tail _ (.tail _ (.tail _ (.tail _ (.head _)))))) ha472 rfl rfl rfl rfl rfl rfl rfl rfl (YOk.own (O.at (.head _)) rfl (fun _=>rfl) rfl) (fun _=>rfl) (fun _=>rfl) (by decide) hm.1 fun a478 h ha479 O=>?_;refine gH ?_
            (first|refine⟨.inr (.inr (loadK rfl (O.at (.head _)) rfl rfl)),?_⟩|refine⟨.inr (.inr (loadK rfl (O.at (.tail _ (.head _))) rfl rfl)),?_⟩|refine⟨.inr (.inr (loadK rfl (O.at (.tail _ (.tail _ (.head _)))) rfl rfl)),?_⟩|refine⟨.inr (.inr (loadK rfl (O.at (.tail _ (.tail _ (.tail _ (.head _))))) rfl rfl)),?_⟩|refine⟨.inr (.inr (loadK rfl (O.at (.tail _ (.tail _ (.tail _ (.tail _ (.head _)))))) rfl rfl)),?_⟩|refine⟨.inr (.inr (loadK rfl (O.at (.tail _ (.tail _ (.tail _ (.tail _ (.tail _ (.head _))))))) rfl rfl)),?_⟩|refine⟨.inr (.inr (loadK rfl (O.at (.tail _ (.tail _ (.tail _ (.tail _ (.tail _ (.tail _ (.head _)))))))) rfl rfl)),?_⟩|refine⟨.inl (Ext.refl _),?_⟩|refine⟨.inr (.inr rfl),?_⟩|refine⟨.inr (by kernel_rfl),?_⟩|refine⟨.inl (by kernel_rfl),?_⟩|refine id ?_);refine gH ?_
            replace hm:=hm.2
            refine O.stC 1 (.tail _ (.tail _ (.tail _ (.tail _ (.head _))))) [(growV 1 a478 ((v470++([x475]:(List Nat))).map n8)),(growV 1 none (([]:List Nat).map n8))] fun h O=>?_;refine gH ?_
            (first|refine⟨.inr (.inr (loadK rfl (O.at (.head _)) rfl rfl)),?_⟩|refine⟨.inr (.inr (loadK rfl (O.at (.tail _ (.head _))) rfl rfl)),?_⟩|refine⟨.inr (.inr (loadK rfl (O.at (.tail _ (.tail _ (.head _)))) rfl rfl)),?_⟩|refine⟨.inr (.inr (loadK rfl (O.at (.tail _ (.tail _ (.tail _ (.head _))))) rfl rfl)),?_⟩|refine⟨.inr (.inr (loadK rfl (O.at (.tail _ (.tail _ (.tail _ (.tail _ (.head _)))))) rfl rfl)),?_⟩|refine⟨.inr (.inr (loadK rfl (O.at (.tail _ (.tail _ (.tail _ (.tail _ (.tail _ (.head _))))))) rfl rfl)),?_⟩|refine⟨.inr (.inr (loadK rfl (O.at (.tail _ (.tail _ (.tail _ (.tail _ (.tail _ (.tail _ (.head _)))))))) rfl rfl)),?_⟩|refine⟨.inl (Ext.refl _),?_⟩|refine⟨.inr (.inr rfl),?_⟩|refine⟨.inr (by kernel_rfl),?_⟩|refine⟨.inl (by kernel_rfl),?_⟩|refine id ?_);refine gH ?_
            refine gX ?_
            refine aAdd hm fun hm=>?_;refine gH ?_
            exact jx (((v470++([x475]:(List Nat))),(v471+1)),a478) hm ⟨ha479,(O.sel [1,2,3,4,5,6,7,8,9] (by decide))⟩
           ·refine gX ?_
            exact jx (v470,a469) hm ⟨ha472,O⟩
          ·clear hm;rintro⟨v466,a465⟩ base h hm ⟨ha467,O⟩
           conv=>whnf
           refine jn (σ:=(List Nat)×Option Nat) hm 189 [4,16] (fun s=>s.1) (fun (v481,a480) h=>(a465=none->v466=[])/\(a480=none->v481=[])/\Own vars h0 [((some g397),.cells [(.slice none 0 0),(.slice none 0 0)] false),((some g461),.cells [(growV 1 a465 (v466.map n8)),(growV 1 a480 (v481.map n8))] false),(a465,.cells (flatC (v466.map n8)) false),(a480,.cells (flatC (v481.map n8)) false),((some g1),.cells [((encL 1 n8) r6.1.out),((encL 1 n8) r6.1.next)] false),((some g3),.cells [(.slice none 0 0),(.slice none 0 0)] false),((some g275),.cells [((encL 4 encNode) p0.nodes),((encL 1 Value.string) p0.names),((encL 3 encMem) p0.mems),((encL 1 i64) p0.outs),(.slice (some ⟨g399,0,none⟩) p0.nodes.length p0.nodes.length),(.func (.func 134) ⟨[]⟩ ⟨[]⟩),(.func (.func 136) ⟨[]⟩ ⟨[(FP (encLnZ p1.line)),(.pointer (some ⟨g273,0,none⟩))]⟩)] true),((some g399),.cells (flatC (v420.map n8)) false),((some g273),.cells [(.func (.func 113) ⟨[]⟩ ⟨[(FP (encFlt p1))]⟩)] false)] h) (fun (v481,a480)=>[]) (fun hm=>?_) ?_
           ·refine gX ?_
            refine lw 189 [0,4,16,162,163] (σ:=((List Nat)×Nat)×Option Nat) (fun s=>s.1) (fun ((v486,v487),a485) h=>(a465=none->v466=[])/\(a485=none->v486=[])/\Own vars h0 [((some g399),.cells (flatC (v420.map n8)) false),((some g273),.cells [(.func (.func 113) ⟨[]⟩ ⟨[(FP (encFlt p1))]⟩)] false),((some g397),.cells [(.slice none 0 0),(.slice none 0 0)] false),((some g461),.cells [(growV 1 a465 (v466.map n8)),(growV 1 a485 (v486.map n8))] false),(a465,.cells (flatC (v466.map n8)) false),(a485,.cells (flatC (v486.map n8)) false),((some g1),.cells [((encL 1 n8) r6.1.out),((encL 1 n8) r6.1.next)] false),((some g3),.cells [(.slice none 0 0),(.slice none 0 0)] false),((some g275),.cells [((encL 4 encNode) p0.nodes),((encL 1 Value.string) p0.names),((encL 3 encMem) p0.mems),((encL 1 i64) p0.outs),(.slice (some ⟨g399,0,none⟩) p0.nodes.length p0.nodes.length),(.func (.func 134) ⟨[]⟩ ⟨[]⟩),(.func (.func 136) ⟨[]⟩ ⟨[(FP (encLnZ p1.line)),(.pointer (some ⟨g273,0,none⟩))]⟩)] true)] h) (fun ((v486,v487),a485)=>[(164,(i64 v487))]) ((([]:List Nat),0),none) hm ⟨ha467,(fun _=>rfl),O⟩ ?_
            clear hm;rintro⟨⟨v486,v487⟩,a485⟩ nx490 base h hm ⟨ha488,ha489,O⟩
            refine gX ?_
            refine br hm (fun hm=>?_) fun hm=>?_
            ·refine gX ?_
             refine atF hm fun x491 hx491 hm=>?_;refine gX ?_
             refine fg Tryz.func115 ?_;conv=>whnf
             apply Cs;conv=>whnf
             apply Cs;refine gH ?_
             have O:=O.addNil (.cells (flatC ((([]:List Nat)).map n8)) false)
             apply Cs;conv=>whnf
             apply Cs;refine gH ?_
             have O:=O.addNil (.cells (flatC ((([]:List Nat)).map n8)) false)
             refine jn (σ:=(List Nat)×Option Nat) hm 42 [] (fun s=>s.1) (fun (v495,a494) h=>(a494=none->v495=[])/\(a465=none->v466=[])/\(a485=none->v486=[])/\Own vars h0 [(a494,.cells (flatC (v495.map n8)) false),((some g1),.cells [((encL 1 n8) r6.1.out),((encL 1 n8) r6.1.next)] false),((some g3),.cells [(.slice none 0 0),(.slice none 0 0)] false),((some g275),.cells [((encL 4 encNode) p0.nodes),((encL 1 Value.string) p0.names),((encL 3 encMem) p0.mems),((encL 1 i64) p0.outs),(.slice (some ⟨g399,0,none⟩) p0.nodes.length p0.nodes.length),(.func (.func 134) ⟨[]⟩ ⟨[]⟩),(.func (.func 136) ⟨[]⟩ ⟨[(FP (encLnZ p1.line)),(.pointer (some ⟨g273,0,none⟩))]⟩)] true),((some g399),.cells (flatC (v420.map n8)) false),((some g273),.cells [(.func (.func 113) ⟨[]⟩ ⟨[(FP (encFlt p1))]⟩)] false),((some g397),.cells [(.slice none 0 0),(.slice none 0 0)] false),((some g461),.cells [(growV 1 a465 (v466.map n8)),(growV 1 a485 (v486.map n8))] false),(a465,.cells (flatC (v466.map n8)) false),(a485,.cells (flatC (v486.map n8)) false)] h) (fun (v495,a494)=>[(5,(growV 1 a494 (v495.map n8)))]) (fun hm=>?_) ?_
             ·refine gX ?_
              refine atF hm fun x500 hx500 hm=>?_;refine gX ?_
              refine lw 42 [0,1,16,17] (σ:=((List Nat)×Nat)×Option Nat) (fun s=>s.1) (fun ((v502,v503),a501) h=>(a501=none->v502=[])/\(a465=none->v466=[])/\(a485=none->v486=[])/\Own vars h0 [((some g399),.cells (flatC (v420.map n8)) false),((some g273),.cells [(.func (.func 113) ⟨[]⟩ ⟨[(FP (encFlt p1))]⟩)] false),(a501,.cells (flatC (v502.map n8)) false),((some g1),.cells [((encL 1 n8) r6.1.out),((encL 1 n8) r6.1.next)] false),((some g3),.cells [(.slice none 0 0),(.slice none 0 0)] false),((some g275),.cells [((encL 4 encNode) p0.nodes),((encL 1 Value.string) p0.names),((encL 3 encMem) p0.mems),((encL 1 i64) p0.outs),(.slice (some ⟨g399,0,none⟩) p0.nodes.length p0.nodes.length),(.func (.func 134) ⟨[]⟩ ⟨[]⟩),(.func (.func 136) ⟨[]⟩ ⟨[(FP (encLnZ p1.line)),(.pointer (some ⟨g273,0,none⟩))]⟩)] true),((some g397),.cells [(.slice none 0 0),(.slice none 0 0)] false),((some g461),.cells [(growV 1 a465 (v466.map n8)),(growV 1 a485 (v486.map n8))] false),(a465,.cells (flatC (v466.map n8)) false),(a485,.cells (flatC (v486.map n8)) false)] h) (fun ((v502,v503),a501)=>[(5,(growV 1 a501 (v502.map n8))),(18,(i64 v503))]) ((([]:List Nat),0),none) hm ⟨(fun _=>rfl),ha488,ha489,(O.sel [2,3,0,8,9,10,4,5,6,7] (by decide))⟩ ?_
              clear hm;rintro⟨⟨v502,v503⟩,a501⟩ nx507 base h hm ⟨ha504,ha505,ha506,O⟩
              refine gX ?_
              refine br hm (fun hm=>?_) fun hm=>?_
              ·refine gX ?_
               refine atF hm fun x508 hx508 hm=>?_;refine gX ?_
               first|refine⟨.inr (.inr (rfl)),?_⟩|refine⟨.inr (.inl (by kernel_rfl)),?_⟩
               refine gX ?_
               first|refine⟨.inr (.inr (rfl)),?_⟩|refine⟨.inr (.inl (by kernel_rfl)),?_⟩
               refine gX ?_
               refine ix 1 hm fun x509 hx509 hm=>?_;refine gH ?_
               refine⟨_,loadK rfl (O.at (.head _)) rfl (cell_map (enc:=n8) (s:=1) (k:=0) (fun _=>rfl) hx509 rfl),?_⟩;refine gH ?_
               refine fg Tryz.func136 ?_;conv=>whnf
               apply Cs;conv=>whnf
               apply Cs;refine gH ?_
               apply Cs;conv=>whnf
               refine jn hm 23 [2,4] (fun s=>s) (fun v510 h=>(a465=none->v466=[])/\(a485=none->v486=[])/\(a501=none->v502=[])/\Own vars h0 [((some g273),.cells [(.func (.func 113) ⟨[]⟩ ⟨[(FP (encFlt p1))]⟩)] false),((some g1),.cells [((encL 1 n8) r6.1.out),((encL 1 n8) r6.1.next)] false),((some g3),.cells [(.slice none 0 0),(.slice none 0 0)] false),((some g275),.cells [((encL 4 encNode) p0.nodes),((encL 1 Value.string) p0.names),((encL 3 encMem) p0.mems),((encL 1 i64) p0.outs),(.slice (some ⟨g399,0,none⟩) p0.nodes.length p0.nodes.length),(.func (.func 134) ⟨[]⟩ ⟨[]⟩),(.func (.func 136) ⟨[]⟩ ⟨[(FP (encLnZ p1.line)),(.pointer (some ⟨g273,0,none⟩))]⟩)] true),((some g399),.cells (flatC (v420.map n8)) false),((some g397),.cells [(.slice none 0 0),(.slice none 0 0)] false),((some g461),.cells [(growV 1 a465 (v466.map n8)),(growV 1 a485 (v486.map n8))] false),(a465,.cells (flatC (v466.map n8)) false),(a485,.cells (flatC (v486.map n8)) false),(a501,.cells (flatC (v502.map n8)) false)] h) (fun v510=>[(18,(.bool v510))]) (fun hm=>?_) ?_
               ·refine gX ?_
                refine br hm (fun hm=>?_) fun hm=>?_
                ·refine gX ?_
                 exact jx (eqZ (Int.ofNat v503) p1.line.pin) hm ⟨ha505,ha506,ha504,(O.sel [1,3,4,5,0,6,7,8,9,2] (by decide))⟩
                ·refine gX ?_
                 exact jx false hm ⟨ha505,ha506,ha504,(O.sel [1,3,4,5,0,6,7,8,9,2] (by decide))⟩
               ·clear hm;rintro v510 base h hm ⟨ha511,ha512,ha513,O⟩
                refine gX ?_
                refine br hm (fun hm=>?_) fun hm=>?_
                ·refine gX ?_
                 refine fg Tryz.func113 ?_;refine gX ?_
                 (first|refine⟨.inr (.inr (loadK rfl (O.at (.head _)) rfl rfl)),?_⟩|refine⟨.inr (.inr (loadK rfl (O.at (.tail _ (.head _))) rfl rfl)),?_⟩|refine⟨.inr (.inr (loadK rfl (O.at (.tail _ (.tail _ (.head _)))) rfl rfl)),?_⟩|refine⟨.inr (.inr (loadK rfl (O.at (.tail _ (.tail _ (.tail _ (.head _))))) rfl rfl)),?_⟩|refine⟨.inr (.inr (loadK rfl (O.at (.tail _ (.tail _ (.tail _ (.tail _ (.head _)))))) rfl rfl)),?_⟩|refine⟨.inr (.inr (loadK rfl (O.at (.tail _ (.tail _ (.tail _ (.tail _ (.tail _ (.head _))))))) rfl rfl)),?_⟩|refine⟨.inr (.inr (loadK rfl (O.at (.tail _ (.tail _ (.tail _ (.tail _ (.tail _ (.tail _ (.head _)))))))) rfl rfl)),?_⟩|refine⟨.inl (Ext.refl _),?_⟩|refine⟨.inr (.inr rfl),?_⟩|refine⟨.inr (by kernel_rfl),?_⟩|refine⟨.inl (by kernel_rfl),?_⟩|refine id ?_);refine gH ?_
                 refine O.buildLX (l:=([p1.value]:(List Nat))) (enc:=n8) (s:=1) (z:=(n8 0)) rfl rfl (by kernel_rfl) (by kernel_rfl) rfl rfl rfl rfl (fun _=>rfl) fun g515 h O=>?_;refine gH ?_
                 refine O.appendL (enc:=n8) (l:=v502) (new:=([p1.value]:(List Nat))) (s:=1) (b:=1) (.tail _ (.tail _ (.tail _ (.tail _ (.tail _ (.tail _ (.tail _ (.tail _ (.tail _ (.tail _ (.head _))))))))))) ha513 rfl rfl rfl rfl rfl rfl rfl rfl (YOk.own (O.at (.head _)) rfl (fun _=>rfl) rfl) (fun _=>rfl) (fun _=>rfl) (by decide) hm.1 fun a517 h ha518 O=>?_;refine gH ?_
                 (first|refine⟨.inr (.inr (loadK rfl (O.at (.head _)) rfl rfl)),?_⟩|refine⟨.inr (.inr (loadK rfl (O.at (.tail _ (.head _))) rfl rfl)),?_⟩|refine⟨.inr (.inr (loadK rfl (O.at (.tail _ (.tail _ (.head _)))) rfl rfl)),?_⟩|refine⟨.inr (.inr (loadK rfl (O.at (.tail _ (.tail _ (.tail _ (.head _))))) rfl rfl)),?_⟩|refine⟨.inr (.inr (loadK rfl (O.at (.tail _ (.tail _ (.tail _ (.tail _ (.head _)))))) rfl rfl)),?_⟩|refine⟨.inr (.inr (loadK rfl (O.at (.tail _ (.tail _ (.tail _ (.tail _ (.tail _ (.head _))))))) rfl rfl)),?_⟩|refine⟨.inr (.inr (loadK rfl (O.at (.tail _ (.tail _ (.tail _ (.tail _ (.tail _ (.tail _ (.head _)))))))) rfl rfl)),?_⟩|refine⟨.inl (Ext.refl _),?_⟩|refine⟨.inr (.inr rfl),?_⟩|refine⟨.inr (by kernel_rfl),?_⟩|refine⟨.inl (by kernel_rfl),?_⟩|refine id ?_);refine gH ?_
                 replace hm:=hm.2
                 refine gX ?_
                 refine aAdd hm fun hm=>?_;refine gH ?_
                 exact jx (((v502++([p1.value]:(List Nat))),(v503+1)),a517) hm ⟨ha518,ha511,ha512,(O.sel [5,1,10,2,3,4,6,7,8,9] (by decide))⟩
                ·refine gX ?_
                 (first|refine⟨.inr (.inr (loadK rfl (O.at (.head _)) rfl rfl)),?_⟩|refine⟨.inr (.inr (loadK rfl (O.at (.tail _ (.head _))) rfl rfl)),?_⟩|refine⟨.inr (.inr (loadK rfl (O.at (.tail _ (.tail _ (.head _)))) rfl rfl)),?_⟩|refine⟨.inr (.inr (loadK rfl (O.at (.tail _ (.tail _ (.tail _ (.head _))))) rfl rfl)),?_⟩|refine⟨.inr (.inr (loadK rfl (O.at (.tail _ (.tail _ (.tail _ (.tail _ (.head _)))))) rfl rfl)),?_⟩|refine⟨.inr (.inr (loadK rfl (O.at (.tail _ (.tail _ (.tail _ (.tail _ (.tail _ (.head _))))))) rfl rfl)),?_⟩|refine⟨.inr (.inr (loadK rfl (O.at (.tail _ (.tail _ (.tail _ (.tail _ (.tail _ (.tail _ (.head _)))))))) rfl rfl)),?_⟩|refine⟨.inl (Ext.refl _),?_⟩|refine⟨.inr (.inr rfl),?_⟩|refine⟨.inr (by kernel_rfl),?_⟩|refine⟨.inl (by kernel_rfl),?_⟩|refine id ?_);refine gH ?_
                 refine O.buildLX (l:=([x509]:(List Nat))) (enc:=n8) (s:=1) (z:=(n8 0)) rfl rfl (by kernel_rfl) (by kernel_rfl) rfl rfl rfl rfl (fun _=>rfl) fun g519 h O=>?_;refine gH ?_
                 refine O.appendL (enc:=n8) (l:=v502) (new:=([x509]:(List Nat))) (s:=1) (b:=1) (.tail _ (.tail _ (.tail _ (.tail _ (.tail _ (.tail _ (.tail _ (.tail _ (.tail _ (.tail _ (.head _))))))))))) ha513 rfl rfl rfl rfl rfl rfl rfl rfl (YOk.own (O.at (.head _)) rfl (fun _=>rfl) rfl) (fun _=>rfl) (fun _=>rfl) (by decide) hm.1 fun a521 h ha522 O=>?_;refine gH ?_
                 (first|refine⟨.inr (.inr (loadK rfl (O.at (.head _)) rfl rfl)),?_⟩|refine⟨.inr (.inr (loadK rfl (O.at (.tail _ (.head _))) rfl rfl)),?_⟩|refine⟨.inr (.inr (loadK rfl (O.at (.tail _ (.tail _ (.head _)))) rfl rfl)),?_⟩|refine⟨.inr (.inr (loadK rfl (O.at (.tail _ (.tail _ (.tail _ (.head _))))) rfl rfl)),?_⟩|refine⟨.inr (.inr (loadK rfl (O.at (.tail _ (.tail _ (.tail _ (.tail _ (.head _)))))) rfl rfl)),?_⟩|refine⟨.inr (.inr (loadK rfl (O.at (.tail _ (.tail _ (.tail _ (.tail _ (.tail _ (.head _))))))) rfl rfl)),?_⟩|refine⟨.inr (.inr (loadK rfl (O.at (.tail _ (.tail _ (.tail _ (.tail _ (.tail _ (.tail _ (.head _)))))))) rfl rfl)),?_⟩|refine⟨.inl (Ext.refl _),?_⟩|refine⟨.inr (.inr rfl),?_⟩|refine⟨.inr (by kernel_rfl),?_⟩|refine⟨.inl (by kernel_rfl),?_⟩|refine id ?_);refine gH ?_
                 replace hm:=hm.2
                 refine gX ?_
                 refine aAdd hm fun hm=>?_;refine gH ?_
                 exact jx (((v502++([x509]:(List Nat))),(v503+1)),a521) hm ⟨ha522,ha511,ha512,(O.sel [5,1,10,2,3,4,6,7,8,9] (by decide))⟩
              ·refine gX ?_
               exact jx (v502,a501) hm ⟨ha504,ha505,ha506,(O.sel [2,3,4,5,0,1,6,7,8,9] (by decide))⟩
             ·clear hm;rintro⟨v495,a494⟩ base h hm ⟨ha496,ha497,ha498,O⟩
              refine gX ?_
              obtain⟨x523,hx523,hm⟩:=hm
              have h9:=hm
              obtain⟨g524,rfl⟩:=addr_some ha496 hx523
              replace hm:=h9
              refine indexK (s:=1) (j:=0) rfl rfl rfl rfl (by rw[List.length_map];exact lt_of_get hx523) ?_;refine gH ?_
              refine ldE (s:=1) (i:=0) (O.at (.head _)) hx523 ?_;refine gH ?_
              refine jn hm 189 [0,4,16,162,163,164] (fun s=>s) (fun v525 h=>(a465=none->v466=[])/\(a485=none->v486=[])/\Own vars h0 [((some g399),.cells (flatC (v420.map n8)) false),((some g273),.cells [(.func (.func 113) ⟨[]⟩ ⟨[(FP (encFlt p1))]⟩)] false),((some g397),.cells [(.slice none 0 0),(.slice none 0 0)] false),((some g461),.cells [(growV 1 a465 (v466.map n8)),(growV 1 a485 (v486.map n8))] false),(a465,.cells (flatC (v466.map n8)) false),(a485,.cells (flatC (v486.map n8)) false),((some g1),.cells [((encL 1 n8) r6.1.out),((encL 1 n8) r6.1.next)] false),((some g3),.cells [(.slice none 0 0),(.slice none 0 0)] false),((some g275),.cells [((encL 4 encNode) p0.nodes),((encL 1 Value.string) p0.names),((encL 3 encMem) p0.mems),((encL 1 i64) p0.outs),(.slice (some ⟨g399,0,none⟩) p0.nodes.length p0.nodes.length),(.func (.func 134) ⟨[]⟩ ⟨[]⟩),(.func (.func 136) ⟨[]⟩ ⟨[(FP (encLnZ p1.line)),(.pointer (some ⟨g273,0,none⟩))]⟩)] true)] h) (fun v525=>[(21,(n8 v525))]) (fun hm=>?_) ?_
              ·refine gX ?_
               refine br hm (fun hm=>?_) fun hm=>?_
               ·refine gX ?_
                exact jx 2 hm ⟨ha497,ha498,(O.sel [4,5,6,7,8,9,1,2,3] (by decide))⟩
               ·refine gX ?_
                exact jx x523 hm ⟨ha497,ha498,(O.sel [4,5,6,7,8,9,1,2,3] (by decide))⟩
              ·clear hm;rintro v525 base h hm ⟨ha526,ha527,O⟩
               refine gX ?_
               refine ldO (O.at (.tail _ (.tail _ (.tail _ (.head _))))) ?_;refine gH ?_
               refine fz ?_;refine gH ?_
               refine O.apL (enc:=n8) (l:=v486) (new:=([v525]:(List Nat))) 1 (.tail _ (.tail _ (.tail _ (.tail _ (.tail _ (.head _)))))) ha527 hm fun a529 h ha530 O hm=>?_;refine gH ?_
               refine O.stC 1 (.tail _ (.tail _ (.tail _ (.head _)))) [(growV 1 a465 (v466.map n8)),(growV 1 a529 ((v486++([v525]:(List Nat))).map n8))] fun h O=>?_;refine gX ?_
               refine aAdd hm fun hm=>?_;refine gH ?_
               exact jx (((v486++([v525]:(List Nat))),(v487+1)),a529) hm ⟨ha526,ha530,O⟩
            ·refine gX ?_
             exact jx (v486,a485) hm ⟨ha488,ha489,(O.sel [2,3,4,5,6,7,8,0,1] (by decide))⟩
           ·clear hm;rintro⟨v481,a480⟩ base h hm ⟨ha482,ha483,O⟩
            refine gX ?_
            first|refine⟨.inr (.inr (loadK rfl (O.at (.tail _ (.head _))) rfl rfl)),?_⟩|refine⟨.inr (.inl (by kernel_rfl)),?_⟩
            refine gX ?_
            refine fg Tryz.func73 ?_;refine gX ?_
            refine clipK (s:=1) (enc:=n8) (l:=v466) (n:=v466.length) (m:=v466.length) rfl rfl rfl rfl rfl rfl rfl ?_;refine gX ?_
            (first|refine⟨.inr (.inr (loadK rfl (O.at (.head _)) rfl rfl)),?_⟩|refine⟨.inr (.inr (loadK rfl (O.at (.tail _ (.head _))) rfl rfl)),?_⟩|refine⟨.inr (.inr (loadK rfl (O.at (.tail _ (.tail _ (.head _)))) rfl rfl)),?_⟩|refine⟨.inr (.inr (loadK rfl (O.at (.tail _ (.tail _ (.tail _ (.head _))))) rfl rfl)),?_⟩|refine⟨.inr (.inr (loadK rfl (O.at (.tail _ (.tail _ (.tail _ (.tail _ (.head _)))))) rfl rfl)),?_⟩|refine⟨.inr (.inr (loadK rfl (O.at (.tail _ (.tail _ (.tail _ (.tail _ (.tail _ (.head _))))))) rfl rfl)),?_⟩|refine⟨.inr (.inr (loadK rfl (O.at (.tail _ (.tail _ (.tail _ (.tail _ (.tail _ (.tail _ (.head _)))))))) rfl rfl)),?_⟩|refine⟨.inl (Ext.refl _),?_⟩|refine⟨.inr (.inr rfl),?_⟩|refine⟨.inr (by kernel_rfl),?_⟩|refine⟨.inl (by kernel_rfl),?_⟩|refine id ?_);refine gH ?_
            first|refine⟨.inr (.inr (loadK rfl (O.at (.tail _ (.head _))) rfl rfl)),?_⟩|refine⟨.inr (.inl (by kernel_rfl)),?_⟩
            refine gX ?_
            refine fg Tryz.func73 ?_;refine gX ?_
            refine clipK (s:=1) (enc:=n8) (l:=v481) (n:=v481.length) (m:=v481.length) rfl rfl rfl rfl rfl rfl rfl ?_;refine gX ?_
            (first|refine⟨.inr (.inr (loadK rfl (O.at (.head _)) rfl rfl)),?_⟩|refine⟨.inr (.inr (loadK rfl (O.at (.tail _ (.head _))) rfl rfl)),?_⟩|refine⟨.inr (.inr (loadK rfl (O.at (.tail _ (.tail _ (.head _)))) rfl rfl)),?_⟩|refine⟨.inr (.inr (loadK rfl (O.at (.tail _ (.tail _ (.tail _ (.head _))))) rfl rfl)),?_⟩|refine⟨.inr (.inr (loadK rfl (O.at (.tail _ (.tail _ (.tail _ (.tail _ (.head _)))))) rfl rfl)),?_⟩|refine⟨.inr (.inr (loadK rfl (O.at (.tail _ (.tail _ (.tail _ (.tail _ (.tail _ (.head _))))))) rfl rfl)),?_⟩|refine⟨.inr (.inr (loadK rfl (O.at (.tail _ (.tail _ (.tail _ (.tail _ (.tail _ (.tail _ (.head _)))))))) rfl rfl)),?_⟩|refine⟨.inl (Ext.refl _),?_⟩|refine⟨.inr (.inr rfl),?_⟩|refine⟨.inr (by kernel_rfl),?_⟩|refine⟨.inl (by kernel_rfl),?_⟩|refine id ?_);refine gH ?_
            refine O.stC 2 (.head _) [(clipV a465 (v466.map n8)),(clipV a480 (v481.map n8))] fun h O=>?_;refine gH ?_
            (first|refine⟨.inr (.inr (loadK rfl (O.at (.head _)) rfl rfl)),?_⟩|refine⟨.inr (.inr (loadK rfl (O.at (.tail _ (.head _))) rfl rfl)),?_⟩|refine⟨.inr (.inr (loadK rfl (O.at (.tail _ (.tail _ (.head _)))) rfl rfl)),?_⟩|refine⟨.inr (.inr (loadK rfl (O.at (.tail _ (.tail _ (.tail _ (.head _))))) rfl rfl)),?_⟩|refine⟨.inr (.inr (loadK rfl (O.at (.tail _ (.tail _ (.tail _ (.tail _ (.head _)))))) rfl rfl)),?_⟩|refine⟨.inr (.inr (loadK rfl (O.at (.tail _ (.tail _ (.tail _ (.tail _ (.tail _ (.head _))))))) rfl rfl)),?_⟩|refine⟨.inr (.inr (loadK rfl (O.at (.tail _ (.tail _ (.tail _ (.tail _ (.tail _ (.tail _ (.head _)))))))) rfl rfl)),?_⟩|refine⟨.inl (Ext.refl _),?_⟩|refine⟨.inr (.inr rfl),?_⟩|refine⟨.inr (by kernel_rfl),?_⟩|refine⟨.inl (by kernel_rfl),?_⟩|refine id ?_);refine gH ?_
            refine gX ?_
            refine⟨_,resAggK rfl rfl (O.at (.head _)) rfl rfl (lbE rfl) rfl,?_⟩;refine gX ?_
            refine O.stC 2 (.tail _ (.tail _ (.tail _ (.tail _ (.tail _ (.head _)))))) [(clipV a465 (v466.map n8)),(clipV a480 (v481.map n8))] fun h O=>?_;refine gX ?_
            refine ldA (O.at (.tail _ (.tail _ (.tail _ (.tail _ (.head _)))))) ?_;refine gH ?_
            first|refine⟨.inr (.inr (loadAggK rfl (O.at (.tail _ (.tail _ (.tail _ (.tail _ (.head _)))))) rfl rfl (lbE rfl) rfl)),?_⟩|refine⟨.inr (.inl (by kernel_rfl)),?_⟩
            refine gX ?_
            refine ldA (O.at (.tail _ (.tail _ (.tail _ (.tail _ (.tail _ (.head _))))))) ?_;refine gH ?_
            first|refine⟨.inr (.inr (loadAggK rfl (O.at (.tail _ (.tail _ (.tail _ (.tail _ (.tail _ (.head _))))))) rfl rfl (lbE rfl) rfl)),?_⟩|refine⟨.inr (.inl (by kernel_rfl)),?_⟩
            refine gX ?_
            refine ldO (O.at (.tail _ (.tail _ (.tail _ (.tail _ (.tail _ (.tail _ (.head _)))))))) ?_;refine gH ?_
            first|refine⟨.inr (.inr (loadK rfl (O.at (.tail _ (.tail _ (.tail _ (.tail _ (.tail _ (.tail _ (.head _)))))))) rfl rfl)),?_⟩|refine⟨.inr (.inl (by kernel_rfl)),?_⟩
            refine gX ?_
            refine O.stSame 2 (.tail _ (.tail _ (.tail _ (.tail _ (.head _))))) fun h hext O=>?_;conv=>whnf
            refine⟨.inr hext,?_⟩;refine gH ?_
            refine O.stSame 2 (.tail _ (.tail _ (.tail _ (.tail _ (.tail _ (.head _)))))) fun h hext O=>?_;conv=>whnf
            refine⟨.inr hext,?_⟩;refine gX ?_
            refine⟨_,resAggK rfl rfl (O.at (.tail _ (.tail _ (.tail _ (.tail _ (.head _)))))) rfl rfl (lbE rfl) rfl,?_⟩;conv=>whnf
            refine⟨_,resAggK rfl rfl (O.at (.tail _ (.tail _ (.tail _ (.tail _ (.tail _ (.head _))))))) rfl rfl (lbE rfl) rfl,?_⟩;conv=>whnf
            obtain⟨hn531,hm⟩:=hm
            exact⟨(r6.1,(⟨v466,v481⟩:Rsp),v420,0),hm,O.ext,fun h2 F=>VLe.tup (LLe.cons (VLe.refl _ _) (LLe.cons (VLe.agg (LLe.cons (O.clipL F (Nat.le_refl _) (.tail _ (.tail _ (.head _))) ha482 (fun _=>rfl)) (LLe.cons (O.clipL F (Nat.le_refl _) (.tail _ (.tail _ (.tail _ (.head _)))) ha483 (fun _=>rfl)) (LLe.nil _)))) (LLe.cons (O.flatL F (Nat.le_refl _) (.tail _ (.tail _ (.tail _ (.tail _ (.tail _ (.tail _ (.tail _ (.head _)))))))) (fun _=>rfl) hn531) (LLe.cons (VLe.refl _ _) (LLe.nil _)))))⟩
def inject_Run_wp (p0:Circ) (p1:Flt) (p2:Pat) (K:(Rsp×(List Nat)×Nat)->Prop):Prop :=
 inject_both_wp p0 p1 p2 (fun r3=>K (r3.2.1,r3.2.2.1,r3.2.2.2))
theorem inject_Run_walk {p0:Circ}{p1:Flt}{p2:Pat}{K:(Rsp×(List Nat)×Nat)->Prop} (hm:inject_Run_wp p0 p1 p2 K) {h0:Heap} (hB:HasB vars h0):∃ r,K r/\CallD Tryz.prog NG 17 ⟨[encCirc p0,encFlt p1,encPat p2]⟩ h0 ((fun (r:(Rsp×(List Nat)×Nat))=>Value.tuple ⟨[encRsp (r.1),(encL 1 n8) (r.2.1),i64 (r.2.2)]⟩) r) h0:=by
 unfold inject_Run_wp at hm
 refine fw Tryz.func17 hB (enc:=(fun (r:(Rsp×(List Nat)×Nat))=>Value.tuple ⟨[encRsp (r.1),(encL 1 n8) (r.2.1),i64 (r.2.2)]⟩)) (fun r=>PureV.tup (AllPure.cons (pure_rsp _) (AllPure.cons (pureL (fun _=>AllPure.cons (PureV.flat rfl) AllPure.nil)) (AllPure.cons (PureV.flat rfl) (AllPure.nil))))) fun O=>?_;conv=>whnf
 refine gX ?_
 refine fz ?_;refine gH ?_
 refine fz ?_;refine gH ?_
 refine fz ?_;refine gH ?_
 (first|refine O.new (anew_alloc (l:=[(.slice none 0 0),(.slice none 0 0)]) rfl rfl rfl) fun g1 h O=>?_|refine O.newX (anew_alloc (l:=[(.slice none 0 0),(.slice none 0 0)]) rfl rfl rfl) fun g1 h O=>?_);refine gH ?_
 refine gX ?_
 refine ca (inject_both_walk hm O.has) fun r3 hm=>?_;refine gH ?_
 (first|refine O.new (anew_alloc (l:=[(.slice none 0 0),(.slice none 0 0)]) rfl rfl rfl) fun g4 h O=>?_|refine O.newX (anew_alloc (l:=[(.slice none 0 0),(.slice none 0 0)]) rfl rfl rfl) fun g4 h O=>?_);refine gH ?_
 (first|refine O.new (anew_alloc (l:=[(.slice none 0 0),(.slice none 0 0)]) rfl rfl rfl) fun g6 h O=>?_|refine O.newX (anew_alloc (l:=[(.slice none 0 0),(.slice none 0 0)]) rfl rfl rfl) fun g6 h O=>?_);refine gH ?_
 refine O.stC 2 (.tail _ (.head _)) [((encL 1 n8) r3.1.out),((encL 1 n8) r3.1.next)] fun h O=>?_;refine gH ?_
 refine O.stC 2 (.head _) [((encL 1 n8) r3.2.1.out),((encL 1 n8) r3.2.1.next)] fun h O=>?_;refine gX ?_
 refine ldA (O.at (.head _)) ?_;refine gH ?_
 refine O.stC 2 (.tail _ (.tail _ (.head _))) [((encL 1 n8) r3.2.1.out),((encL 1 n8) r3.2.1.next)] fun h O=>?_;refine gX ?_
 refine⟨_,resAggK rfl rfl (O.at (.tail _ (.tail _ (.head _)))) rfl rfl (lbE rfl) rfl,?_⟩;conv=>whnf
 exact⟨(r3.2.1,r3.2.2.1,r3.2.2.2),hm,O.ext,fun h2 F=>VLe.tup (LLe.cons (VLe.refl _ _) (LLe.cons (VLe.refl _ _) (LLe.cons (VLe.refl _ _) (LLe.nil _))))⟩
end Go.Proofs.YteceaohcjmbfbaaGreatDoor
