/-
  J1: parts of the proof.
-/
import Derived.Test.YtobphhjcadjfjaaGreatDoorSc46
namespace Go.Proofs.YtobphhjcadjfjaaGreatDoor
open Go.Abs
set_option maxRecDepth 100000
set_option maxHeartbeats 8000000
abbrev clo (f:FuncId) (l:List Value):Value:=.func (.func f) ⟨[]⟩ ⟨l⟩
abbrev cy (c:Circ) (s f g:Value):List Value:=[(ah 4 al) c.nodes,(ah 1 Value.string) c.names,(ah 3 az) c.mems,(ah 1 i64) c.outs,s,f,g]
def ck (p0:(List Nat)) (p1:(List Nat)) (K:(List Nat)->Prop):Prop :=
 an (α:=(List Nat)) (fun k5=>ar (S:=((List Nat)×Nat)) (fun (v7,v8) nx10=>((ltN v8 (min p0.length p1.length))=true->an (α:=(List Nat)) (fun k14=>an (α:=Bool) (fun k17=>∃ x18,p0[v8]?=some x18/\((!ltN 1 x18)=true->∃ x19,p1[v8]?=some x19/\((!ltN 1 x19)=true->∃ x20,p0[v8]?=some x20/\∃ x21,p1[v8]?=some x21/\k17 (neN x20 x21))/\((!ltN 1 x19)=false->k17 false))/\((!ltN 1 x18)=false->k17 false)) (fun v15=>(v15=true->(v7.length+([v8]:(List Nat)).length)*8<=2 ^ 47/\k14 (v7++([v8]:(List Nat))))/\(v15=false->k14 v7))) (fun v12=>v8+1<2 ^ 63/\nx10 (v12,(v8+1))))/\((ltN v8 (min p0.length p1.length))=false->k5 v7)) (([]:List Nat),0)) (fun v3=>K v3)
theorem ij {p0:(List Nat)}{p1:(List Nat)}{K:(List Nat)->Prop} (hm:ck p0 p1 K) {h0:Heap} (hB:HasB vars h0):∃ r,K r/\CallD Tryz.prog NG 76 ⟨[(ah 1 n8) p0,(ah 1 n8) p1]⟩ h0 ((ah 1 i64) r) h0:=by
 unfold ck at hm
 refine fw Tryz.func76 hB (enc:=(ah 1 i64)) (fun r=>eF (fun _=>ai.cons (PureV.flat rfl) ai.nil)) fun O=>?_;conv=>whnf
 apply Cs;conv=>whnf
 apply Cs;refine gH ?_
 apply Cs;conv=>whnf
 apply Cs;refine gH ?_
 have O:=O.aM (.cells (flatC ((([]:List Nat)).map i64)) false)
 refine jn (σ:=(List Nat)×Option Nat) hm 45 [] (fun s=>s.1) (fun (v3,a2) h=>(a2=none->v3=[])/\Own vars h0 [(a2,.cells (flatC (v3.map i64)) false)] h) (fun (v3,a2)=>[(5,(ag 1 a2 (v3.map i64)))]) (fun hm=>?_) ?_
 ·refine gX ?_
  refine⟨_,EX (a:=p0.length) (b:=p1.length) rfl rfl,?_⟩;refine gX ?_
  refine lw 45 [0,1,11] (σ:=((List Nat)×Nat)×Option Nat) (fun s=>s.1) (fun ((v7,v8),a6) h=>(a6=none->v7=[])/\Own vars h0 [(a6,.cells (flatC (v7.map i64)) false)] h) (fun ((v7,v8),a6)=>[(5,(ag 1 a6 (v7.map i64))),(12,(i64 v8))]) ((([]:List Nat),0),none) hm ⟨(fun _=>rfl),O⟩ ?_
  clear hm;rintro⟨⟨v7,v8⟩,a6⟩ nx10 base h hm ⟨ha9,O⟩
  refine gX ?_
  refine br hm (fun hm=>?_) fun hm=>?_
  ·apply Cs;conv=>whnf
   refine jn (σ:=(List Nat)×Option Nat) hm 45 [0,1,11,12] (fun s=>s.1) (fun (v12,a11) h=>(a11=none->v12=[])/\Own vars h0 [(a11,.cells (flatC (v12.map i64)) false)] h) (fun (v12,a11)=>[(5,(ag 1 a11 (v12.map i64)))]) (fun hm=>?_) ?_
   ·apply Cs;conv=>whnf
    apply Cs;conv=>whnf
    apply Cs;refine gH ?_
    refine jn hm 45 [0,1,5,6,11,12] (fun s=>s) (fun v15 h=>(a6=none->v7=[])/\Own vars h0 [(a6,.cells (flatC (v7.map i64)) false)] h) (fun v15=>[(37,(.bool v15))]) (fun hm=>?_) ?_
    ·refine gX ?_
     refine atF hm fun x18 hx18 hm=>?_;refine gH ?_
     refine br hm (fun hm=>?_) fun hm=>?_
     ·refine gX ?_
      refine atF hm fun x19 hx19 hm=>?_;refine gH ?_
      refine br hm (fun hm=>?_) fun hm=>?_
      ·refine gX ?_
       refine atF hm fun x20 hx20 hm=>?_;refine gH ?_
       refine atF hm fun x21 hx21 hm=>?_;refine gH ?_
       exact jx (neN x20 x21) hm ⟨ha9,O⟩
      ·refine gX ?_
       exact jx false hm ⟨ha9,O⟩
     ·refine gX ?_
      refine bf ?_;refine gH ?_
      exact jx false hm ⟨ha9,O⟩
    ·clear hm;rintro v15 base h hm ⟨ha16,O⟩
     refine gX ?_
     refine br hm (fun hm=>?_) fun hm=>?_
     ·refine gX ?_
      refine fz ?_;refine gH ?_
      refine O.apL (enc:=i64) (l:=v7) (new:=([v8]:(List Nat))) 1 (.head _) ha16 hm fun a22 h ha23 O hm=>?_;refine gH ?_
      exact jx ((v7++([v8]:(List Nat))),a22) hm ⟨ha23,O⟩
     ·refine gX ?_
      exact jx (v7,a6) hm ⟨ha16,O⟩
   ·clear hm;rintro⟨v12,a11⟩ base h hm ⟨ha13,O⟩
    refine gX ?_
    refine aL hm fun hm=>?_;refine gH ?_
    exact jx ((v12,(v8+1)),a11) hm ⟨ha13,O⟩
  ·refine gX ?_
   exact jx (v7,a6) hm ⟨ha9,O⟩
 ·clear hm;rintro⟨v3,a2⟩ base h hm ⟨ha4,O⟩
  refine gX ?_
  refine fg Tryz.func27 ?_;refine gX ?_
  refine iq (s:=1) (enc:=i64) (l:=v3) (n:=v3.length) (m:=v3.length) rfl rfl rfl rfl rfl rfl rfl ?_;refine gX ?_
  exact⟨v3,hm,O.ext,fun h2 F=>O.kc F (Nat.le_refl _) (.head _) ha4 (fun _=>rfl)⟩
def dm (p0:Rsp) (p1:Rsp) (K:((List Nat)×(List Nat))->Prop):Prop :=
 ck p0.out p1.out (fun r1=>ck p0.next p1.next (fun r2=>K (r1,r2)))
theorem ow {p0:Rsp}{p1:Rsp}{K:((List Nat)×(List Nat))->Prop} (hm:dm p0 p1 K) {h0:Heap} (hB:HasB vars h0):∃ r,K r/\CallD Tryz.prog NG 39 ⟨[gx p0,gx p1]⟩ h0 ((fun (r:((List Nat)×(List Nat)))=>Value.tuple ⟨[(ah 1 i64) (r.1),(ah 1 i64) (r.2)]⟩) r) h0:=by
 unfold dm at hm
 refine fw Tryz.func39 hB (enc:=(fun (r:((List Nat)×(List Nat)))=>Value.tuple ⟨[(ah 1 i64) (r.1),(ah 1 i64) (r.2)]⟩)) (fun r=>PureV.tup (ai.cons (eF (fun _=>ai.cons (PureV.flat rfl) ai.nil)) (ai.cons (eF (fun _=>ai.cons (PureV.flat rfl) ai.nil)) (ai.nil)))) fun O=>?_;conv=>whnf
 refine gX ?_
 refine fz ?_;refine gH ?_
 refine fz ?_;refine gX ?_
 refine dF ?_
 refine gX ?_
 refine dF ?_
 refine gX ?_
 refine ca (ij hm O.has) fun r1 hm=>?_;refine gH ?_
 (first|refine⟨.inr (.inr (ae rfl (O.at (.head _)) rfl rfl)),?_⟩|refine⟨.inr (.inr (ae rfl (O.at (.tail _ (.head _))) rfl rfl)),?_⟩|refine⟨.inr (.inr (ae rfl (O.at (.tail _ (.tail _ (.head _)))) rfl rfl)),?_⟩|refine⟨.inr (.inr (ae rfl (O.at (.tail _ (.tail _ (.tail _ (.head _))))) rfl rfl)),?_⟩|refine⟨.inr (.inr (ae rfl (O.at (.tail _ (.tail _ (.tail _ (.tail _ (.head _)))))) rfl rfl)),?_⟩|refine⟨.inr (.inr (ae rfl (O.at (.tail _ (.tail _ (.tail _ (.tail _ (.tail _ (.head _))))))) rfl rfl)),?_⟩|refine⟨.inr (.inr (ae rfl (O.at (.tail _ (.tail _ (.tail _ (.tail _ (.tail _ (.tail _ (.head _)))))))) rfl rfl)),?_⟩|refine⟨.inl (Ext.refl _),?_⟩|refine⟨.inr (.inr rfl),?_⟩|refine⟨.inr (by kernel_rfl),?_⟩|refine⟨.inl (by kernel_rfl),?_⟩|refine id ?_);refine gH ?_
 refine dF ?_
 refine gX ?_
 refine dF ?_
 refine gX ?_
 refine ca (ij hm O.has) fun r2 hm=>?_;refine gH ?_
 (first|refine⟨.inr (.inr (ae rfl (O.at (.head _)) rfl rfl)),?_⟩|refine⟨.inr (.inr (ae rfl (O.at (.tail _ (.head _))) rfl rfl)),?_⟩|refine⟨.inr (.inr (ae rfl (O.at (.tail _ (.tail _ (.head _)))) rfl rfl)),?_⟩|refine⟨.inr (.inr (ae rfl (O.at (.tail _ (.tail _ (.tail _ (.head _))))) rfl rfl)),?_⟩|refine⟨.inr (.inr (ae rfl (O.at (.tail _ (.tail _ (.tail _ (.tail _ (.head _)))))) rfl rfl)),?_⟩|refine⟨.inr (.inr (ae rfl (O.at (.tail _ (.tail _ (.tail _ (.tail _ (.tail _ (.head _))))))) rfl rfl)),?_⟩|refine⟨.inr (.inr (ae rfl (O.at (.tail _ (.tail _ (.tail _ (.tail _ (.tail _ (.tail _ (.head _)))))))) rfl rfl)),?_⟩|refine⟨.inl (Ext.refl _),?_⟩|refine⟨.inr (.inr rfl),?_⟩|refine⟨.inr (by kernel_rfl),?_⟩|refine⟨.inl (by kernel_rfl),?_⟩|refine id ?_);refine gH ?_
 refine gX ?_
 exact⟨(r1,r2),hm,O.ext,fun h2 F=>VLe.tup (LLe.cons (VLe.refl _ _) (LLe.cons (VLe.refl _ _) (LLe.nil _)))⟩
def eG (p0:Rsp) (p1:Rsp) (K:Bool->Prop):Prop :=
 dm p0 p1 (fun r1=>r1.1.length+r1.2.length<2 ^ 63/\K (ltN 0 (r1.1.length+r1.2.length)))
theorem qj {p0:Rsp}{p1:Rsp}{K:Bool->Prop} (hm:eG p0 p1 K) {h0:Heap} (hB:HasB vars h0):∃ r,K r/\CallD Tryz.prog NG 24 ⟨[gx p0,gx p1]⟩ h0 (Value.bool r) h0:=by
 unfold eG at hm
 refine fw Tryz.func24 hB (enc:=Value.bool) (fun r=>PureV.flat rfl) fun O=>?_;conv=>whnf
 refine gX ?_
 refine fz ?_;refine gH ?_
 refine fz ?_;refine gX ?_
 refine ca (ow hm O.has) fun r1 hm=>?_;refine gX ?_
 refine aL hm fun hm=>?_;refine gX ?_
 exact fe hm O
def dZ (p0:Circ) (p1:Flt) (p2:Pat) (K:(Rsp×Rsp×(List Nat)×Nat)->Prop):Prop :=
 faults_Check_wp p0 p1 (fun r5=>((neN r5 0)=true->K ((⟨[],[]⟩:Rsp),(⟨[],[]⟩:Rsp),[],r5))/\((neN r5 0)=false->((eqN p1.model 1)=true->K ((⟨[],[]⟩:Rsp),(⟨[],[]⟩:Rsp),[],7))/\((eqN p1.model 1)=false->fH p0 p2 (fun r6=>((neN r6.2.2 0)=true->False)/\((neN r6.2.2 0)=false->((eqN p1.model 2)=true->False)/\((eqN p1.model 2)=false->((eqN p1.model 3)=true->((ltI p1.line.pin (Int.ofNat 0))=true->1*p0.nodes.length<=2 ^ 48/\p0.nodes.length<2 ^ 63/\aV p0 (fun r19=>an (α:=(List Nat)) (fun k21=>bd p0 (fun r22=>ar (S:=((List Nat)×Nat)) (fun (v23,v24) nx25=>((ltN v24 r22.length)=true->∃ x26,r22[v24]?=some x26/\∃ x27,p2.inp[v24]?=some x27/\x26<p0.nodes.length/\∃ x28,v23[x26]?=some x28/\v24+1<2 ^ 63/\nx25 ((v23.set x26 x27),(v24+1)))/\((ltN v24 r22.length)=false->k21 v23)) ((List.replicate p0.nodes.length (0:Nat)),0))) (fun v20=>an (α:=(List Nat)) (fun k30=>ar (S:=((List Nat)×Nat)) (fun (v31,v32) nx33=>((ltN v32 r19.length)=true->∃ x34,r19[v32]?=some x34/\∃ x35,p2.state[v32]?=some x35/\x34<p0.nodes.length/\∃ x36,v31[x34]?=some x36/\v32+1<2 ^ 63/\nx33 ((v31.set x34 x35),(v32+1)))/\((ltN v32 r19.length)=false->k30 v31)) (v20,0)) (fun v29=>bn p0 (fun r37=>an (α:=(List Nat)) (fun k39=>ar (S:=((List Nat)×Nat)) (fun (v40,v41) nx42=>((ltN v41 r37.1.length)=true->∃ x43,r37.1[v41]?=some x43/\an (α:=(List Nat)) (fun k45=>∃ x46,p0.nodes[x43]?=some x46/\an (α:=Bool) (fun k48=>((neN x46.kind 0)=true->k48 (neN x46.kind 14))/\((neN x46.kind 0)=false->k48 false)) (fun v47=>(v47=true->∃ x49,p0.nodes[x43]?=some x49/\an (α:=(List Nat)) (fun k55=>∃ x56,p0.nodes[x43]?=some x56/\ar (S:=((List Nat)×Nat)) (fun (v58,v59) nx61=>((ltN v59 x56.ins.length)=true->∃ x62,x56.ins[v59]?=some x62/\x62<p0.nodes.length/\∃ x63,v40[x62]?=some x63/\(v58.length+([x63]:(List Nat)).length)*1<=2 ^ 47/\v59+1<2 ^ 63/\nx61 ((v58++([x63]:(List Nat))),(v59+1)))/\((ltN v59 x56.ins.length)=false->k55 v58)) (([]:List Nat),0)) (fun v53=>bA x49.kind v53 (fun r68=>x43<p0.nodes.length/\∃ x69,v40[x43]?=some x69/\k45 (v40.set x43 r68))))/\(v47=false->k45 v40))) (fun v44=>x43<p0.nodes.length/\∃ x70,v44[x43]?=some x70/\((eqN x43 p1.line.node)=true->∃ x71,r6.2.1[p1.other]?=some x71/\x43<p0.nodes.length/\∃ x72,v44[x43]?=some x72/\v41+1<2 ^ 63/\nx42 ((v44.set x43 x71),(v41+1)))/\((eqN x43 p1.line.node)=false->x43<p0.nodes.length/\∃ x73,v44[x43]?=some x73/\v41+1<2 ^ 63/\nx42 ((v44.set x43 x70),(v41+1)))))/\((ltN v41 r37.1.length)=false->k39 v40)) (v29,0)) (fun v38=>an (α:=(List Nat)) (fun k81=>ar (S:=((List Nat)×Nat)) (fun (v83,v84) nx86=>((ltN v84 p0.outs.length)=true->∃ x87,p0.outs[v84]?=some x87/\x87<p0.nodes.length/\∃ x88,v38[x87]?=some x88/\(v83.length+([x88]:(List Nat)).length)*1<=2 ^ 47/\v84+1<2 ^ 63/\nx86 ((v83++([x88]:(List Nat))),(v84+1)))/\((ltN v84 p0.outs.length)=false->k81 v83)) (([]:List Nat),0)) (fun v79=>an (α:=(List Nat)) (fun k97=>ar (S:=((List Nat)×Nat)) (fun (v99,v100) nx103=>((ltN v100 r19.length)=true->∃ x104,r19[v100]?=some x104/\an (α:=(List Nat)) (fun k112=>∃ x113,p0.nodes[x104]?=some x113/\ar (S:=((List Nat)×Nat)) (fun (v115,v116) nx120=>((ltN v116 x113.ins.length)=true->∃ x121,x113.ins[v116]?=some x121/\x121<p0.nodes.length/\∃ x122,v38[x121]?=some x122/\(v115.length+([x122]:(List Nat)).length)*1<=2 ^ 47/\v116+1<2 ^ 63/\nx120 ((v115++([x122]:(List Nat))),(v116+1)))/\((ltN v116 x113.ins.length)=false->k112 v115)) (([]:List Nat),0)) (fun v108=>∃ x127,v108[0]?=some x127/\an (α:=Nat) (fun k132=>((eqN x127 3)=true->k132 2)/\((eqN x127 3)=false->k132 x127)) (fun v129=>(v99.length+([v129]:(List Nat)).length)*1<=2 ^ 47/\v100+1<2 ^ 63/\nx103 ((v99++([v129]:(List Nat))),(v100+1)))))/\((ltN v100 r19.length)=false->k97 v99)) (([]:List Nat),0)) (fun v94=>p0.nodes.length=v38.length/\K (r6.1,(⟨v79,v94⟩:Rsp),v38,0)))))))))/\((ltI p1.line.pin (Int.ofNat 0))=false->False))/\((eqN p1.model 3)=false->((ltI p1.line.pin (Int.ofNat 0))=true->1*p0.nodes.length<=2 ^ 48/\p0.nodes.length<2 ^ 63/\aV p0 (fun r144=>an (α:=(List Nat)) (fun k146=>bd p0 (fun r147=>ar (S:=((List Nat)×Nat)) (fun (v148,v149) nx150=>((ltN v149 r147.length)=true->∃ x151,r147[v149]?=some x151/\∃ x152,p2.inp[v149]?=some x152/\x151<p0.nodes.length/\∃ x153,v148[x151]?=some x153/\v149+1<2 ^ 63/\nx150 ((v148.set x151 x152),(v149+1)))/\((ltN v149 r147.length)=false->k146 v148)) ((List.replicate p0.nodes.length (0:Nat)),0))) (fun v145=>an (α:=(List Nat)) (fun k155=>ar (S:=((List Nat)×Nat)) (fun (v156,v157) nx158=>((ltN v157 r144.length)=true->∃ x159,r144[v157]?=some x159/\∃ x160,p2.state[v157]?=some x160/\x159<p0.nodes.length/\∃ x161,v156[x159]?=some x161/\v157+1<2 ^ 63/\nx158 ((v156.set x159 x160),(v157+1)))/\((ltN v157 r144.length)=false->k155 v156)) (v145,0)) (fun v154=>bn p0 (fun r162=>an (α:=(List Nat)) (fun k164=>ar (S:=((List Nat)×Nat)) (fun (v165,v166) nx167=>((ltN v166 r162.1.length)=true->∃ x168,r162.1[v166]?=some x168/\an (α:=(List Nat)) (fun k170=>∃ x171,p0.nodes[x168]?=some x171/\an (α:=Bool) (fun k173=>((neN x171.kind 0)=true->k173 (neN x171.kind 14))/\((neN x171.kind 0)=false->k173 false)) (fun v172=>(v172=true->∃ x174,p0.nodes[x168]?=some x174/\an (α:=(List Nat)) (fun k180=>∃ x181,p0.nodes[x168]?=some x181/\ar (S:=((List Nat)×Nat)) (fun (v183,v184) nx186=>((ltN v184 x181.ins.length)=true->∃ x187,x181.ins[v184]?=some x187/\x187<p0.nodes.length/\∃ x188,v165[x187]?=some x188/\(v183.length+([x188]:(List Nat)).length)*1<=2 ^ 47/\v184+1<2 ^ 63/\nx186 ((v183++([x188]:(List Nat))),(v184+1)))/\((ltN v184 x181.ins.length)=false->k180 v183)) (([]:List Nat),0)) (fun v178=>bA x174.kind v178 (fun r193=>x168<p0.nodes.length/\∃ x194,v165[x168]?=some x194/\k170 (v165.set x168 r193))))/\(v172=false->k170 v165))) (fun v169=>x168<p0.nodes.length/\∃ x195,v169[x168]?=some x195/\((eqN x168 p1.line.node)=true->x168<p0.nodes.length/\∃ x196,v169[x168]?=some x196/\v166+1<2 ^ 63/\nx167 ((v169.set x168 p1.value),(v166+1)))/\((eqN x168 p1.line.node)=false->x168<p0.nodes.length/\∃ x197,v169[x168]?=some x197/\v166+1<2 ^ 63/\nx167 ((v169.set x168 x195),(v166+1)))))/\((ltN v166 r162.1.length)=false->k164 v165)) (v154,0)) (fun v163=>an (α:=(List Nat)) (fun k205=>ar (S:=((List Nat)×Nat)) (fun (v207,v208) nx210=>((ltN v208 p0.outs.length)=true->∃ x211,p0.outs[v208]?=some x211/\x211<p0.nodes.length/\∃ x212,v163[x211]?=some x212/\(v207.length+([x212]:(List Nat)).length)*1<=2 ^ 47/\v208+1<2 ^ 63/\nx210 ((v207++([x212]:(List Nat))),(v208+1)))/\((ltN v208 p0.outs.length)=false->k205 v207)) (([]:List Nat),0)) (fun v203=>an (α:=(List Nat)) (fun k221=>ar (S:=((List Nat)×Nat)) (fun (v223,v224) nx227=>((ltN v224 r144.length)=true->∃ x228,r144[v224]?=some x228/\an (α:=(List Nat)) (fun k236=>∃ x237,p0.nodes[x228]?=some x237/\ar (S:=((List Nat)×Nat)) (fun (v239,v240) nx244=>((ltN v240 x237.ins.length)=true->∃ x245,x237.ins[v240]?=some x245/\x245<p0.nodes.length/\∃ x246,v163[x245]?=some x246/\(v239.length+([x246]:(List Nat)).length)*1<=2 ^ 47/\v240+1<2 ^ 63/\nx244 ((v239++([x246]:(List Nat))),(v240+1)))/\((ltN v240 x237.ins.length)=false->k236 v239)) (([]:List Nat),0)) (fun v232=>∃ x251,v232[0]?=some x251/\an (α:=Nat) (fun k256=>((eqN x251 3)=true->k256 2)/\((eqN x251 3)=false->k256 x251)) (fun v253=>(v223.length+([v253]:(List Nat)).length)*1<=2 ^ 47/\v224+1<2 ^ 63/\nx227 ((v223++([v253]:(List Nat))),(v224+1)))))/\((ltN v224 r144.length)=false->k221 v223)) (([]:List Nat),0)) (fun v218=>p0.nodes.length=v163.length/\K (r6.1,(⟨v203,v218⟩:Rsp),v163,0)))))))))/\((ltI p1.line.pin (Int.ofNat 0))=false->1*p0.nodes.length<=2 ^ 48/\p0.nodes.length<2 ^ 63/\aV p0 (fun r264=>an (α:=(List Nat)) (fun k266=>bd p0 (fun r267=>ar (S:=((List Nat)×Nat)) (fun (v268,v269) nx270=>((ltN v269 r267.length)=true->∃ x271,r267[v269]?=some x271/\∃ x272,p2.inp[v269]?=some x272/\x271<p0.nodes.length/\∃ x273,v268[x271]?=some x273/\v269+1<2 ^ 63/\nx270 ((v268.set x271 x272),(v269+1)))/\((ltN v269 r267.length)=false->k266 v268)) ((List.replicate p0.nodes.length (0:Nat)),0))) (fun v265=>an (α:=(List Nat)) (fun k275=>ar (S:=((List Nat)×Nat)) (fun (v276,v277) nx278=>((ltN v277 r264.length)=true->∃ x279,r264[v277]?=some x279/\∃ x280,p2.state[v277]?=some x280/\x279<p0.nodes.length/\∃ x281,v276[x279]?=some x281/\v277+1<2 ^ 63/\nx278 ((v276.set x279 x280),(v277+1)))/\((ltN v277 r264.length)=false->k275 v276)) (v265,0)) (fun v274=>bn p0 (fun r282=>an (α:=(List Nat)) (fun k284=>ar (S:=((List Nat)×Nat)) (fun (v285,v286) nx287=>((ltN v286 r282.1.length)=true->∃ x288,r282.1[v286]?=some x288/\an (α:=(List Nat)) (fun k290=>∃ x291,p0.nodes[x288]?=some x291/\an (α:=Bool) (fun k293=>((neN x291.kind 0)=true->k293 (neN x291.kind 14))/\((neN x291.kind 0)=false->k293 false)) (fun v292=>(v292=true->∃ x294,p0.nodes[x288]?=some x294/\an (α:=(List Nat)) (fun k300=>∃ x301,p0.nodes[x288]?=some x301/\ar (S:=((List Nat)×Nat)) (fun (v303,v304) nx306=>((ltN v304 x301.ins.length)=true->∃ x307,x301.ins[v304]?=some x307/\x307<p0.nodes.length/\∃ x308,v285[x307]?=some x308/\an (α:=Bool) (fun k311=>((eqN x288 p1.line.node)=true->k311 (eqZ (Int.ofNat v304) p1.line.pin))/\((eqN x288 p1.line.node)=false->k311 false)) (fun v309=>(v309=true->(v303.length+([p1.value]:(List Nat)).length)*1<=2 ^ 47/\v304+1<2 ^ 63/\nx306 ((v303++([p1.value]:(List Nat))),(v304+1)))/\(v309=false->(v303.length+([x308]:(List Nat)).length)*1<=2 ^ 47/\v304+1<2 ^ 63/\nx306 ((v303++([x308]:(List Nat))),(v304+1)))))/\((ltN v304 x301.ins.length)=false->k300 v303)) (([]:List Nat),0)) (fun v298=>bA x294.kind v298 (fun r320=>x288<p0.nodes.length/\∃ x321,v285[x288]?=some x321/\k290 (v285.set x288 r320))))/\(v292=false->k290 v285))) (fun v289=>x288<p0.nodes.length/\∃ x322,v289[x288]?=some x322/\x288<p0.nodes.length/\∃ x323,v289[x288]?=some x323/\v286+1<2 ^ 63/\nx287 ((v289.set x288 x322),(v286+1))))/\((ltN v286 r282.1.length)=false->k284 v285)) (v274,0)) (fun v283=>an (α:=(List Nat)) (fun k331=>ar (S:=((List Nat)×Nat)) (fun (v333,v334) nx336=>((ltN v334 p0.outs.length)=true->∃ x337,p0.outs[v334]?=some x337/\x337<p0.nodes.length/\∃ x338,v283[x337]?=some x338/\(v333.length+([x338]:(List Nat)).length)*1<=2 ^ 47/\v334+1<2 ^ 63/\nx336 ((v333++([x338]:(List Nat))),(v334+1)))/\((ltN v334 p0.outs.length)=false->k331 v333)) (([]:List Nat),0)) (fun v329=>an (α:=(List Nat)) (fun k347=>ar (S:=((List Nat)×Nat)) (fun (v349,v350) nx353=>((ltN v350 r264.length)=true->∃ x354,r264[v350]?=some x354/\an (α:=(List Nat)) (fun k362=>∃ x363,p0.nodes[x354]?=some x363/\ar (S:=((List Nat)×Nat)) (fun (v365,v366) nx370=>((ltN v366 x363.ins.length)=true->∃ x371,x363.ins[v366]?=some x371/\x371<p0.nodes.length/\∃ x372,v283[x371]?=some x372/\an (α:=Bool) (fun k377=>((eqN x354 p1.line.node)=true->k377 (eqZ (Int.ofNat v366) p1.line.pin))/\((eqN x354 p1.line.node)=false->k377 false)) (fun v373=>(v373=true->(v365.length+([p1.value]:(List Nat)).length)*1<=2 ^ 47/\v366+1<2 ^ 63/\nx370 ((v365++([p1.value]:(List Nat))),(v366+1)))/\(v373=false->(v365.length+([x372]:(List Nat)).length)*1<=2 ^ 47/\v366+1<2 ^ 63/\nx370 ((v365++([x372]:(List Nat))),(v366+1)))))/\((ltN v366 x363.ins.length)=false->k362 v365)) (([]:List Nat),0)) (fun v358=>∃ x386,v358[0]?=some x386/\an (α:=Nat) (fun k391=>((eqN x386 3)=true->k391 2)/\((eqN x386 3)=false->k391 x386)) (fun v388=>(v349.length+([v388]:(List Nat)).length)*1<=2 ^ 47/\v350+1<2 ^ 63/\nx353 ((v349++([v388]:(List Nat))),(v350+1)))))/\((ltN v350 r264.length)=false->k347 v349)) (([]:List Nat),0)) (fun v344=>p0.nodes.length=v283.length/\K (r6.1,(⟨v329,v344⟩:Rsp),v283,0))))))))))))))))
theorem po {p0:Circ}{p1:Flt}{p2:Pat}{K:(Rsp×Rsp×(List Nat)×Nat)->Prop} (hm:dZ p0 p1 p2 K) {h0:Heap} (hB:HasB vars h0):∃ r,K r/\CallD Tryz.prog NG 23 ⟨[aB p0,aw p1,lY p2]⟩ h0 ((fun (r:(Rsp×Rsp×(List Nat)×Nat))=>Value.tuple ⟨[gx (r.1),gx (r.2.1),(ah 1 n8) (r.2.2.1),i64 (r.2.2.2)]⟩) r) h0:=by
 unfold dZ at hm
 refine fw Tryz.func23 hB (enc:=(fun (r:(Rsp×Rsp×(List Nat)×Nat))=>Value.tuple ⟨[gx (r.1),gx (r.2.1),(ah 1 n8) (r.2.2.1),i64 (r.2.2.2)]⟩)) (fun r=>PureV.tup (ai.cons (oz _) (ai.cons (oz _) (ai.cons (eF (fun _=>ai.cons (PureV.flat rfl) ai.nil)) (ai.cons (PureV.flat rfl) (ai.nil)))))) fun O=>?_;conv=>whnf
 refine gX ?_
 refine fz ?_;refine gH ?_
 refine fz ?_;refine gH ?_
 refine fz ?_;refine gH ?_
 (first|refine O.new (ak (l:=[nS,nS]) rfl rfl rfl) fun g1 h O=>?_|refine O.dy (ak (l:=[nS,nS]) rfl rfl rfl) fun g1 h O=>?_);refine gH ?_
 (first|refine O.new (ak (l:=[nS,nS]) rfl rfl rfl) fun g3 h O=>?_|refine O.dy (ak (l:=[nS,nS]) rfl rfl rfl) fun g3 h O=>?_);refine gH ?_
 refine gX ?_
 refine ca (jG hm O.has) fun r5 hm=>?_;refine gX ?_
 refine br hm (fun hm=>?_) fun hm=>?_
 ·refine gX ?_
  refine ldA (O.at (.tail _ (.head _))) ?_;refine gH ?_
  first|refine⟨.inr (.inr (bh rfl (O.at (.tail _ (.head _))) rfl rfl (lbE rfl) rfl)),?_⟩|refine⟨.inr (.inl (by kernel_rfl)),?_⟩
  refine gX ?_
  refine ldA (O.at (.head _)) ?_;refine gH ?_
  first|refine⟨.inr (.inr (bh rfl (O.at (.head _)) rfl rfl (lbE rfl) rfl)),?_⟩|refine⟨.inr (.inl (by kernel_rfl)),?_⟩
  refine gX ?_
  refine O.jO 2 (.tail _ (.head _)) fun h hext O=>?_;conv=>whnf
  refine⟨.inr hext,?_⟩;refine gH ?_
  refine O.jO 2 (.head _) fun h hext O=>?_;conv=>whnf
  refine⟨.inr hext,?_⟩;refine gX ?_
  refine⟨_,aH rfl rfl (O.at (.tail _ (.head _))) rfl rfl (lbE rfl) rfl,?_⟩;conv=>whnf
  refine⟨_,aH rfl rfl (O.at (.head _)) rfl rfl (lbE rfl) rfl,?_⟩;conv=>whnf
  exact⟨((⟨[],[]⟩:Rsp),(⟨[],[]⟩:Rsp),[],r5),hm,O.ext,fun h2 F=>VLe.tup (LLe.cons (VLe.agg (LLe.cons (VLe.nil _ _) (LLe.cons (VLe.nil _ _) (LLe.nil _)))) (LLe.cons (VLe.agg (LLe.cons (VLe.nil _ _) (LLe.cons (VLe.nil _ _) (LLe.nil _)))) (LLe.cons (VLe.nil _ _) (LLe.cons (VLe.refl _ _) (LLe.nil _)))))⟩
 ·refine gX ?_
  refine br hm (fun hm=>?_) fun hm=>?_
  ·refine gX ?_
   refine ldA (O.at (.tail _ (.head _))) ?_;refine gH ?_
   first|refine⟨.inr (.inr (bh rfl (O.at (.tail _ (.head _))) rfl rfl (lbE rfl) rfl)),?_⟩|refine⟨.inr (.inl (by kernel_rfl)),?_⟩
   refine gX ?_
   refine ldA (O.at (.head _)) ?_;refine gH ?_
   first|refine⟨.inr (.inr (bh rfl (O.at (.head _)) rfl rfl (lbE rfl) rfl)),?_⟩|refine⟨.inr (.inl (by kernel_rfl)),?_⟩
   refine gX ?_
   refine O.jO 2 (.tail _ (.head _)) fun h hext O=>?_;conv=>whnf
   refine⟨.inr hext,?_⟩;refine gH ?_
   refine O.jO 2 (.head _) fun h hext O=>?_;conv=>whnf
   refine⟨.inr hext,?_⟩;refine gX ?_
   refine⟨_,aH rfl rfl (O.at (.tail _ (.head _))) rfl rfl (lbE rfl) rfl,?_⟩;conv=>whnf
   refine⟨_,aH rfl rfl (O.at (.head _)) rfl rfl (lbE rfl) rfl,?_⟩;conv=>whnf
   exact⟨((⟨[],[]⟩:Rsp),(⟨[],[]⟩:Rsp),[],7),hm,O.ext,fun h2 F=>VLe.tup (LLe.cons (VLe.agg (LLe.cons (VLe.nil _ _) (LLe.cons (VLe.nil _ _) (LLe.nil _)))) (LLe.cons (VLe.agg (LLe.cons (VLe.nil _ _) (LLe.cons (VLe.nil _ _) (LLe.nil _)))) (LLe.cons (VLe.nil _ _) (LLe.cons (VLe.refl _ _) (LLe.nil _)))))⟩
  ·refine gX ?_
   refine ca (tM hm O.has) fun r6 hm=>?_;refine gH ?_
   refine O.stC 2 (.tail _ (.head _)) [((ah 1 n8) r6.1.out),((ah 1 n8) r6.1.next)] fun h O=>?_;refine gX ?_
   refine br hm (fun hm=>?_) fun hm=>?_
   ·refine gX ?_
    exact False.elim hm
   ·refine gX ?_
    refine fg Tryz.func37 ?_;refine gX ?_
    refine fz ?_;refine gH ?_
    refine fz ?_;refine gH ?_
    refine fz ?_;refine gH ?_
    apply Cs;conv=>whnf
    refine CodeS.jD ?_;refine gH ?_
    (first|refine O.new (ak (l:=[(i64 0)]) rfl rfl rfl) fun g7 h O=>?_|refine O.dy (ak (l:=[(i64 0)]) rfl rfl rfl) fun g7 h O=>?_);refine gH ?_
    (first|refine O.new (ak (l:=[(i64 0)]) rfl rfl rfl) fun g9 h O=>?_|refine O.dy (ak (l:=[(i64 0)]) rfl rfl rfl) fun g9 h O=>?_);refine gH ?_
    refine O.stC 1 (.tail _ (.head _)) [(i64 p1.line.node)] fun h O=>?_;refine gH ?_
    refine O.stC 1 (.head _) [(i64 p1.other)] fun h O=>?_;refine gX ?_
    refine br hm (fun hm=>?_) fun hm=>?_
    ·apply Cs;conv=>whnf
     refine CodeS.ve (v:=(i64 p1.other)) O (.head _) (t2:=8) rfl rfl rfl fun h O=>?_;conv=>whnf
     refine CodeS.ve (v:=(i64 p1.line.node)) O (.tail _ (.head _)) (t2:=7) rfl rfl rfl fun h O=>?_;conv=>whnf
     refine CodeS.jD ?_;refine gH ?_
     exact False.elim hm
    ·refine gX ?_
     refine br hm (fun hm=>?_) fun hm=>?_
     ·refine gX ?_
      refine fg Tryz.func68 ?_;refine gX ?_
      refine fz ?_;refine gH ?_
      refine fz ?_;refine gH ?_
      (first|refine O.new (nJ rfl) fun g11 h O=>?_|refine O.dy (nJ rfl) fun g11 h O=>?_);refine gH ?_
      refine gX ?_
      (first|refine O.new (nJ rfl) fun g13 h O=>?_|refine O.dy (nJ rfl) fun g13 h O=>?_);refine gH ?_
      refine gX ?_
      refine br hm (fun hm=>?_) fun hm=>?_
      ·refine gX ?_
       refine O.stC 1 (.head _) (cy p0 nS (clo 103 [(FP (av p1.line)),(pG g11)]) (clo 66 [])) fun h O=>?_;refine gX ?_
       refine fg Tryz.func38 ?_;refine gX ?_
       refine fz ?_;refine gH ?_
       (first|refine O.new (ak (l:=[nS,nS]) rfl rfl rfl) fun g15 h O=>?_|refine O.dy (ak (l:=[nS,nS]) rfl rfl rfl) fun g15 h O=>?_);refine gH ?_
       refine gX ?_
       refine O.mkL (enc:=n8) 1 1 0 hm fun g17 h O hm=>?_;refine gH ?_
       refine O.stC 1 (.tail _ (.tail _ (.head _))) (cy p0 (.slice (some ⟨g17,0,none⟩) p0.nodes.length p0.nodes.length) (clo 103 [(FP (av p1.line)),(pG g11)]) (clo 66 [])) fun h O=>?_;refine gH ?_
       apply Cs;conv=>whnf
       refine CodeS.vM O (.tail _ (.tail _ (.head _))) 0 rfl rfl fun h O=>?_;refine gX ?_
       refine ca (bM hm O.has) fun r19 hm=>?_;refine gH ?_
       refine jn hm 189 [0,3,4,5] (fun s=>s) (fun v20 h=>Own vars h0 [(sC g17 (flatC (v20.map n8))),(sC g11 [(clo 69 [(FP ((ah 1 n8) r6.2.1)),(pG g9)])]),(sC g9 [(i64 p1.other)]),(sC g15 [nS,nS]),(sC g1 [((ah 1 n8) r6.1.out),((ah 1 n8) r6.1.next)]),(sC g3 [nS,nS]),(sR g13 (cy p0 (.slice (some ⟨g17,0,none⟩) p0.nodes.length p0.nodes.length) (clo 103 [(FP (av p1.line)),(pG g11)]) (clo 66 [])))] h) (fun v20=>[]) (fun hm=>?_) ?_
       ·refine gX ?_
        refine ca (cr hm O.has) fun r22 hm=>?_;refine gX ?_
        refine lw 189 [0,3,4,5,41,42] (σ:=((List Nat)×Nat)) (fun s=>s) (fun (v23,v24) h=>Own vars h0 [(sC g17 (flatC (v23.map n8))),(sC g11 [(clo 69 [(FP ((ah 1 n8) r6.2.1)),(pG g9)])]),(sC g9 [(i64 p1.other)]),(sC g15 [nS,nS]),(sC g1 [((ah 1 n8) r6.1.out),((ah 1 n8) r6.1.next)]),(sC g3 [nS,nS]),(sR g13 (cy p0 (.slice (some ⟨g17,0,none⟩) p0.nodes.length p0.nodes.length) (clo 103 [(FP (av p1.line)),(pG g11)]) (clo 66 [])))] h) (fun (v23,v24)=>[(43,(i64 v24))]) ((List.replicate p0.nodes.length (0:Nat)),0) hm (O.sel [0,3,4,1,7,6,2] (by decide)) ?_
        clear hm;rintro⟨v23,v24⟩ nx25 base h hm O
        refine gX ?_
        refine br hm (fun hm=>?_) fun hm=>?_
        ·refine gX ?_
         refine atF hm fun x26 hx26 hm=>?_;refine gX ?_
         refine dF ?_
         refine gX ?_
         refine dF ?_
         refine gX ?_
         refine atF hm fun x27 hx27 hm=>?_;refine gH ?_
         refine ix 1 hm fun x28 hx28 hm=>?_;refine gH ?_
         refine O.stE 1 (.head _) hx28 x27 fun h O=>?_;refine gH ?_
         (first|refine⟨.inr (.inr (ae rfl (O.at (.head _)) rfl rfl)),?_⟩|refine⟨.inr (.inr (ae rfl (O.at (.tail _ (.head _))) rfl rfl)),?_⟩|refine⟨.inr (.inr (ae rfl (O.at (.tail _ (.tail _ (.head _)))) rfl rfl)),?_⟩|refine⟨.inr (.inr (ae rfl (O.at (.tail _ (.tail _ (.tail _ (.head _))))) rfl rfl)),?_⟩|refine⟨.inr (.inr (ae rfl (O.at (.tail _ (.tail _ (.tail _ (.tail _ (.head _)))))) rfl rfl)),?_⟩|refine⟨.inr (.inr (ae rfl (O.at (.tail _ (.tail _ (.tail _ (.tail _ (.tail _ (.head _))))))) rfl rfl)),?_⟩|refine⟨.inr (.inr (ae rfl (O.at (.tail _ (.tail _ (.tail _ (.tail _ (.tail _ (.tail _ (.head _)))))))) rfl rfl)),?_⟩|refine⟨.inl (Ext.refl _),?_⟩|refine⟨.inr (.inr rfl),?_⟩|refine⟨.inr (by kernel_rfl),?_⟩|refine⟨.inl (by kernel_rfl),?_⟩|refine id ?_);refine gH ?_
         refine gX ?_
         refine aL hm fun hm=>?_;refine gH ?_
         exact jx ((v23.set x26 x27),(v24+1)) hm O
        ·refine gX ?_
         exact jx v23 hm O
       ·clear hm;rintro v20 base h hm O
        conv=>whnf
        refine jn hm 189 [0,4,5] (fun s=>s) (fun v29 h=>Own vars h0 [(sC g17 (flatC (v29.map n8))),(sC g11 [(clo 69 [(FP ((ah 1 n8) r6.2.1)),(pG g9)])]),(sC g9 [(i64 p1.other)]),(sC g15 [nS,nS]),(sC g1 [((ah 1 n8) r6.1.out),((ah 1 n8) r6.1.next)]),(sC g3 [nS,nS]),(sR g13 (cy p0 (.slice (some ⟨g17,0,none⟩) p0.nodes.length p0.nodes.length) (clo 103 [(FP (av p1.line)),(pG g11)]) (clo 66 [])))] h) (fun v29=>[]) (fun hm=>?_) ?_
        ·refine gX ?_
         refine lw 189 [0,3,4,5,60,61] (σ:=((List Nat)×Nat)) (fun s=>s) (fun (v31,v32) h=>Own vars h0 [(sC g17 (flatC (v31.map n8))),(sC g11 [(clo 69 [(FP ((ah 1 n8) r6.2.1)),(pG g9)])]),(sC g9 [(i64 p1.other)]),(sC g15 [nS,nS]),(sC g1 [((ah 1 n8) r6.1.out),((ah 1 n8) r6.1.next)]),(sC g3 [nS,nS]),(sR g13 (cy p0 (.slice (some ⟨g17,0,none⟩) p0.nodes.length p0.nodes.length) (clo 103 [(FP (av p1.line)),(pG g11)]) (clo 66 [])))] h) (fun (v31,v32)=>[(62,(i64 v32))]) (v20,0) hm O ?_
         clear hm;rintro⟨v31,v32⟩ nx33 base h hm O
         refine gX ?_
         refine br hm (fun hm=>?_) fun hm=>?_
         ·refine gX ?_
          refine atF hm fun x34 hx34 hm=>?_;refine gX ?_
          refine dF ?_
          refine gX ?_
          refine dF ?_
          refine gX ?_
          refine atF hm fun x35 hx35 hm=>?_;refine gH ?_
          refine ix 1 hm fun x36 hx36 hm=>?_;refine gH ?_
          refine O.stE 1 (.head _) hx36 x35 fun h O=>?_;refine gH ?_
          (first|refine⟨.inr (.inr (ae rfl (O.at (.head _)) rfl rfl)),?_⟩|refine⟨.inr (.inr (ae rfl (O.at (.tail _ (.head _))) rfl rfl)),?_⟩|refine⟨.inr (.inr (ae rfl (O.at (.tail _ (.tail _ (.head _)))) rfl rfl)),?_⟩|refine⟨.inr (.inr (ae rfl (O.at (.tail _ (.tail _ (.tail _ (.head _))))) rfl rfl)),?_⟩|refine⟨.inr (.inr (ae rfl (O.at (.tail _ (.tail _ (.tail _ (.tail _ (.head _)))))) rfl rfl)),?_⟩|refine⟨.inr (.inr (ae rfl (O.at (.tail _ (.tail _ (.tail _ (.tail _ (.tail _ (.head _))))))) rfl rfl)),?_⟩|refine⟨.inr (.inr (ae rfl (O.at (.tail _ (.tail _ (.tail _ (.tail _ (.tail _ (.tail _ (.head _)))))))) rfl rfl)),?_⟩|refine⟨.inl (Ext.refl _),?_⟩|refine⟨.inr (.inr rfl),?_⟩|refine⟨.inr (by kernel_rfl),?_⟩|refine⟨.inl (by kernel_rfl),?_⟩|refine id ?_);refine gH ?_
          refine gX ?_
          refine aL hm fun hm=>?_;refine gH ?_
          exact jx ((v31.set x34 x35),(v32+1)) hm O
         ·refine gX ?_
          exact jx v31 hm O
        ·clear hm;rintro v29 base h hm O
         refine gX ?_
         refine ca (dh hm O.has) fun r37 hm=>?_;refine gH ?_
         apply Cs;conv=>whnf
         apply Cs;refine gH ?_
         refine jn hm 189 [0,4,5] (fun s=>s) (fun v38 h=>Own vars h0 [(sC g17 (flatC (v38.map n8))),(sC g11 [(clo 69 [(FP ((ah 1 n8) r6.2.1)),(pG g9)])]),(sC g9 [(i64 p1.other)]),(sC g15 [nS,nS]),(sC g1 [((ah 1 n8) r6.1.out),((ah 1 n8) r6.1.next)]),(sC g3 [nS,nS]),(sR g13 (cy p0 (.slice (some ⟨g17,0,none⟩) p0.nodes.length p0.nodes.length) (clo 103 [(FP (av p1.line)),(pG g11)]) (clo 66 [])))] h) (fun v38=>[]) (fun hm=>?_) ?_
         ·refine gX ?_
          refine lw 189 [0,4,5,12,89,90] (σ:=((List Nat)×Nat)) (fun s=>s) (fun (v40,v41) h=>Own vars h0 [(sC g17 (flatC (v40.map n8))),(sC g11 [(clo 69 [(FP ((ah 1 n8) r6.2.1)),(pG g9)])]),(sC g9 [(i64 p1.other)]),(sC g15 [nS,nS]),(sC g1 [((ah 1 n8) r6.1.out),((ah 1 n8) r6.1.next)]),(sC g3 [nS,nS]),(sR g13 (cy p0 (.slice (some ⟨g17,0,none⟩) p0.nodes.length p0.nodes.length) (clo 103 [(FP (av p1.line)),(pG g11)]) (clo 66 [])))] h) (fun (v40,v41)=>[(91,(i64 v41))]) (v29,0) hm O ?_
          clear hm;rintro⟨v40,v41⟩ nx42 base h hm O
          refine gX ?_
          refine br hm (fun hm=>?_) fun hm=>?_
          ·refine gX ?_
           refine atF hm fun x43 hx43 hm=>?_;refine gH ?_
           refine jn hm 189 [0,4,5,12,14,89,90,91] (fun s=>s) (fun v44 h=>Own vars h0 [(sC g17 (flatC (v44.map n8))),(sC g11 [(clo 69 [(FP ((ah 1 n8) r6.2.1)),(pG g9)])]),(sC g9 [(i64 p1.other)]),(sC g15 [nS,nS]),(sC g1 [((ah 1 n8) r6.1.out),((ah 1 n8) r6.1.next)]),(sC g3 [nS,nS]),(sR g13 (cy p0 (.slice (some ⟨g17,0,none⟩) p0.nodes.length p0.nodes.length) (clo 103 [(FP (av p1.line)),(pG g11)]) (clo 66 [])))] h) (fun v44=>[]) (fun hm=>?_) ?_
           ·refine gX ?_
            refine atF hm fun x46 hx46 hm=>?_;refine gH ?_
            refine jn hm 189 [0,4,5,12,14,89,90,91] (fun s=>s) (fun v47 h=>Own vars h0 [(sC g17 (flatC (v40.map n8))),(sC g11 [(clo 69 [(FP ((ah 1 n8) r6.2.1)),(pG g9)])]),(sC g9 [(i64 p1.other)]),(sC g15 [nS,nS]),(sC g1 [((ah 1 n8) r6.1.out),((ah 1 n8) r6.1.next)]),(sC g3 [nS,nS]),(sR g13 (cy p0 (.slice (some ⟨g17,0,none⟩) p0.nodes.length p0.nodes.length) (clo 103 [(FP (av p1.line)),(pG g11)]) (clo 66 [])))] h) (fun v47=>[(109,(.bool v47))]) (fun hm=>?_) ?_
            ·refine gX ?_
             refine br hm (fun hm=>?_) fun hm=>?_
             ·refine gX ?_
              exact jx (neN x46.kind 14) hm O
             ·refine gX ?_
              exact jx false hm O
            ·clear hm;rintro v47 base h hm O
             refine gX ?_
             refine br hm (fun hm=>?_) fun hm=>?_
             ·refine CodeS.jD ?_;refine gH ?_
              refine fg Tryz.func73 ?_;conv=>whnf
              apply Cs;conv=>whnf
              apply Cs;refine gH ?_
              apply Cs;conv=>whnf
              refine CodeS.jD ?_;refine gH ?_
              refine atF hm fun x49 hx49 hm=>?_;refine gH ?_
              refine fg Tryz.func74 ?_;conv=>whnf
              apply Cs;conv=>whnf
              apply Cs;refine gH ?_
              have O:=O.aM (.cells (flatC ((([]:List Nat)).map n8)) false)
              apply Cs;conv=>whnf
              apply Cs;refine gH ?_
              have O:=O.aM (.cells (flatC ((([]:List Nat)).map n8)) false)
              refine jn (σ:=(List Nat)×Option Nat) hm 42 [] (fun s=>s.1) (fun (v53,a52) h=>(a52=none->v53=[])/\Own vars h0 [(a52,.cells (flatC (v53.map n8)) false),(sC g1 [((ah 1 n8) r6.1.out),((ah 1 n8) r6.1.next)]),(sC g3 [nS,nS]),(sR g13 (cy p0 (.slice (some ⟨g17,0,none⟩) p0.nodes.length p0.nodes.length) (clo 103 [(FP (av p1.line)),(pG g11)]) (clo 66 []))),(sC g17 (flatC (v40.map n8))),(sC g11 [(clo 69 [(FP ((ah 1 n8) r6.2.1)),(pG g9)])]),(sC g9 [(i64 p1.other)]),(sC g15 [nS,nS])] h) (fun (v53,a52)=>[(5,(ag 1 a52 (v53.map n8)))]) (fun hm=>?_) ?_
              ·refine gX ?_
               refine atF hm fun x56 hx56 hm=>?_;refine gX ?_
               refine lw 42 [0,1,16,17] (σ:=((List Nat)×Nat)×Option Nat) (fun s=>s.1) (fun ((v58,v59),a57) h=>(a57=none->v58=[])/\Own vars h0 [(sC g17 (flatC (v40.map n8))),(sC g11 [(clo 69 [(FP ((ah 1 n8) r6.2.1)),(pG g9)])]),(sC g9 [(i64 p1.other)]),(a57,.cells (flatC (v58.map n8)) false),(sC g1 [((ah 1 n8) r6.1.out),((ah 1 n8) r6.1.next)]),(sC g3 [nS,nS]),(sR g13 (cy p0 (.slice (some ⟨g17,0,none⟩) p0.nodes.length p0.nodes.length) (clo 103 [(FP (av p1.line)),(pG g11)]) (clo 66 []))),(sC g15 [nS,nS])] h) (fun ((v58,v59),a57)=>[(5,(ag 1 a57 (v58.map n8))),(18,(i64 v59))]) ((([]:List Nat),0),none) hm ⟨(fun _=>rfl),(O.sel [2,3,4,0,6,7,8,5] (by decide))⟩ ?_
               clear hm;rintro⟨⟨v58,v59⟩,a57⟩ nx61 base h hm ⟨ha60,O⟩
               refine gX ?_
               refine br hm (fun hm=>?_) fun hm=>?_
               ·refine gX ?_
                refine atF hm fun x62 hx62 hm=>?_;refine gX ?_
                refine dF ?_
                refine gX ?_
                refine dF ?_
                refine gX ?_
                refine ix 1 hm fun x63 hx63 hm=>?_;refine gH ?_
                refine⟨_,ae rfl (O.at (.head _)) rfl (bC (enc:=n8) (s:=1) (k:=0) (fun _=>rfl) hx63 rfl),?_⟩;refine gH ?_
                refine fg Tryz.func66 ?_;refine gX ?_
                (first|refine⟨.inr (.inr (ae rfl (O.at (.head _)) rfl rfl)),?_⟩|refine⟨.inr (.inr (ae rfl (O.at (.tail _ (.head _))) rfl rfl)),?_⟩|refine⟨.inr (.inr (ae rfl (O.at (.tail _ (.tail _ (.head _)))) rfl rfl)),?_⟩|refine⟨.inr (.inr (ae rfl (O.at (.tail _ (.tail _ (.tail _ (.head _))))) rfl rfl)),?_⟩|refine⟨.inr (.inr (ae rfl (O.at (.tail _ (.tail _ (.tail _ (.tail _ (.head _)))))) rfl rfl)),?_⟩|refine⟨.inr (.inr (ae rfl (O.at (.tail _ (.tail _ (.tail _ (.tail _ (.tail _ (.head _))))))) rfl rfl)),?_⟩|refine⟨.inr (.inr (ae rfl (O.at (.tail _ (.tail _ (.tail _ (.tail _ (.tail _ (.tail _ (.head _)))))))) rfl rfl)),?_⟩|refine⟨.inl (Ext.refl _),?_⟩|refine⟨.inr (.inr rfl),?_⟩|refine⟨.inr (by kernel_rfl),?_⟩|refine⟨.inl (by kernel_rfl),?_⟩|refine id ?_);refine gH ?_
                refine O.bV (l:=([x63]:(List Nat))) (enc:=n8) (s:=1) (z:=(n8 0)) rfl rfl (by kernel_rfl) (by kernel_rfl) rfl rfl rfl rfl (fun _=>rfl) fun g64 h O=>?_;refine gH ?_
                refine O.cu (enc:=n8) (l:=v58) (new:=([x63]:(List Nat))) (s:=1) (b:=1) (.tail _ (.tail _ (.tail _ (.tail _ (.head _))))) ha60 rfl rfl rfl rfl rfl rfl rfl rfl (YOk.own (O.at (.head _)) rfl (fun _=>rfl) rfl) (fun _=>rfl) (fun _=>rfl) (by decide) hm.1 fun a66 h ha67 O=>?_;refine gH ?_
                (first|refine⟨.inr (.inr (ae rfl (O.at (.head _)) rfl rfl)),?_⟩|refine⟨.inr (.inr (ae rfl (O.at (.tail _ (.head _))) rfl rfl)),?_⟩|refine⟨.inr (.inr (ae rfl (O.at (.tail _ (.tail _ (.head _)))) rfl rfl)),?_⟩|refine⟨.inr (.inr (ae rfl (O.at (.tail _ (.tail _ (.tail _ (.head _))))) rfl rfl)),?_⟩|refine⟨.inr (.inr (ae rfl (O.at (.tail _ (.tail _ (.tail _ (.tail _ (.head _)))))) rfl rfl)),?_⟩|refine⟨.inr (.inr (ae rfl (O.at (.tail _ (.tail _ (.tail _ (.tail _ (.tail _ (.head _))))))) rfl rfl)),?_⟩|refine⟨.inr (.inr (ae rfl (O.at (.tail _ (.tail _ (.tail _ (.tail _ (.tail _ (.tail _ (.head _)))))))) rfl rfl)),?_⟩|refine⟨.inl (Ext.refl _),?_⟩|refine⟨.inr (.inr rfl),?_⟩|refine⟨.inr (by kernel_rfl),?_⟩|refine⟨.inl (by kernel_rfl),?_⟩|refine id ?_);refine gH ?_
                replace hm:=hm.2
                refine gX ?_
                refine aL hm fun hm=>?_;refine gH ?_
                exact jx (((v58++([x63]:(List Nat))),(v59+1)),a66) hm ⟨ha67,(O.sel [1,2,3,4,5,6,7,8] (by decide))⟩
               ·refine gX ?_
                exact jx (v58,a57) hm ⟨ha60,(O.sel [3,4,5,6,0,1,2,7] (by decide))⟩
              ·clear hm;rintro⟨v53,a52⟩ base h hm ⟨ha54,O⟩
               refine gX ?_
               refine CallD.CP (fun _ hb=>fq hm hb) (fun _=>mv rfl) sD O.has (fun h2 F=>(LLe.cons (VLe.refl _ _) (LLe.cons (O.iz F (Nat.zero_le _) (.head _) ha54 (fun _=>rfl)) (LLe.nil _)))) (by kernel_rfl) (fun r68 hm'=>?_);replace hm:=hm';refine gX ?_
               refine ix 1 hm fun x69 hx69 hm=>?_;refine gH ?_
               refine O.stE 1 (.tail _ (.tail _ (.tail _ (.tail _ (.head _))))) hx69 r68 fun h O=>?_;refine gH ?_
               exact jx (v40.set x43 r68) hm (O.sel [4,5,6,7,1,2,3] (by decide))
             ·refine gX ?_
              exact jx v40 hm O
           ·clear hm;rintro v44 base h hm O
            refine gX ?_
            refine dF ?_
            refine gX ?_
            refine dF ?_
            refine gX ?_
            refine dF ?_
            refine gX ?_
            refine ix 1 hm fun x70 hx70 hm=>?_;refine gH ?_
            refine⟨_,ae rfl (O.at (.head _)) rfl (bC (enc:=n8) (s:=1) (k:=0) (fun _=>rfl) hx70 rfl),?_⟩;refine gH ?_
            refine fg Tryz.func103 ?_;refine gX ?_
            refine br hm (fun hm=>?_) fun hm=>?_
            ·refine gX ?_
             refine fg Tryz.func69 ?_;refine gX ?_
             refine atF hm fun x71 hx71 hm=>?_;refine gX ?_
             (first|refine⟨.inr (.inr (ae rfl (O.at (.head _)) rfl rfl)),?_⟩|refine⟨.inr (.inr (ae rfl (O.at (.tail _ (.head _))) rfl rfl)),?_⟩|refine⟨.inr (.inr (ae rfl (O.at (.tail _ (.tail _ (.head _)))) rfl rfl)),?_⟩|refine⟨.inr (.inr (ae rfl (O.at (.tail _ (.tail _ (.tail _ (.head _))))) rfl rfl)),?_⟩|refine⟨.inr (.inr (ae rfl (O.at (.tail _ (.tail _ (.tail _ (.tail _ (.head _)))))) rfl rfl)),?_⟩|refine⟨.inr (.inr (ae rfl (O.at (.tail _ (.tail _ (.tail _ (.tail _ (.tail _ (.head _))))))) rfl rfl)),?_⟩|refine⟨.inr (.inr (ae rfl (O.at (.tail _ (.tail _ (.tail _ (.tail _ (.tail _ (.tail _ (.head _)))))))) rfl rfl)),?_⟩|refine⟨.inl (Ext.refl _),?_⟩|refine⟨.inr (.inr rfl),?_⟩|refine⟨.inr (by kernel_rfl),?_⟩|refine⟨.inl (by kernel_rfl),?_⟩|refine id ?_);refine gH ?_
             refine ix 1 hm fun x72 hx72 hm=>?_;refine gH ?_
             refine O.stE 1 (.head _) hx72 x71 fun h O=>?_;refine gH ?_
             (first|refine⟨.inr (.inr (ae rfl (O.at (.head _)) rfl rfl)),?_⟩|refine⟨.inr (.inr (ae rfl (O.at (.tail _ (.head _))) rfl rfl)),?_⟩|refine⟨.inr (.inr (ae rfl (O.at (.tail _ (.tail _ (.head _)))) rfl rfl)),?_⟩|refine⟨.inr (.inr (ae rfl (O.at (.tail _ (.tail _ (.tail _ (.head _))))) rfl rfl)),?_⟩|refine⟨.inr (.inr (ae rfl (O.at (.tail _ (.tail _ (.tail _ (.tail _ (.head _)))))) rfl rfl)),?_⟩|refine⟨.inr (.inr (ae rfl (O.at (.tail _ (.tail _ (.tail _ (.tail _ (.tail _ (.head _))))))) rfl rfl)),?_⟩|refine⟨.inr (.inr (ae rfl (O.at (.tail _ (.tail _ (.tail _ (.tail _ (.tail _ (.tail _ (.head _)))))))) rfl rfl)),?_⟩|refine⟨.inl (Ext.refl _),?_⟩|refine⟨.inr (.inr rfl),?_⟩|refine⟨.inr (by kernel_rfl),?_⟩|refine⟨.inl (by kernel_rfl),?_⟩|refine id ?_);refine gH ?_
             refine gX ?_
             refine aL hm fun hm=>?_;refine gH ?_
             exact jx ((v44.set x43 x71),(v41+1)) hm O
            ·refine gX ?_
             (first|refine⟨.inr (.inr (ae rfl (O.at (.head _)) rfl rfl)),?_⟩|refine⟨.inr (.inr (ae rfl (O.at (.tail _ (.head _))) rfl rfl)),?_⟩|refine⟨.inr (.inr (ae rfl (O.at (.tail _ (.tail _ (.head _)))) rfl rfl)),?_⟩|refine⟨.inr (.inr (ae rfl (O.at (.tail _ (.tail _ (.tail _ (.head _))))) rfl rfl)),?_⟩|refine⟨.inr (.inr (ae rfl (O.at (.tail _ (.tail _ (.tail _ (.tail _ (.head _)))))) rfl rfl)),?_⟩|refine⟨.inr (.inr (ae rfl (O.at (.tail _ (.tail _ (.tail _ (.tail _ (.tail _ (.head _))))))) rfl rfl)),?_⟩|refine⟨.inr (.inr (ae rfl (O.at (.tail _ (.tail _ (.tail _ (.tail _ (.tail _ (.tail _ (.head _)))))))) rfl rfl)),?_⟩|refine⟨.inl (Ext.refl _),?_⟩|refine⟨.inr (.inr rfl),?_⟩|refine⟨.inr (by kernel_rfl),?_⟩|refine⟨.inl (by kernel_rfl),?_⟩|refine id ?_);refine gH ?_
             refine ix 1 hm fun x73 hx73 hm=>?_;refine gH ?_
             refine O.stE 1 (.head _) hx73 x70 fun h O=>?_;refine gH ?_
             (first|refine⟨.inr (.inr (ae rfl (O.at (.head _)) rfl rfl)),?_⟩|refine⟨.inr (.inr (ae rfl (O.at (.tail _ (.head _))) rfl rfl)),?_⟩|refine⟨.inr (.inr (ae rfl (O.at (.tail _ (.tail _ (.head _)))) rfl rfl)),?_⟩|refine⟨.inr (.inr (ae rfl (O.at (.tail _ (.tail _ (.tail _ (.head _))))) rfl rfl)),?_⟩|refine⟨.inr (.inr (ae rfl (O.at (.tail _ (.tail _ (.tail _ (.tail _ (.head _)))))) rfl rfl)),?_⟩|refine⟨.inr (.inr (ae rfl (O.at (.tail _ (.tail _ (.tail _ (.tail _ (.tail _ (.head _))))))) rfl rfl)),?_⟩|refine⟨.inr (.inr (ae rfl (O.at (.tail _ (.tail _ (.tail _ (.tail _ (.tail _ (.tail _ (.head _)))))))) rfl rfl)),?_⟩|refine⟨.inl (Ext.refl _),?_⟩|refine⟨.inr (.inr rfl),?_⟩|refine⟨.inr (by kernel_rfl),?_⟩|refine⟨.inl (by kernel_rfl),?_⟩|refine id ?_);refine gH ?_
             refine gX ?_
             refine aL hm fun hm=>?_;refine gH ?_
             exact jx ((v44.set x43 x70),(v41+1)) hm O
          ·refine gX ?_
           exact jx v40 hm O
         ·clear hm;rintro v38 base h hm O
          refine gX ?_
          have O:=O.aM (.cells (flatC ((([]:List Nat)).map n8)) false)
          have O:=O.aM (.cells (flatC ((([]:List Nat)).map n8)) false)
          (first|refine O.new (ak (l:=[nS,nS]) rfl rfl rfl) fun g74 h O=>?_|refine O.dy (ak (l:=[nS,nS]) rfl rfl rfl) fun g74 h O=>?_);refine gH ?_
          refine jn (σ:=(List Nat)×Option Nat) hm 189 [0,4,5,16] (fun s=>s.1) (fun (v79,a78) h=>(a78=none->v79=[])/\Own vars h0 [(sC g17 (flatC (v38.map n8))),(sC g11 [(clo 69 [(FP ((ah 1 n8) r6.2.1)),(pG g9)])]),(sC g9 [(i64 p1.other)]),(sC g15 [nS,nS]),(sC g74 [(ag 1 a78 (v79.map n8)),(ag 1 none (([]:List Nat).map n8))]),(a78,.cells (flatC (v79.map n8)) false),(none,.cells (flatC (([]:List Nat).map n8)) false),(sC g1 [((ah 1 n8) r6.1.out),((ah 1 n8) r6.1.next)]),(sC g3 [nS,nS]),(sR g13 (cy p0 (.slice (some ⟨g17,0,none⟩) p0.nodes.length p0.nodes.length) (clo 103 [(FP (av p1.line)),(pG g11)]) (clo 66 [])))] h) (fun (v79,a78)=>[]) (fun hm=>?_) ?_
          ·refine gX ?_
           refine lw 189 [0,4,5,16,143,144] (σ:=((List Nat)×Nat)×Option Nat) (fun s=>s.1) (fun ((v83,v84),a82) h=>(a82=none->v83=[])/\Own vars h0 [(sC g17 (flatC (v38.map n8))),(sC g11 [(clo 69 [(FP ((ah 1 n8) r6.2.1)),(pG g9)])]),(sC g9 [(i64 p1.other)]),(sC g15 [nS,nS]),(sC g74 [(ag 1 a82 (v83.map n8)),(ag 1 none (([]:List Nat).map n8))]),(a82,.cells (flatC (v83.map n8)) false),(none,.cells (flatC (([]:List Nat).map n8)) false),(sC g1 [((ah 1 n8) r6.1.out),((ah 1 n8) r6.1.next)]),(sC g3 [nS,nS]),(sR g13 (cy p0 (.slice (some ⟨g17,0,none⟩) p0.nodes.length p0.nodes.length) (clo 103 [(FP (av p1.line)),(pG g11)]) (clo 66 [])))] h) (fun ((v83,v84),a82)=>[(145,(i64 v84))]) ((([]:List Nat),0),none) hm ⟨(fun _=>rfl),(O.sel [3,4,5,6,0,2,1,7,8,9] (by decide))⟩ ?_
           clear hm;rintro⟨⟨v83,v84⟩,a82⟩ nx86 base h hm ⟨ha85,O⟩
           refine gX ?_
           refine br hm (fun hm=>?_) fun hm=>?_
           ·refine gX ?_
            refine atF hm fun x87 hx87 hm=>?_;refine gX ?_
            refine ldO (O.at (.tail _ (.tail _ (.tail _ (.tail _ (.head _)))))) ?_;refine gH ?_
            first|refine⟨.inr (.inr (ae rfl (O.at (.tail _ (.tail _ (.tail _ (.tail _ (.head _)))))) rfl rfl)),?_⟩|refine⟨.inr (.inl (by kernel_rfl)),?_⟩
            refine gX ?_
            refine dF ?_
            refine gX ?_
            refine ix 1 hm fun x88 hx88 hm=>?_;refine gH ?_
            refine⟨_,ae rfl (O.at (.head _)) rfl (bC (enc:=n8) (s:=1) (k:=0) (fun _=>rfl) hx88 rfl),?_⟩;refine gH ?_
            refine O.bV (l:=([x88]:(List Nat))) (enc:=n8) (s:=1) (z:=(n8 0)) rfl rfl (by kernel_rfl) (by kernel_rfl) rfl rfl rfl rfl (fun _=>rfl) fun g89 h O=>?_;refine gH ?_
            refine O.cu (enc:=n8) (l:=v83) (new:=([x88]:(List Nat))) (s:=1) (b:=1) (.tail _ (.tail _ (.tail _ (.tail _ (.tail _ (.tail _ (.head _))))))) ha85 rfl rfl rfl rfl rfl rfl rfl rfl (YOk.own (O.at (.head _)) rfl (fun _=>rfl) rfl) (fun _=>rfl) (fun _=>rfl) (by decide) hm.1 fun a91 h ha92 O=>?_;refine gH ?_
            (first|refine⟨.inr (.inr (ae rfl (O.at (.head _)) rfl rfl)),?_⟩|refine⟨.inr (.inr (ae rfl (O.at (.tail _ (.head _))) rfl rfl)),?_⟩|refine⟨.inr (.inr (ae rfl (O.at (.tail _ (.tail _ (.head _)))) rfl rfl)),?_⟩|refine⟨.inr (.inr (ae rfl (O.at (.tail _ (.tail _ (.tail _ (.head _))))) rfl rfl)),?_⟩|refine⟨.inr (.inr (ae rfl (O.at (.tail _ (.tail _ (.tail _ (.tail _ (.head _)))))) rfl rfl)),?_⟩|refine⟨.inr (.inr (ae rfl (O.at (.tail _ (.tail _ (.tail _ (.tail _ (.tail _ (.head _))))))) rfl rfl)),?_⟩|refine⟨.inr (.inr (ae rfl (O.at (.tail _ (.tail _ (.tail _ (.tail _ (.tail _ (.tail _ (.head _)))))))) rfl rfl)),?_⟩|refine⟨.inl (Ext.refl _),?_⟩|refine⟨.inr (.inr rfl),?_⟩|refine⟨.inr (by kernel_rfl),?_⟩|refine⟨.inl (by kernel_rfl),?_⟩|refine id ?_);refine gH ?_
            replace hm:=hm.2
            refine O.stC 1 (.tail _ (.tail _ (.tail _ (.tail _ (.tail _ (.head _)))))) [(ag 1 a91 ((v83++([x88]:(List Nat))).map n8)),(ag 1 none (([]:List Nat).map n8))] fun h O=>?_;refine gH ?_
            (first|refine⟨.inr (.inr (ae rfl (O.at (.head _)) rfl rfl)),?_⟩|refine⟨.inr (.inr (ae rfl (O.at (.tail _ (.head _))) rfl rfl)),?_⟩|refine⟨.inr (.inr (ae rfl (O.at (.tail _ (.tail _ (.head _)))) rfl rfl)),?_⟩|refine⟨.inr (.inr (ae rfl (O.at (.tail _ (.tail _ (.tail _ (.head _))))) rfl rfl)),?_⟩|refine⟨.inr (.inr (ae rfl (O.at (.tail _ (.tail _ (.tail _ (.tail _ (.head _)))))) rfl rfl)),?_⟩|refine⟨.inr (.inr (ae rfl (O.at (.tail _ (.tail _ (.tail _ (.tail _ (.tail _ (.head _))))))) rfl rfl)),?_⟩|refine⟨.inr (.inr (ae rfl (O.at (.tail _ (.tail _ (.tail _ (.tail _ (.tail _ (.tail _ (.head _)))))))) rfl rfl)),?_⟩|refine⟨.inl (Ext.refl _),?_⟩|refine⟨.inr (.inr rfl),?_⟩|refine⟨.inr (by kernel_rfl),?_⟩|refine⟨.inl (by kernel_rfl),?_⟩|refine id ?_);refine gH ?_
            refine gX ?_
            refine aL hm fun hm=>?_;refine gH ?_
            exact jx (((v83++([x88]:(List Nat))),(v84+1)),a91) hm ⟨ha92,(O.sel [1,2,3,4,5,6,7,8,9,10] (by decide))⟩
           ·refine gX ?_
            exact jx (v83,a82) hm ⟨ha85,O⟩
          ·clear hm;rintro⟨v79,a78⟩ base h hm ⟨ha80,O⟩
           conv=>whnf
           refine jn (σ:=(List Nat)×Option Nat) hm 189 [4,16] (fun s=>s.1) (fun (v94,a93) h=>(a78=none->v79=[])/\(a93=none->v94=[])/\Own vars h0 [(sC g15 [nS,nS]),(sC g74 [(ag 1 a78 (v79.map n8)),(ag 1 a93 (v94.map n8))]),(a78,.cells (flatC (v79.map n8)) false),(a93,.cells (flatC (v94.map n8)) false),(sC g1 [((ah 1 n8) r6.1.out),((ah 1 n8) r6.1.next)]),(sC g3 [nS,nS]),(sR g13 (cy p0 (.slice (some ⟨g17,0,none⟩) p0.nodes.length p0.nodes.length) (clo 103 [(FP (av p1.line)),(pG g11)]) (clo 66 []))),(sC g17 (flatC (v38.map n8))),(sC g11 [(clo 69 [(FP ((ah 1 n8) r6.2.1)),(pG g9)])]),(sC g9 [(i64 p1.other)])] h) (fun (v94,a93)=>[]) (fun hm=>?_) ?_
           ·refine gX ?_
            refine lw 189 [0,4,16,162,163] (σ:=((List Nat)×Nat)×Option Nat) (fun s=>s.1) (fun ((v99,v100),a98) h=>(a78=none->v79=[])/\(a98=none->v99=[])/\Own vars h0 [(sC g17 (flatC (v38.map n8))),(sC g11 [(clo 69 [(FP ((ah 1 n8) r6.2.1)),(pG g9)])]),(sC g9 [(i64 p1.other)]),(sC g15 [nS,nS]),(sC g74 [(ag 1 a78 (v79.map n8)),(ag 1 a98 (v99.map n8))]),(a78,.cells (flatC (v79.map n8)) false),(a98,.cells (flatC (v99.map n8)) false),(sC g1 [((ah 1 n8) r6.1.out),((ah 1 n8) r6.1.next)]),(sC g3 [nS,nS]),(sR g13 (cy p0 (.slice (some ⟨g17,0,none⟩) p0.nodes.length p0.nodes.length) (clo 103 [(FP (av p1.line)),(pG g11)]) (clo 66 [])))] h) (fun ((v99,v100),a98)=>[(164,(i64 v100))]) ((([]:List Nat),0),none) hm ⟨ha80,(fun _=>rfl),O⟩ ?_
            clear hm;rintro⟨⟨v99,v100⟩,a98⟩ nx103 base h hm ⟨ha101,ha102,O⟩
            refine gX ?_
            refine br hm (fun hm=>?_) fun hm=>?_
            ·refine gX ?_
             refine atF hm fun x104 hx104 hm=>?_;refine gX ?_
             refine fg Tryz.func74 ?_;conv=>whnf
             apply Cs;conv=>whnf
             apply Cs;refine gH ?_
             have O:=O.aM (.cells (flatC ((([]:List Nat)).map n8)) false)
             apply Cs;conv=>whnf
             apply Cs;refine gH ?_
             have O:=O.aM (.cells (flatC ((([]:List Nat)).map n8)) false)
             refine jn (σ:=(List Nat)×Option Nat) hm 42 [] (fun s=>s.1) (fun (v108,a107) h=>(a107=none->v108=[])/\(a78=none->v79=[])/\(a98=none->v99=[])/\Own vars h0 [(a107,.cells (flatC (v108.map n8)) false),(sC g1 [((ah 1 n8) r6.1.out),((ah 1 n8) r6.1.next)]),(sC g3 [nS,nS]),(sR g13 (cy p0 (.slice (some ⟨g17,0,none⟩) p0.nodes.length p0.nodes.length) (clo 103 [(FP (av p1.line)),(pG g11)]) (clo 66 []))),(sC g17 (flatC (v38.map n8))),(sC g11 [(clo 69 [(FP ((ah 1 n8) r6.2.1)),(pG g9)])]),(sC g9 [(i64 p1.other)]),(sC g15 [nS,nS]),(sC g74 [(ag 1 a78 (v79.map n8)),(ag 1 a98 (v99.map n8))]),(a78,.cells (flatC (v79.map n8)) false),(a98,.cells (flatC (v99.map n8)) false)] h) (fun (v108,a107)=>[(5,(ag 1 a107 (v108.map n8)))]) (fun hm=>?_) ?_
             ·refine gX ?_
              refine atF hm fun x113 hx113 hm=>?_;refine gX ?_
              refine lw 42 [0,1,16,17] (σ:=((List Nat)×Nat)×Option Nat) (fun s=>s.1) (fun ((v115,v116),a114) h=>(a114=none->v115=[])/\(a78=none->v79=[])/\(a98=none->v99=[])/\Own vars h0 [(sC g17 (flatC (v38.map n8))),(sC g11 [(clo 69 [(FP ((ah 1 n8) r6.2.1)),(pG g9)])]),(sC g9 [(i64 p1.other)]),(a114,.cells (flatC (v115.map n8)) false),(sC g1 [((ah 1 n8) r6.1.out),((ah 1 n8) r6.1.next)]),(sC g3 [nS,nS]),(sR g13 (cy p0 (.slice (some ⟨g17,0,none⟩) p0.nodes.length p0.nodes.length) (clo 103 [(FP (av p1.line)),(pG g11)]) (clo 66 []))),(sC g15 [nS,nS]),(sC g74 [(ag 1 a78 (v79.map n8)),(ag 1 a98 (v99.map n8))]),(a78,.cells (flatC (v79.map n8)) false),(a98,.cells (flatC (v99.map n8)) false)] h) (fun ((v115,v116),a114)=>[(5,(ag 1 a114 (v115.map n8))),(18,(i64 v116))]) ((([]:List Nat),0),none) hm ⟨(fun _=>rfl),ha101,ha102,(O.sel [2,3,4,0,9,10,11,5,6,7,8] (by decide))⟩ ?_
              clear hm;rintro⟨⟨v115,v116⟩,a114⟩ nx120 base h hm ⟨ha117,ha118,ha119,O⟩
              refine gX ?_
              refine br hm (fun hm=>?_) fun hm=>?_
              ·refine gX ?_
               refine atF hm fun x121 hx121 hm=>?_;refine gX ?_
               refine dF ?_
               refine gX ?_
               refine dF ?_
               refine gX ?_
               refine ix 1 hm fun x122 hx122 hm=>?_;refine gH ?_
               refine⟨_,ae rfl (O.at (.head _)) rfl (bC (enc:=n8) (s:=1) (k:=0) (fun _=>rfl) hx122 rfl),?_⟩;refine gH ?_
               refine fg Tryz.func66 ?_;refine gX ?_
               (first|refine⟨.inr (.inr (ae rfl (O.at (.head _)) rfl rfl)),?_⟩|refine⟨.inr (.inr (ae rfl (O.at (.tail _ (.head _))) rfl rfl)),?_⟩|refine⟨.inr (.inr (ae rfl (O.at (.tail _ (.tail _ (.head _)))) rfl rfl)),?_⟩|refine⟨.inr (.inr (ae rfl (O.at (.tail _ (.tail _ (.tail _ (.head _))))) rfl rfl)),?_⟩|refine⟨.inr (.inr (ae rfl (O.at (.tail _ (.tail _ (.tail _ (.tail _ (.head _)))))) rfl rfl)),?_⟩|refine⟨.inr (.inr (ae rfl (O.at (.tail _ (.tail _ (.tail _ (.tail _ (.tail _ (.head _))))))) rfl rfl)),?_⟩|refine⟨.inr (.inr (ae rfl (O.at (.tail _ (.tail _ (.tail _ (.tail _ (.tail _ (.tail _ (.head _)))))))) rfl rfl)),?_⟩|refine⟨.inl (Ext.refl _),?_⟩|refine⟨.inr (.inr rfl),?_⟩|refine⟨.inr (by kernel_rfl),?_⟩|refine⟨.inl (by kernel_rfl),?_⟩|refine id ?_);refine gH ?_
               refine O.bV (l:=([x122]:(List Nat))) (enc:=n8) (s:=1) (z:=(n8 0)) rfl rfl (by kernel_rfl) (by kernel_rfl) rfl rfl rfl rfl (fun _=>rfl) fun g123 h O=>?_;refine gH ?_
               refine O.cu (enc:=n8) (l:=v115) (new:=([x122]:(List Nat))) (s:=1) (b:=1) (.tail _ (.tail _ (.tail _ (.tail _ (.head _))))) ha117 rfl rfl rfl rfl rfl rfl rfl rfl (YOk.own (O.at (.head _)) rfl (fun _=>rfl) rfl) (fun _=>rfl) (fun _=>rfl) (by decide) hm.1 fun a125 h ha126 O=>?_;refine gH ?_
               (first|refine⟨.inr (.inr (ae rfl (O.at (.head _)) rfl rfl)),?_⟩|refine⟨.inr (.inr (ae rfl (O.at (.tail _ (.head _))) rfl rfl)),?_⟩|refine⟨.inr (.inr (ae rfl (O.at (.tail _ (.tail _ (.head _)))) rfl rfl)),?_⟩|refine⟨.inr (.inr (ae rfl (O.at (.tail _ (.tail _ (.tail _ (.head _))))) rfl rfl)),?_⟩|refine⟨.inr (.inr (ae rfl (O.at (.tail _ (.tail _ (.tail _ (.tail _ (.head _)))))) rfl rfl)),?_⟩|refine⟨.inr (.inr (ae rfl (O.at (.tail _ (.tail _ (.tail _ (.tail _ (.tail _ (.head _))))))) rfl rfl)),?_⟩|refine⟨.inr (.inr (ae rfl (O.at (.tail _ (.tail _ (.tail _ (.tail _ (.tail _ (.tail _ (.head _)))))))) rfl rfl)),?_⟩|refine⟨.inl (Ext.refl _),?_⟩|refine⟨.inr (.inr rfl),?_⟩|refine⟨.inr (by kernel_rfl),?_⟩|refine⟨.inl (by kernel_rfl),?_⟩|refine id ?_);refine gH ?_
               replace hm:=hm.2
               refine gX ?_
               refine aL hm fun hm=>?_;refine gH ?_
               exact jx (((v115++([x122]:(List Nat))),(v116+1)),a125) hm ⟨ha126,ha118,ha119,(O.sel [1,2,3,4,5,6,7,8,9,10,11] (by decide))⟩
              ·refine gX ?_
               exact jx (v115,a114) hm ⟨ha117,ha118,ha119,(O.sel [3,4,5,6,0,1,2,7,8,9,10] (by decide))⟩
             ·clear hm;rintro⟨v108,a107⟩ base h hm ⟨ha109,ha110,ha111,O⟩
              refine gX ?_
              obtain⟨x127,hx127,hm⟩:=hm
              have h9:=hm
              obtain⟨g128,rfl⟩:=dL ha109 hx127
              replace hm:=h9
              refine cF (s:=1) (j:=0) rfl rfl rfl rfl (by rw[List.length_map];exact aj hx127) ?_;refine gH ?_
              refine ldE (s:=1) (i:=0) (O.at (.head _)) hx127 ?_;refine gH ?_
              refine jn hm 189 [0,4,16,162,163,164] (fun s=>s) (fun v129 h=>(a78=none->v79=[])/\(a98=none->v99=[])/\Own vars h0 [(sC g17 (flatC (v38.map n8))),(sC g11 [(clo 69 [(FP ((ah 1 n8) r6.2.1)),(pG g9)])]),(sC g9 [(i64 p1.other)]),(sC g15 [nS,nS]),(sC g74 [(ag 1 a78 (v79.map n8)),(ag 1 a98 (v99.map n8))]),(a78,.cells (flatC (v79.map n8)) false),(a98,.cells (flatC (v99.map n8)) false),(sC g1 [((ah 1 n8) r6.1.out),((ah 1 n8) r6.1.next)]),(sC g3 [nS,nS]),(sR g13 (cy p0 (.slice (some ⟨g17,0,none⟩) p0.nodes.length p0.nodes.length) (clo 103 [(FP (av p1.line)),(pG g11)]) (clo 66 [])))] h) (fun v129=>[(21,(n8 v129))]) (fun hm=>?_) ?_
              ·refine gX ?_
               refine br hm (fun hm=>?_) fun hm=>?_
               ·refine gX ?_
                exact jx 2 hm ⟨ha110,ha111,(O.sel [4,5,6,7,8,9,10,1,2,3] (by decide))⟩
               ·refine gX ?_
                exact jx x127 hm ⟨ha110,ha111,(O.sel [4,5,6,7,8,9,10,1,2,3] (by decide))⟩
              ·clear hm;rintro v129 base h hm ⟨ha130,ha131,O⟩
               refine gX ?_
               refine ldO (O.at (.tail _ (.tail _ (.tail _ (.tail _ (.head _)))))) ?_;refine gH ?_
               refine fz ?_;refine gH ?_
               refine O.apL (enc:=n8) (l:=v99) (new:=([v129]:(List Nat))) 1 (.tail _ (.tail _ (.tail _ (.tail _ (.tail _ (.tail _ (.head _))))))) ha131 hm fun a133 h ha134 O hm=>?_;refine gH ?_
               refine O.stC 1 (.tail _ (.tail _ (.tail _ (.tail _ (.head _))))) [(ag 1 a78 (v79.map n8)),(ag 1 a133 ((v99++([v129]:(List Nat))).map n8))] fun h O=>?_;refine gX ?_
               refine aL hm fun hm=>?_;refine gH ?_
               exact jx (((v99++([v129]:(List Nat))),(v100+1)),a133) hm ⟨ha130,ha134,O⟩
            ·refine gX ?_
             exact jx (v99,a98) hm ⟨ha101,ha102,(O.sel [3,4,5,6,7,8,9,0,1,2] (by decide))⟩
           ·clear hm;rintro⟨v94,a93⟩ base h hm ⟨ha95,ha96,O⟩
            refine gX ?_
            first|refine⟨.inr (.inr (ae rfl (O.at (.tail _ (.head _))) rfl rfl)),?_⟩|refine⟨.inr (.inl (by kernel_rfl)),?_⟩
            refine gX ?_
            refine fg Tryz.func75 ?_;refine gX ?_
            refine iq (s:=1) (enc:=n8) (l:=v79) (n:=v79.length) (m:=v79.length) rfl rfl rfl rfl rfl rfl rfl ?_;refine gX ?_
            (first|refine⟨.inr (.inr (ae rfl (O.at (.head _)) rfl rfl)),?_⟩|refine⟨.inr (.inr (ae rfl (O.at (.tail _ (.head _))) rfl rfl)),?_⟩|refine⟨.inr (.inr (ae rfl (O.at (.tail _ (.tail _ (.head _)))) rfl rfl)),?_⟩|refine⟨.inr (.inr (ae rfl (O.at (.tail _ (.tail _ (.tail _ (.head _))))) rfl rfl)),?_⟩|refine⟨.inr (.inr (ae rfl (O.at (.tail _ (.tail _ (.tail _ (.tail _ (.head _)))))) rfl rfl)),?_⟩|refine⟨.inr (.inr (ae rfl (O.at (.tail _ (.tail _ (.tail _ (.tail _ (.tail _ (.head _))))))) rfl rfl)),?_⟩|refine⟨.inr (.inr (ae rfl (O.at (.tail _ (.tail _ (.tail _ (.tail _ (.tail _ (.tail _ (.head _)))))))) rfl rfl)),?_⟩|refine⟨.inl (Ext.refl _),?_⟩|refine⟨.inr (.inr rfl),?_⟩|refine⟨.inr (by kernel_rfl),?_⟩|refine⟨.inl (by kernel_rfl),?_⟩|refine id ?_);refine gH ?_
            first|refine⟨.inr (.inr (ae rfl (O.at (.tail _ (.head _))) rfl rfl)),?_⟩|refine⟨.inr (.inl (by kernel_rfl)),?_⟩
            refine gX ?_
            refine fg Tryz.func75 ?_;refine gX ?_
            refine iq (s:=1) (enc:=n8) (l:=v94) (n:=v94.length) (m:=v94.length) rfl rfl rfl rfl rfl rfl rfl ?_;refine gX ?_
            (first|refine⟨.inr (.inr (ae rfl (O.at (.head _)) rfl rfl)),?_⟩|refine⟨.inr (.inr (ae rfl (O.at (.tail _ (.head _))) rfl rfl)),?_⟩|refine⟨.inr (.inr (ae rfl (O.at (.tail _ (.tail _ (.head _)))) rfl rfl)),?_⟩|refine⟨.inr (.inr (ae rfl (O.at (.tail _ (.tail _ (.tail _ (.head _))))) rfl rfl)),?_⟩|refine⟨.inr (.inr (ae rfl (O.at (.tail _ (.tail _ (.tail _ (.tail _ (.head _)))))) rfl rfl)),?_⟩|refine⟨.inr (.inr (ae rfl (O.at (.tail _ (.tail _ (.tail _ (.tail _ (.tail _ (.head _))))))) rfl rfl)),?_⟩|refine⟨.inr (.inr (ae rfl (O.at (.tail _ (.tail _ (.tail _ (.tail _ (.tail _ (.tail _ (.head _)))))))) rfl rfl)),?_⟩|refine⟨.inl (Ext.refl _),?_⟩|refine⟨.inr (.inr rfl),?_⟩|refine⟨.inr (by kernel_rfl),?_⟩|refine⟨.inl (by kernel_rfl),?_⟩|refine id ?_);refine gH ?_
            refine O.stC 2 (.head _) [(dJ a78 (v79.map n8)),(dJ a93 (v94.map n8))] fun h O=>?_;refine gH ?_
            (first|refine⟨.inr (.inr (ae rfl (O.at (.head _)) rfl rfl)),?_⟩|refine⟨.inr (.inr (ae rfl (O.at (.tail _ (.head _))) rfl rfl)),?_⟩|refine⟨.inr (.inr (ae rfl (O.at (.tail _ (.tail _ (.head _)))) rfl rfl)),?_⟩|refine⟨.inr (.inr (ae rfl (O.at (.tail _ (.tail _ (.tail _ (.head _))))) rfl rfl)),?_⟩|refine⟨.inr (.inr (ae rfl (O.at (.tail _ (.tail _ (.tail _ (.tail _ (.head _)))))) rfl rfl)),?_⟩|refine⟨.inr (.inr (ae rfl (O.at (.tail _ (.tail _ (.tail _ (.tail _ (.tail _ (.head _))))))) rfl rfl)),?_⟩|refine⟨.inr (.inr (ae rfl (O.at (.tail _ (.tail _ (.tail _ (.tail _ (.tail _ (.tail _ (.head _)))))))) rfl rfl)),?_⟩|refine⟨.inl (Ext.refl _),?_⟩|refine⟨.inr (.inr rfl),?_⟩|refine⟨.inr (by kernel_rfl),?_⟩|refine⟨.inl (by kernel_rfl),?_⟩|refine id ?_);refine gH ?_
            refine gX ?_
            refine⟨_,aH rfl rfl (O.at (.head _)) rfl rfl (lbE rfl) rfl,?_⟩;refine gX ?_
            refine O.stC 2 (.tail _ (.tail _ (.tail _ (.tail _ (.tail _ (.head _)))))) [(dJ a78 (v79.map n8)),(dJ a93 (v94.map n8))] fun h O=>?_;refine gX ?_
            refine ldA (O.at (.tail _ (.tail _ (.tail _ (.tail _ (.head _)))))) ?_;refine gH ?_
            first|refine⟨.inr (.inr (bh rfl (O.at (.tail _ (.tail _ (.tail _ (.tail _ (.head _)))))) rfl rfl (lbE rfl) rfl)),?_⟩|refine⟨.inr (.inl (by kernel_rfl)),?_⟩
            refine gX ?_
            refine ldA (O.at (.tail _ (.tail _ (.tail _ (.tail _ (.tail _ (.head _))))))) ?_;refine gH ?_
            first|refine⟨.inr (.inr (bh rfl (O.at (.tail _ (.tail _ (.tail _ (.tail _ (.tail _ (.head _))))))) rfl rfl (lbE rfl) rfl)),?_⟩|refine⟨.inr (.inl (by kernel_rfl)),?_⟩
            refine gX ?_
            refine ldO (O.at (.tail _ (.tail _ (.tail _ (.tail _ (.tail _ (.tail _ (.head _)))))))) ?_;refine gH ?_
            first|refine⟨.inr (.inr (ae rfl (O.at (.tail _ (.tail _ (.tail _ (.tail _ (.tail _ (.tail _ (.head _)))))))) rfl rfl)),?_⟩|refine⟨.inr (.inl (by kernel_rfl)),?_⟩
            refine gX ?_
            refine O.jO 2 (.tail _ (.tail _ (.tail _ (.tail _ (.head _))))) fun h hext O=>?_;conv=>whnf
            refine⟨.inr hext,?_⟩;refine gH ?_
            refine O.jO 2 (.tail _ (.tail _ (.tail _ (.tail _ (.tail _ (.head _)))))) fun h hext O=>?_;conv=>whnf
            refine⟨.inr hext,?_⟩;refine gX ?_
            refine⟨_,aH rfl rfl (O.at (.tail _ (.tail _ (.tail _ (.tail _ (.head _)))))) rfl rfl (lbE rfl) rfl,?_⟩;conv=>whnf
            refine⟨_,aH rfl rfl (O.at (.tail _ (.tail _ (.tail _ (.tail _ (.tail _ (.head _))))))) rfl rfl (lbE rfl) rfl,?_⟩;conv=>whnf
            obtain⟨hn135,hm⟩:=hm
            exact⟨(r6.1,(⟨v79,v94⟩:Rsp),v38,0),hm,O.ext,fun h2 F=>VLe.tup (LLe.cons (VLe.refl _ _) (LLe.cons (VLe.agg (LLe.cons (O.kc F (Nat.le_refl _) (.tail _ (.tail _ (.head _))) ha95 (fun _=>rfl)) (LLe.cons (O.kc F (Nat.le_refl _) (.tail _ (.tail _ (.tail _ (.head _)))) ha96 (fun _=>rfl)) (LLe.nil _)))) (LLe.cons (O.jI F (Nat.le_refl _) (.tail _ (.tail _ (.tail _ (.tail _ (.tail _ (.tail _ (.tail _ (.head _)))))))) (fun _=>rfl) hn135) (LLe.cons (VLe.refl _ _) (LLe.nil _)))))⟩
      ·refine gX ?_
       exact False.elim hm
     ·refine gX ?_
      refine fg Tryz.func68 ?_;refine gX ?_
      refine fz ?_;refine gH ?_
      refine fz ?_;refine gH ?_
      (first|refine O.new (nJ rfl) fun g136 h O=>?_|refine O.dy (nJ rfl) fun g136 h O=>?_);refine gH ?_
      refine gX ?_
      (first|refine O.new (nJ rfl) fun g138 h O=>?_|refine O.dy (nJ rfl) fun g138 h O=>?_);refine gH ?_
      refine gX ?_
      refine br hm (fun hm=>?_) fun hm=>?_
      ·refine gX ?_
       refine O.stC 1 (.head _) (cy p0 nS (clo 103 [(FP (av p1.line)),(pG g136)]) (clo 66 [])) fun h O=>?_;refine gX ?_
       refine fg Tryz.func38 ?_;refine gX ?_
       refine fz ?_;refine gH ?_
       (first|refine O.new (ak (l:=[nS,nS]) rfl rfl rfl) fun g140 h O=>?_|refine O.dy (ak (l:=[nS,nS]) rfl rfl rfl) fun g140 h O=>?_);refine gH ?_
       refine gX ?_
       refine O.mkL (enc:=n8) 1 1 0 hm fun g142 h O hm=>?_;refine gH ?_
       refine O.stC 1 (.tail _ (.tail _ (.head _))) (cy p0 (.slice (some ⟨g142,0,none⟩) p0.nodes.length p0.nodes.length) (clo 103 [(FP (av p1.line)),(pG g136)]) (clo 66 [])) fun h O=>?_;refine gH ?_
       apply Cs;conv=>whnf
       refine CodeS.vM O (.tail _ (.tail _ (.head _))) 0 rfl rfl fun h O=>?_;refine gX ?_
       refine ca (bM hm O.has) fun r144 hm=>?_;refine gH ?_
       refine jn hm 189 [0,3,4,5] (fun s=>s) (fun v145 h=>Own vars h0 [(sC g142 (flatC (v145.map n8))),(sC g136 [(clo 70 [(FP (aw p1))])]),(sC g140 [nS,nS]),(sC g1 [((ah 1 n8) r6.1.out),((ah 1 n8) r6.1.next)]),(sC g3 [nS,nS]),(sR g138 (cy p0 (.slice (some ⟨g142,0,none⟩) p0.nodes.length p0.nodes.length) (clo 103 [(FP (av p1.line)),(pG g136)]) (clo 66 [])))] h) (fun v145=>[]) (fun hm=>?_) ?_
       ·refine gX ?_
        refine ca (cr hm O.has) fun r147 hm=>?_;refine gX ?_
        refine lw 189 [0,3,4,5,41,42] (σ:=((List Nat)×Nat)) (fun s=>s) (fun (v148,v149) h=>Own vars h0 [(sC g142 (flatC (v148.map n8))),(sC g136 [(clo 70 [(FP (aw p1))])]),(sC g140 [nS,nS]),(sC g1 [((ah 1 n8) r6.1.out),((ah 1 n8) r6.1.next)]),(sC g3 [nS,nS]),(sR g138 (cy p0 (.slice (some ⟨g142,0,none⟩) p0.nodes.length p0.nodes.length) (clo 103 [(FP (av p1.line)),(pG g136)]) (clo 66 [])))] h) (fun (v148,v149)=>[(43,(i64 v149))]) ((List.replicate p0.nodes.length (0:Nat)),0) hm (O.sel [0,3,1,7,6,2] (by decide)) ?_
        clear hm;rintro⟨v148,v149⟩ nx150 base h hm O
        refine gX ?_
        refine br hm (fun hm=>?_) fun hm=>?_
        ·refine gX ?_
         refine atF hm fun x151 hx151 hm=>?_;refine gX ?_
         refine dF ?_
         refine gX ?_
         refine dF ?_
         refine gX ?_
         refine atF hm fun x152 hx152 hm=>?_;refine gH ?_
         refine ix 1 hm fun x153 hx153 hm=>?_;refine gH ?_
         refine O.stE 1 (.head _) hx153 x152 fun h O=>?_;refine gH ?_
         (first|refine⟨.inr (.inr (ae rfl (O.at (.head _)) rfl rfl)),?_⟩|refine⟨.inr (.inr (ae rfl (O.at (.tail _ (.head _))) rfl rfl)),?_⟩|refine⟨.inr (.inr (ae rfl (O.at (.tail _ (.tail _ (.head _)))) rfl rfl)),?_⟩|refine⟨.inr (.inr (ae rfl (O.at (.tail _ (.tail _ (.tail _ (.head _))))) rfl rfl)),?_⟩|refine⟨.inr (.inr (ae rfl (O.at (.tail _ (.tail _ (.tail _ (.tail _ (.head _)))))) rfl rfl)),?_⟩|refine⟨.inr (.inr (ae rfl (O.at (.tail _ (.tail _ (.tail _ (.tail _ (.tail _ (.head _))))))) rfl rfl)),?_⟩|refine⟨.inr (.inr (ae rfl (O.at (.tail _ (.tail _ (.tail _ (.tail _ (.tail _ (.tail _ (.head _)))))))) rfl rfl)),?_⟩|refine⟨.inl (Ext.refl _),?_⟩|refine⟨.inr (.inr rfl),?_⟩|refine⟨.inr (by kernel_rfl),?_⟩|refine⟨.inl (by kernel_rfl),?_⟩|refine id ?_);refine gH ?_
         refine gX ?_
         refine aL hm fun hm=>?_;refine gH ?_
         exact jx ((v148.set x151 x152),(v149+1)) hm O
        ·refine gX ?_
         exact jx v148 hm O
       ·clear hm;rintro v145 base h hm O
        conv=>whnf
        refine jn hm 189 [0,4,5] (fun s=>s) (fun v154 h=>Own vars h0 [(sC g142 (flatC (v154.map n8))),(sC g136 [(clo 70 [(FP (aw p1))])]),(sC g140 [nS,nS]),(sC g1 [((ah 1 n8) r6.1.out),((ah 1 n8) r6.1.next)]),(sC g3 [nS,nS]),(sR g138 (cy p0 (.slice (some ⟨g142,0,none⟩) p0.nodes.length p0.nodes.length) (clo 103 [(FP (av p1.line)),(pG g136)]) (clo 66 [])))] h) (fun v154=>[]) (fun hm=>?_) ?_
        ·refine gX ?_
         refine lw 189 [0,3,4,5,60,61] (σ:=((List Nat)×Nat)) (fun s=>s) (fun (v156,v157) h=>Own vars h0 [(sC g142 (flatC (v156.map n8))),(sC g136 [(clo 70 [(FP (aw p1))])]),(sC g140 [nS,nS]),(sC g1 [((ah 1 n8) r6.1.out),((ah 1 n8) r6.1.next)]),(sC g3 [nS,nS]),(sR g138 (cy p0 (.slice (some ⟨g142,0,none⟩) p0.nodes.length p0.nodes.length) (clo 103 [(FP (av p1.line)),(pG g136)]) (clo 66 [])))] h) (fun (v156,v157)=>[(62,(i64 v157))]) (v145,0) hm O ?_
         clear hm;rintro⟨v156,v157⟩ nx158 base h hm O
         refine gX ?_
         refine br hm (fun hm=>?_) fun hm=>?_
         ·refine gX ?_
          refine atF hm fun x159 hx159 hm=>?_;refine gX ?_
          refine dF ?_
          refine gX ?_
          refine dF ?_
          refine gX ?_
          refine atF hm fun x160 hx160 hm=>?_;refine gH ?_
          refine ix 1 hm fun x161 hx161 hm=>?_;refine gH ?_
          refine O.stE 1 (.head _) hx161 x160 fun h O=>?_;refine gH ?_
          (first|refine⟨.inr (.inr (ae rfl (O.at (.head _)) rfl rfl)),?_⟩|refine⟨.inr (.inr (ae rfl (O.at (.tail _ (.head _))) rfl rfl)),?_⟩|refine⟨.inr (.inr (ae rfl (O.at (.tail _ (.tail _ (.head _)))) rfl rfl)),?_⟩|refine⟨.inr (.inr (ae rfl (O.at (.tail _ (.tail _ (.tail _ (.head _))))) rfl rfl)),?_⟩|refine⟨.inr (.inr (ae rfl (O.at (.tail _ (.tail _ (.tail _ (.tail _ (.head _)))))) rfl rfl)),?_⟩|refine⟨.inr (.inr (ae rfl (O.at (.tail _ (.tail _ (.tail _ (.tail _ (.tail _ (.head _))))))) rfl rfl)),?_⟩|refine⟨.inr (.inr (ae rfl (O.at (.tail _ (.tail _ (.tail _ (.tail _ (.tail _ (.tail _ (.head _)))))))) rfl rfl)),?_⟩|refine⟨.inl (Ext.refl _),?_⟩|refine⟨.inr (.inr rfl),?_⟩|refine⟨.inr (by kernel_rfl),?_⟩|refine⟨.inl (by kernel_rfl),?_⟩|refine id ?_);refine gH ?_
          refine gX ?_
          refine aL hm fun hm=>?_;refine gH ?_
          exact jx ((v156.set x159 x160),(v157+1)) hm O
         ·refine gX ?_
          exact jx v156 hm O
        ·clear hm;rintro v154 base h hm O
         refine gX ?_
         refine ca (dh hm O.has) fun r162 hm=>?_;refine gH ?_
         apply Cs;conv=>whnf
         apply Cs;refine gH ?_
         refine jn hm 189 [0,4,5] (fun s=>s) (fun v163 h=>Own vars h0 [(sC g142 (flatC (v163.map n8))),(sC g136 [(clo 70 [(FP (aw p1))])]),(sC g140 [nS,nS]),(sC g1 [((ah 1 n8) r6.1.out),((ah 1 n8) r6.1.next)]),(sC g3 [nS,nS]),(sR g138 (cy p0 (.slice (some ⟨g142,0,none⟩) p0.nodes.length p0.nodes.length) (clo 103 [(FP (av p1.line)),(pG g136)]) (clo 66 [])))] h) (fun v163=>[]) (fun hm=>?_) ?_
         ·refine gX ?_
          refine lw 189 [0,4,5,12,89,90] (σ:=((List Nat)×Nat)) (fun s=>s) (fun (v165,v166) h=>Own vars h0 [(sC g142 (flatC (v165.map n8))),(sC g136 [(clo 70 [(FP (aw p1))])]),(sC g140 [nS,nS]),(sC g1 [((ah 1 n8) r6.1.out),((ah 1 n8) r6.1.next)]),(sC g3 [nS,nS]),(sR g138 (cy p0 (.slice (some ⟨g142,0,none⟩) p0.nodes.length p0.nodes.length) (clo 103 [(FP (av p1.line)),(pG g136)]) (clo 66 [])))] h) (fun (v165,v166)=>[(91,(i64 v166))]) (v154,0) hm O ?_
          clear hm;rintro⟨v165,v166⟩ nx167 base h hm O
          refine gX ?_
          refine br hm (fun hm=>?_) fun hm=>?_
          ·refine gX ?_
           refine atF hm fun x168 hx168 hm=>?_;refine gH ?_
           refine jn hm 189 [0,4,5,12,14,89,90,91] (fun s=>s) (fun v169 h=>Own vars h0 [(sC g142 (flatC (v169.map n8))),(sC g136 [(clo 70 [(FP (aw p1))])]),(sC g140 [nS,nS]),(sC g1 [((ah 1 n8) r6.1.out),((ah 1 n8) r6.1.next)]),(sC g3 [nS,nS]),(sR g138 (cy p0 (.slice (some ⟨g142,0,none⟩) p0.nodes.length p0.nodes.length) (clo 103 [(FP (av p1.line)),(pG g136)]) (clo 66 [])))] h) (fun v169=>[]) (fun hm=>?_) ?_
           ·refine gX ?_
            refine atF hm fun x171 hx171 hm=>?_;refine gH ?_
            refine jn hm 189 [0,4,5,12,14,89,90,91] (fun s=>s) (fun v172 h=>Own vars h0 [(sC g142 (flatC (v165.map n8))),(sC g136 [(clo 70 [(FP (aw p1))])]),(sC g140 [nS,nS]),(sC g1 [((ah 1 n8) r6.1.out),((ah 1 n8) r6.1.next)]),(sC g3 [nS,nS]),(sR g138 (cy p0 (.slice (some ⟨g142,0,none⟩) p0.nodes.length p0.nodes.length) (clo 103 [(FP (av p1.line)),(pG g136)]) (clo 66 [])))] h) (fun v172=>[(109,(.bool v172))]) (fun hm=>?_) ?_
            ·refine gX ?_
             refine br hm (fun hm=>?_) fun hm=>?_
             ·refine gX ?_
              exact jx (neN x171.kind 14) hm O
             ·refine gX ?_
              exact jx false hm O
            ·clear hm;rintro v172 base h hm O
             refine gX ?_
             refine br hm (fun hm=>?_) fun hm=>?_
             ·refine CodeS.jD ?_;refine gH ?_
              refine fg Tryz.func73 ?_;conv=>whnf
              apply Cs;conv=>whnf
              apply Cs;refine gH ?_
              apply Cs;conv=>whnf
              refine CodeS.jD ?_;refine gH ?_
              refine atF hm fun x174 hx174 hm=>?_;refine gH ?_
              refine fg Tryz.func74 ?_;conv=>whnf
              apply Cs;conv=>whnf
              apply Cs;refine gH ?_
              have O:=O.aM (.cells (flatC ((([]:List Nat)).map n8)) false)
              apply Cs;conv=>whnf
              apply Cs;refine gH ?_
              have O:=O.aM (.cells (flatC ((([]:List Nat)).map n8)) false)
              refine jn (σ:=(List Nat)×Option Nat) hm 42 [] (fun s=>s.1) (fun (v178,a177) h=>(a177=none->v178=[])/\Own vars h0 [(a177,.cells (flatC (v178.map n8)) false),(sC g1 [((ah 1 n8) r6.1.out),((ah 1 n8) r6.1.next)]),(sC g3 [nS,nS]),(sR g138 (cy p0 (.slice (some ⟨g142,0,none⟩) p0.nodes.length p0.nodes.length) (clo 103 [(FP (av p1.line)),(pG g136)]) (clo 66 []))),(sC g142 (flatC (v165.map n8))),(sC g136 [(clo 70 [(FP (aw p1))])]),(sC g140 [nS,nS])] h) (fun (v178,a177)=>[(5,(ag 1 a177 (v178.map n8)))]) (fun hm=>?_) ?_
              ·refine gX ?_
               refine atF hm fun x181 hx181 hm=>?_;refine gX ?_
               refine lw 42 [0,1,16,17] (σ:=((List Nat)×Nat)×Option Nat) (fun s=>s.1) (fun ((v183,v184),a182) h=>(a182=none->v183=[])/\Own vars h0 [(sC g142 (flatC (v165.map n8))),(sC g136 [(clo 70 [(FP (aw p1))])]),(a182,.cells (flatC (v183.map n8)) false),(sC g1 [((ah 1 n8) r6.1.out),((ah 1 n8) r6.1.next)]),(sC g3 [nS,nS]),(sR g138 (cy p0 (.slice (some ⟨g142,0,none⟩) p0.nodes.length p0.nodes.length) (clo 103 [(FP (av p1.line)),(pG g136)]) (clo 66 []))),(sC g140 [nS,nS])] h) (fun ((v183,v184),a182)=>[(5,(ag 1 a182 (v183.map n8))),(18,(i64 v184))]) ((([]:List Nat),0),none) hm ⟨(fun _=>rfl),(O.sel [2,3,0,5,6,7,4] (by decide))⟩ ?_
               clear hm;rintro⟨⟨v183,v184⟩,a182⟩ nx186 base h hm ⟨ha185,O⟩
               refine gX ?_
               refine br hm (fun hm=>?_) fun hm=>?_
               ·refine gX ?_
                refine atF hm fun x187 hx187 hm=>?_;refine gX ?_
                refine dF ?_
                refine gX ?_
                refine dF ?_
                refine gX ?_
                refine ix 1 hm fun x188 hx188 hm=>?_;refine gH ?_
                refine⟨_,ae rfl (O.at (.head _)) rfl (bC (enc:=n8) (s:=1) (k:=0) (fun _=>rfl) hx188 rfl),?_⟩;refine gH ?_
                refine fg Tryz.func66 ?_;refine gX ?_
                (first|refine⟨.inr (.inr (ae rfl (O.at (.head _)) rfl rfl)),?_⟩|refine⟨.inr (.inr (ae rfl (O.at (.tail _ (.head _))) rfl rfl)),?_⟩|refine⟨.inr (.inr (ae rfl (O.at (.tail _ (.tail _ (.head _)))) rfl rfl)),?_⟩|refine⟨.inr (.inr (ae rfl (O.at (.tail _ (.tail _ (.tail _ (.head _))))) rfl rfl)),?_⟩|refine⟨.inr (.inr (ae rfl (O.at (.tail _ (.tail _ (.tail _ (.tail _ (.head _)))))) rfl rfl)),?_⟩|refine⟨.inr (.inr (ae rfl (O.at (.tail _ (.tail _ (.tail _ (.tail _ (.tail _ (.head _))))))) rfl rfl)),?_⟩|refine⟨.inr (.inr (ae rfl (O.at (.tail _ (.tail _ (.tail _ (.tail _ (.tail _ (.tail _ (.head _)))))))) rfl rfl)),?_⟩|refine⟨.inl (Ext.refl _),?_⟩|refine⟨.inr (.inr rfl),?_⟩|refine⟨.inr (by kernel_rfl),?_⟩|refine⟨.inl (by kernel_rfl),?_⟩|refine id ?_);refine gH ?_
                refine O.bV (l:=([x188]:(List Nat))) (enc:=n8) (s:=1) (z:=(n8 0)) rfl rfl (by kernel_rfl) (by kernel_rfl) rfl rfl rfl rfl (fun _=>rfl) fun g189 h O=>?_;refine gH ?_
                refine O.cu (enc:=n8) (l:=v183) (new:=([x188]:(List Nat))) (s:=1) (b:=1) (.tail _ (.tail _ (.tail _ (.head _)))) ha185 rfl rfl rfl rfl rfl rfl rfl rfl (YOk.own (O.at (.head _)) rfl (fun _=>rfl) rfl) (fun _=>rfl) (fun _=>rfl) (by decide) hm.1 fun a191 h ha192 O=>?_;refine gH ?_
                (first|refine⟨.inr (.inr (ae rfl (O.at (.head _)) rfl rfl)),?_⟩|refine⟨.inr (.inr (ae rfl (O.at (.tail _ (.head _))) rfl rfl)),?_⟩|refine⟨.inr (.inr (ae rfl (O.at (.tail _ (.tail _ (.head _)))) rfl rfl)),?_⟩|refine⟨.inr (.inr (ae rfl (O.at (.tail _ (.tail _ (.tail _ (.head _))))) rfl rfl)),?_⟩|refine⟨.inr (.inr (ae rfl (O.at (.tail _ (.tail _ (.tail _ (.tail _ (.head _)))))) rfl rfl)),?_⟩|refine⟨.inr (.inr (ae rfl (O.at (.tail _ (.tail _ (.tail _ (.tail _ (.tail _ (.head _))))))) rfl rfl)),?_⟩|refine⟨.inr (.inr (ae rfl (O.at (.tail _ (.tail _ (.tail _ (.tail _ (.tail _ (.tail _ (.head _)))))))) rfl rfl)),?_⟩|refine⟨.inl (Ext.refl _),?_⟩|refine⟨.inr (.inr rfl),?_⟩|refine⟨.inr (by kernel_rfl),?_⟩|refine⟨.inl (by kernel_rfl),?_⟩|refine id ?_);refine gH ?_
                replace hm:=hm.2
                refine gX ?_
                refine aL hm fun hm=>?_;refine gH ?_
                exact jx (((v183++([x188]:(List Nat))),(v184+1)),a191) hm ⟨ha192,(O.sel [1,2,3,4,5,6,7] (by decide))⟩
               ·refine gX ?_
                exact jx (v183,a182) hm ⟨ha185,(O.sel [2,3,4,5,0,1,6] (by decide))⟩
              ·clear hm;rintro⟨v178,a177⟩ base h hm ⟨ha179,O⟩
               refine gX ?_
               refine CallD.CP (fun _ hb=>fq hm hb) (fun _=>mv rfl) sD O.has (fun h2 F=>(LLe.cons (VLe.refl _ _) (LLe.cons (O.iz F (Nat.zero_le _) (.head _) ha179 (fun _=>rfl)) (LLe.nil _)))) (by kernel_rfl) (fun r193 hm'=>?_);replace hm:=hm';refine gX ?_
               refine ix 1 hm fun x194 hx194 hm=>?_;refine gH ?_
               refine O.stE 1 (.tail _ (.tail _ (.tail _ (.tail _ (.head _))))) hx194 r193 fun h O=>?_;refine gH ?_
               exact jx (v165.set x168 r193) hm (O.sel [4,5,6,1,2,3] (by decide))
             ·refine gX ?_
              exact jx v165 hm O
           ·clear hm;rintro v169 base h hm O
            refine gX ?_
            refine dF ?_
            refine gX ?_
            refine dF ?_
            refine gX ?_
            refine dF ?_
            refine gX ?_
            refine ix 1 hm fun x195 hx195 hm=>?_;refine gH ?_
            refine⟨_,ae rfl (O.at (.head _)) rfl (bC (enc:=n8) (s:=1) (k:=0) (fun _=>rfl) hx195 rfl),?_⟩;refine gH ?_
            refine fg Tryz.func103 ?_;refine gX ?_
            refine br hm (fun hm=>?_) fun hm=>?_
            ·refine gX ?_
             refine fg Tryz.func70 ?_;refine gX ?_
             (first|refine⟨.inr (.inr (ae rfl (O.at (.head _)) rfl rfl)),?_⟩|refine⟨.inr (.inr (ae rfl (O.at (.tail _ (.head _))) rfl rfl)),?_⟩|refine⟨.inr (.inr (ae rfl (O.at (.tail _ (.tail _ (.head _)))) rfl rfl)),?_⟩|refine⟨.inr (.inr (ae rfl (O.at (.tail _ (.tail _ (.tail _ (.head _))))) rfl rfl)),?_⟩|refine⟨.inr (.inr (ae rfl (O.at (.tail _ (.tail _ (.tail _ (.tail _ (.head _)))))) rfl rfl)),?_⟩|refine⟨.inr (.inr (ae rfl (O.at (.tail _ (.tail _ (.tail _ (.tail _ (.tail _ (.head _))))))) rfl rfl)),?_⟩|refine⟨.inr (.inr (ae rfl (O.at (.tail _ (.tail _ (.tail _ (.tail _ (.tail _ (.tail _ (.head _)))))))) rfl rfl)),?_⟩|refine⟨.inl (Ext.refl _),?_⟩|refine⟨.inr (.inr rfl),?_⟩|refine⟨.inr (by kernel_rfl),?_⟩|refine⟨.inl (by kernel_rfl),?_⟩|refine id ?_);refine gH ?_
             refine ix 1 hm fun x196 hx196 hm=>?_;refine gH ?_
             refine O.stE 1 (.head _) hx196 p1.value fun h O=>?_;refine gH ?_
             (first|refine⟨.inr (.inr (ae rfl (O.at (.head _)) rfl rfl)),?_⟩|refine⟨.inr (.inr (ae rfl (O.at (.tail _ (.head _))) rfl rfl)),?_⟩|refine⟨.inr (.inr (ae rfl (O.at (.tail _ (.tail _ (.head _)))) rfl rfl)),?_⟩|refine⟨.inr (.inr (ae rfl (O.at (.tail _ (.tail _ (.tail _ (.head _))))) rfl rfl)),?_⟩|refine⟨.inr (.inr (ae rfl (O.at (.tail _ (.tail _ (.tail _ (.tail _ (.head _)))))) rfl rfl)),?_⟩|refine⟨.inr (.inr (ae rfl (O.at (.tail _ (.tail _ (.tail _ (.tail _ (.tail _ (.head _))))))) rfl rfl)),?_⟩|refine⟨.inr (.inr (ae rfl (O.at (.tail _ (.tail _ (.tail _ (.tail _ (.tail _ (.tail _ (.head _)))))))) rfl rfl)),?_⟩|refine⟨.inl (Ext.refl _),?_⟩|refine⟨.inr (.inr rfl),?_⟩|refine⟨.inr (by kernel_rfl),?_⟩|refine⟨.inl (by kernel_rfl),?_⟩|refine id ?_);refine gH ?_
             refine gX ?_
             refine aL hm fun hm=>?_;refine gH ?_
             exact jx ((v169.set x168 p1.value),(v166+1)) hm O
            ·refine gX ?_
             (first|refine⟨.inr (.inr (ae rfl (O.at (.head _)) rfl rfl)),?_⟩|refine⟨.inr (.inr (ae rfl (O.at (.tail _ (.head _))) rfl rfl)),?_⟩|refine⟨.inr (.inr (ae rfl (O.at (.tail _ (.tail _ (.head _)))) rfl rfl)),?_⟩|refine⟨.inr (.inr (ae rfl (O.at (.tail _ (.tail _ (.tail _ (.head _))))) rfl rfl)),?_⟩|refine⟨.inr (.inr (ae rfl (O.at (.tail _ (.tail _ (.tail _ (.tail _ (.head _)))))) rfl rfl)),?_⟩|refine⟨.inr (.inr (ae rfl (O.at (.tail _ (.tail _ (.tail _ (.tail _ (.tail _ (.head _))))))) rfl rfl)),?_⟩|refine⟨.inr (.inr (ae rfl (O.at (.tail _ (.tail _ (.tail _ (.tail _ (.tail _ (.tail _ (.head _)))))))) rfl rfl)),?_⟩|refine⟨.inl (Ext.refl _),?_⟩|refine⟨.inr (.inr rfl),?_⟩|refine⟨.inr (by kernel_rfl),?_⟩|refine⟨.inl (by kernel_rfl),?_⟩|refine id ?_);refine gH ?_
             refine ix 1 hm fun x197 hx197 hm=>?_;refine gH ?_
             refine O.stE 1 (.head _) hx197 x195 fun h O=>?_;refine gH ?_
             (first|refine⟨.inr (.inr (ae rfl (O.at (.head _)) rfl rfl)),?_⟩|refine⟨.inr (.inr (ae rfl (O.at (.tail _ (.head _))) rfl rfl)),?_⟩|refine⟨.inr (.inr (ae rfl (O.at (.tail _ (.tail _ (.head _)))) rfl rfl)),?_⟩|refine⟨.inr (.inr (ae rfl (O.at (.tail _ (.tail _ (.tail _ (.head _))))) rfl rfl)),?_⟩|refine⟨.inr (.inr (ae rfl (O.at (.tail _ (.tail _ (.tail _ (.tail _ (.head _)))))) rfl rfl)),?_⟩|refine⟨.inr (.inr (ae rfl (O.at (.tail _ (.tail _ (.tail _ (.tail _ (.tail _ (.head _))))))) rfl rfl)),?_⟩|refine⟨.inr (.inr (ae rfl (O.at (.tail _ (.tail _ (.tail _ (.tail _ (.tail _ (.tail _ (.head _)))))))) rfl rfl)),?_⟩|refine⟨.inl (Ext.refl _),?_⟩|refine⟨.inr (.inr rfl),?_⟩|refine⟨.inr (by kernel_rfl),?_⟩|refine⟨.inl (by kernel_rfl),?_⟩|refine id ?_);refine gH ?_
             refine gX ?_
             refine aL hm fun hm=>?_;refine gH ?_
             exact jx ((v169.set x168 x195),(v166+1)) hm O
          ·refine gX ?_
           exact jx v165 hm O
         ·clear hm;rintro v163 base h hm O
          refine gX ?_
          have O:=O.aM (.cells (flatC ((([]:List Nat)).map n8)) false)
          have O:=O.aM (.cells (flatC ((([]:List Nat)).map n8)) false)
          (first|refine O.new (ak (l:=[nS,nS]) rfl rfl rfl) fun g198 h O=>?_|refine O.dy (ak (l:=[nS,nS]) rfl rfl rfl) fun g198 h O=>?_);refine gH ?_
          refine jn (σ:=(List Nat)×Option Nat) hm 189 [0,4,5,16] (fun s=>s.1) (fun (v203,a202) h=>(a202=none->v203=[])/\Own vars h0 [(sC g142 (flatC (v163.map n8))),(sC g136 [(clo 70 [(FP (aw p1))])]),(sC g140 [nS,nS]),(sC g198 [(ag 1 a202 (v203.map n8)),(ag 1 none (([]:List Nat).map n8))]),(a202,.cells (flatC (v203.map n8)) false),(none,.cells (flatC (([]:List Nat).map n8)) false),(sC g1 [((ah 1 n8) r6.1.out),((ah 1 n8) r6.1.next)]),(sC g3 [nS,nS]),(sR g138 (cy p0 (.slice (some ⟨g142,0,none⟩) p0.nodes.length p0.nodes.length) (clo 103 [(FP (av p1.line)),(pG g136)]) (clo 66 [])))] h) (fun (v203,a202)=>[]) (fun hm=>?_) ?_
          ·refine gX ?_
           refine lw 189 [0,4,5,16,143,144] (σ:=((List Nat)×Nat)×Option Nat) (fun s=>s.1) (fun ((v207,v208),a206) h=>(a206=none->v207=[])/\Own vars h0 [(sC g142 (flatC (v163.map n8))),(sC g136 [(clo 70 [(FP (aw p1))])]),(sC g140 [nS,nS]),(sC g198 [(ag 1 a206 (v207.map n8)),(ag 1 none (([]:List Nat).map n8))]),(a206,.cells (flatC (v207.map n8)) false),(none,.cells (flatC (([]:List Nat).map n8)) false),(sC g1 [((ah 1 n8) r6.1.out),((ah 1 n8) r6.1.next)]),(sC g3 [nS,nS]),(sR g138 (cy p0 (.slice (some ⟨g142,0,none⟩) p0.nodes.length p0.nodes.length) (clo 103 [(FP (av p1.line)),(pG g136)]) (clo 66 [])))] h) (fun ((v207,v208),a206)=>[(145,(i64 v208))]) ((([]:List Nat),0),none) hm ⟨(fun _=>rfl),(O.sel [3,4,5,0,2,1,6,7,8] (by decide))⟩ ?_
           clear hm;rintro⟨⟨v207,v208⟩,a206⟩ nx210 base h hm ⟨ha209,O⟩
           refine gX ?_
           refine br hm (fun hm=>?_) fun hm=>?_
           ·refine gX ?_
            refine atF hm fun x211 hx211 hm=>?_;refine gX ?_
            refine ldO (O.at (.tail _ (.tail _ (.tail _ (.head _))))) ?_;refine gH ?_
            first|refine⟨.inr (.inr (ae rfl (O.at (.tail _ (.tail _ (.tail _ (.head _))))) rfl rfl)),?_⟩|refine⟨.inr (.inl (by kernel_rfl)),?_⟩
            refine gX ?_
            refine dF ?_
            refine gX ?_
            refine ix 1 hm fun x212 hx212 hm=>?_;refine gH ?_
            refine⟨_,ae rfl (O.at (.head _)) rfl (bC (enc:=n8) (s:=1) (k:=0) (fun _=>rfl) hx212 rfl),?_⟩;refine gH ?_
            refine O.bV (l:=([x212]:(List Nat))) (enc:=n8) (s:=1) (z:=(n8 0)) rfl rfl (by kernel_rfl) (by kernel_rfl) rfl rfl rfl rfl (fun _=>rfl) fun g213 h O=>?_;refine gH ?_
            refine O.cu (enc:=n8) (l:=v207) (new:=([x212]:(List Nat))) (s:=1) (b:=1) (.tail _ (.tail _ (.tail _ (.tail _ (.tail _ (.head _)))))) ha209 rfl rfl rfl rfl rfl rfl rfl rfl (YOk.own (O.at (.head _)) rfl (fun _=>rfl) rfl) (fun _=>rfl) (fun _=>rfl) (by decide) hm.1 fun a215 h ha216 O=>?_;refine gH ?_
            (first|refine⟨.inr (.inr (ae rfl (O.at (.head _)) rfl rfl)),?_⟩|refine⟨.inr (.inr (ae rfl (O.at (.tail _ (.head _))) rfl rfl)),?_⟩|refine⟨.inr (.inr (ae rfl (O.at (.tail _ (.tail _ (.head _)))) rfl rfl)),?_⟩|refine⟨.inr (.inr (ae rfl (O.at (.tail _ (.tail _ (.tail _ (.head _))))) rfl rfl)),?_⟩|refine⟨.inr (.inr (ae rfl (O.at (.tail _ (.tail _ (.tail _ (.tail _ (.head _)))))) rfl rfl)),?_⟩|refine⟨.inr (.inr (ae rfl (O.at (.tail _ (.tail _ (.tail _ (.tail _ (.tail _ (.head _))))))) rfl rfl)),?_⟩|refine⟨.inr (.inr (ae rfl (O.at (.tail _ (.tail _ (.tail _ (.tail _ (.tail _ (.tail _ (.head _)))))))) rfl rfl)),?_⟩|refine⟨.inl (Ext.refl _),?_⟩|refine⟨.inr (.inr rfl),?_⟩|refine⟨.inr (by kernel_rfl),?_⟩|refine⟨.inl (by kernel_rfl),?_⟩|refine id ?_);refine gH ?_
            replace hm:=hm.2
            refine O.stC 1 (.tail _ (.tail _ (.tail _ (.tail _ (.head _))))) [(ag 1 a215 ((v207++([x212]:(List Nat))).map n8)),(ag 1 none (([]:List Nat).map n8))] fun h O=>?_;refine gH ?_
            (first|refine⟨.inr (.inr (ae rfl (O.at (.head _)) rfl rfl)),?_⟩|refine⟨.inr (.inr (ae rfl (O.at (.tail _ (.head _))) rfl rfl)),?_⟩|refine⟨.inr (.inr (ae rfl (O.at (.tail _ (.tail _ (.head _)))) rfl rfl)),?_⟩|refine⟨.inr (.inr (ae rfl (O.at (.tail _ (.tail _ (.tail _ (.head _))))) rfl rfl)),?_⟩|refine⟨.inr (.inr (ae rfl (O.at (.tail _ (.tail _ (.tail _ (.tail _ (.head _)))))) rfl rfl)),?_⟩|refine⟨.inr (.inr (ae rfl (O.at (.tail _ (.tail _ (.tail _ (.tail _ (.tail _ (.head _))))))) rfl rfl)),?_⟩|refine⟨.inr (.inr (ae rfl (O.at (.tail _ (.tail _ (.tail _ (.tail _ (.tail _ (.tail _ (.head _)))))))) rfl rfl)),?_⟩|refine⟨.inl (Ext.refl _),?_⟩|refine⟨.inr (.inr rfl),?_⟩|refine⟨.inr (by kernel_rfl),?_⟩|refine⟨.inl (by kernel_rfl),?_⟩|refine id ?_);refine gH ?_
            refine gX ?_
            refine aL hm fun hm=>?_;refine gH ?_
            exact jx (((v207++([x212]:(List Nat))),(v208+1)),a215) hm ⟨ha216,(O.sel [1,2,3,4,5,6,7,8,9] (by decide))⟩
           ·refine gX ?_
            exact jx (v207,a206) hm ⟨ha209,O⟩
          ·clear hm;rintro⟨v203,a202⟩ base h hm ⟨ha204,O⟩
           conv=>whnf
           refine jn (σ:=(List Nat)×Option Nat) hm 189 [4,16] (fun s=>s.1) (fun (v218,a217) h=>(a202=none->v203=[])/\(a217=none->v218=[])/\Own vars h0 [(sC g140 [nS,nS]),(sC g198 [(ag 1 a202 (v203.map n8)),(ag 1 a217 (v218.map n8))]),(a202,.cells (flatC (v203.map n8)) false),(a217,.cells (flatC (v218.map n8)) false),(sC g1 [((ah 1 n8) r6.1.out),((ah 1 n8) r6.1.next)]),(sC g3 [nS,nS]),(sR g138 (cy p0 (.slice (some ⟨g142,0,none⟩) p0.nodes.length p0.nodes.length) (clo 103 [(FP (av p1.line)),(pG g136)]) (clo 66 []))),(sC g142 (flatC (v163.map n8))),(sC g136 [(clo 70 [(FP (aw p1))])])] h) (fun (v218,a217)=>[]) (fun hm=>?_) ?_
           ·refine gX ?_
            refine lw 189 [0,4,16,162,163] (σ:=((List Nat)×Nat)×Option Nat) (fun s=>s.1) (fun ((v223,v224),a222) h=>(a202=none->v203=[])/\(a222=none->v223=[])/\Own vars h0 [(sC g142 (flatC (v163.map n8))),(sC g136 [(clo 70 [(FP (aw p1))])]),(sC g140 [nS,nS]),(sC g198 [(ag 1 a202 (v203.map n8)),(ag 1 a222 (v223.map n8))]),(a202,.cells (flatC (v203.map n8)) false),(a222,.cells (flatC (v223.map n8)) false),(sC g1 [((ah 1 n8) r6.1.out),((ah 1 n8) r6.1.next)]),(sC g3 [nS,nS]),(sR g138 (cy p0 (.slice (some ⟨g142,0,none⟩) p0.nodes.length p0.nodes.length) (clo 103 [(FP (av p1.line)),(pG g136)]) (clo 66 [])))] h) (fun ((v223,v224),a222)=>[(164,(i64 v224))]) ((([]:List Nat),0),none) hm ⟨ha204,(fun _=>rfl),O⟩ ?_
            clear hm;rintro⟨⟨v223,v224⟩,a222⟩ nx227 base h hm ⟨ha225,ha226,O⟩
            refine gX ?_
            refine br hm (fun hm=>?_) fun hm=>?_
            ·refine gX ?_
             refine atF hm fun x228 hx228 hm=>?_;refine gX ?_
             refine fg Tryz.func74 ?_;conv=>whnf
             apply Cs;conv=>whnf
             apply Cs;refine gH ?_
             have O:=O.aM (.cells (flatC ((([]:List Nat)).map n8)) false)
             apply Cs;conv=>whnf
             apply Cs;refine gH ?_
             have O:=O.aM (.cells (flatC ((([]:List Nat)).map n8)) false)
             refine jn (σ:=(List Nat)×Option Nat) hm 42 [] (fun s=>s.1) (fun (v232,a231) h=>(a231=none->v232=[])/\(a202=none->v203=[])/\(a222=none->v223=[])/\Own vars h0 [(a231,.cells (flatC (v232.map n8)) false),(sC g1 [((ah 1 n8) r6.1.out),((ah 1 n8) r6.1.next)]),(sC g3 [nS,nS]),(sR g138 (cy p0 (.slice (some ⟨g142,0,none⟩) p0.nodes.length p0.nodes.length) (clo 103 [(FP (av p1.line)),(pG g136)]) (clo 66 []))),(sC g142 (flatC (v163.map n8))),(sC g136 [(clo 70 [(FP (aw p1))])]),(sC g140 [nS,nS]),(sC g198 [(ag 1 a202 (v203.map n8)),(ag 1 a222 (v223.map n8))]),(a202,.cells (flatC (v203.map n8)) false),(a222,.cells (flatC (v223.map n8)) false)] h) (fun (v232,a231)=>[(5,(ag 1 a231 (v232.map n8)))]) (fun hm=>?_) ?_
             ·refine gX ?_
              refine atF hm fun x237 hx237 hm=>?_;refine gX ?_
              refine lw 42 [0,1,16,17] (σ:=((List Nat)×Nat)×Option Nat) (fun s=>s.1) (fun ((v239,v240),a238) h=>(a238=none->v239=[])/\(a202=none->v203=[])/\(a222=none->v223=[])/\Own vars h0 [(sC g142 (flatC (v163.map n8))),(sC g136 [(clo 70 [(FP (aw p1))])]),(a238,.cells (flatC (v239.map n8)) false),(sC g1 [((ah 1 n8) r6.1.out),((ah 1 n8) r6.1.next)]),(sC g3 [nS,nS]),(sR g138 (cy p0 (.slice (some ⟨g142,0,none⟩) p0.nodes.length p0.nodes.length) (clo 103 [(FP (av p1.line)),(pG g136)]) (clo 66 []))),(sC g140 [nS,nS]),(sC g198 [(ag 1 a202 (v203.map n8)),(ag 1 a222 (v223.map n8))]),(a202,.cells (flatC (v203.map n8)) false),(a222,.cells (flatC (v223.map n8)) false)] h) (fun ((v239,v240),a238)=>[(5,(ag 1 a238 (v239.map n8))),(18,(i64 v240))]) ((([]:List Nat),0),none) hm ⟨(fun _=>rfl),ha225,ha226,(O.sel [2,3,0,8,9,10,4,5,6,7] (by decide))⟩ ?_
              clear hm;rintro⟨⟨v239,v240⟩,a238⟩ nx244 base h hm ⟨ha241,ha242,ha243,O⟩
              refine gX ?_
              refine br hm (fun hm=>?_) fun hm=>?_
              ·refine gX ?_
               refine atF hm fun x245 hx245 hm=>?_;refine gX ?_
               refine dF ?_
               refine gX ?_
               refine dF ?_
               refine gX ?_
               refine ix 1 hm fun x246 hx246 hm=>?_;refine gH ?_
               refine⟨_,ae rfl (O.at (.head _)) rfl (bC (enc:=n8) (s:=1) (k:=0) (fun _=>rfl) hx246 rfl),?_⟩;refine gH ?_
               refine fg Tryz.func66 ?_;refine gX ?_
               (first|refine⟨.inr (.inr (ae rfl (O.at (.head _)) rfl rfl)),?_⟩|refine⟨.inr (.inr (ae rfl (O.at (.tail _ (.head _))) rfl rfl)),?_⟩|refine⟨.inr (.inr (ae rfl (O.at (.tail _ (.tail _ (.head _)))) rfl rfl)),?_⟩|refine⟨.inr (.inr (ae rfl (O.at (.tail _ (.tail _ (.tail _ (.head _))))) rfl rfl)),?_⟩|refine⟨.inr (.inr (ae rfl (O.at (.tail _ (.tail _ (.tail _ (.tail _ (.head _)))))) rfl rfl)),?_⟩|refine⟨.inr (.inr (ae rfl (O.at (.tail _ (.tail _ (.tail _ (.tail _ (.tail _ (.head _))))))) rfl rfl)),?_⟩|refine⟨.inr (.inr (ae rfl (O.at (.tail _ (.tail _ (.tail _ (.tail _ (.tail _ (.tail _ (.head _)))))))) rfl rfl)),?_⟩|refine⟨.inl (Ext.refl _),?_⟩|refine⟨.inr (.inr rfl),?_⟩|refine⟨.inr (by kernel_rfl),?_⟩|refine⟨.inl (by kernel_rfl),?_⟩|refine id ?_);refine gH ?_
               refine O.bV (l:=([x246]:(List Nat))) (enc:=n8) (s:=1) (z:=(n8 0)) rfl rfl (by kernel_rfl) (by kernel_rfl) rfl rfl rfl rfl (fun _=>rfl) fun g247 h O=>?_;refine gH ?_
               refine O.cu (enc:=n8) (l:=v239) (new:=([x246]:(List Nat))) (s:=1) (b:=1) (.tail _ (.tail _ (.tail _ (.head _)))) ha241 rfl rfl rfl rfl rfl rfl rfl rfl (YOk.own (O.at (.head _)) rfl (fun _=>rfl) rfl) (fun _=>rfl) (fun _=>rfl) (by decide) hm.1 fun a249 h ha250 O=>?_;refine gH ?_
               (first|refine⟨.inr (.inr (ae rfl (O.at (.head _)) rfl rfl)),?_⟩|refine⟨.inr (.inr (ae rfl (O.at (.tail _ (.head _))) rfl rfl)),?_⟩|refine⟨.inr (.inr (ae rfl (O.at (.tail _ (.tail _ (.head _)))) rfl rfl)),?_⟩|refine⟨.inr (.inr (ae rfl (O.at (.tail _ (.tail _ (.tail _ (.head _))))) rfl rfl)),?_⟩|refine⟨.inr (.inr (ae rfl (O.at (.tail _ (.tail _ (.tail _ (.tail _ (.head _)))))) rfl rfl)),?_⟩|refine⟨.inr (.inr (ae rfl (O.at (.tail _ (.tail _ (.tail _ (.tail _ (.tail _ (.head _))))))) rfl rfl)),?_⟩|refine⟨.inr (.inr (ae rfl (O.at (.tail _ (.tail _ (.tail _ (.tail _ (.tail _ (.tail _ (.head _)))))))) rfl rfl)),?_⟩|refine⟨.inl (Ext.refl _),?_⟩|refine⟨.inr (.inr rfl),?_⟩|refine⟨.inr (by kernel_rfl),?_⟩|refine⟨.inl (by kernel_rfl),?_⟩|refine id ?_);refine gH ?_
               replace hm:=hm.2
               refine gX ?_
               refine aL hm fun hm=>?_;refine gH ?_
               exact jx (((v239++([x246]:(List Nat))),(v240+1)),a249) hm ⟨ha250,ha242,ha243,(O.sel [1,2,3,4,5,6,7,8,9,10] (by decide))⟩
              ·refine gX ?_
               exact jx (v239,a238) hm ⟨ha241,ha242,ha243,(O.sel [2,3,4,5,0,1,6,7,8,9] (by decide))⟩
             ·clear hm;rintro⟨v232,a231⟩ base h hm ⟨ha233,ha234,ha235,O⟩
              refine gX ?_
              obtain⟨x251,hx251,hm⟩:=hm
              have h9:=hm
              obtain⟨g252,rfl⟩:=dL ha233 hx251
              replace hm:=h9
              refine cF (s:=1) (j:=0) rfl rfl rfl rfl (by rw[List.length_map];exact aj hx251) ?_;refine gH ?_
              refine ldE (s:=1) (i:=0) (O.at (.head _)) hx251 ?_;refine gH ?_
              refine jn hm 189 [0,4,16,162,163,164] (fun s=>s) (fun v253 h=>(a202=none->v203=[])/\(a222=none->v223=[])/\Own vars h0 [(sC g142 (flatC (v163.map n8))),(sC g136 [(clo 70 [(FP (aw p1))])]),(sC g140 [nS,nS]),(sC g198 [(ag 1 a202 (v203.map n8)),(ag 1 a222 (v223.map n8))]),(a202,.cells (flatC (v203.map n8)) false),(a222,.cells (flatC (v223.map n8)) false),(sC g1 [((ah 1 n8) r6.1.out),((ah 1 n8) r6.1.next)]),(sC g3 [nS,nS]),(sR g138 (cy p0 (.slice (some ⟨g142,0,none⟩) p0.nodes.length p0.nodes.length) (clo 103 [(FP (av p1.line)),(pG g136)]) (clo 66 [])))] h) (fun v253=>[(21,(n8 v253))]) (fun hm=>?_) ?_
              ·refine gX ?_
               refine br hm (fun hm=>?_) fun hm=>?_
               ·refine gX ?_
                exact jx 2 hm ⟨ha234,ha235,(O.sel [4,5,6,7,8,9,1,2,3] (by decide))⟩
               ·refine gX ?_
                exact jx x251 hm ⟨ha234,ha235,(O.sel [4,5,6,7,8,9,1,2,3] (by decide))⟩
              ·clear hm;rintro v253 base h hm ⟨ha254,ha255,O⟩
               refine gX ?_
               refine ldO (O.at (.tail _ (.tail _ (.tail _ (.head _))))) ?_;refine gH ?_
               refine fz ?_;refine gH ?_
               refine O.apL (enc:=n8) (l:=v223) (new:=([v253]:(List Nat))) 1 (.tail _ (.tail _ (.tail _ (.tail _ (.tail _ (.head _)))))) ha255 hm fun a257 h ha258 O hm=>?_;refine gH ?_
               refine O.stC 1 (.tail _ (.tail _ (.tail _ (.head _)))) [(ag 1 a202 (v203.map n8)),(ag 1 a257 ((v223++([v253]:(List Nat))).map n8))] fun h O=>?_;refine gX ?_
               refine aL hm fun hm=>?_;refine gH ?_
               exact jx (((v223++([v253]:(List Nat))),(v224+1)),a257) hm ⟨ha254,ha258,O⟩
            ·refine gX ?_
             exact jx (v223,a222) hm ⟨ha225,ha226,(O.sel [2,3,4,5,6,7,8,0,1] (by decide))⟩
           ·clear hm;rintro⟨v218,a217⟩ base h hm ⟨ha219,ha220,O⟩
            refine gX ?_
            first|refine⟨.inr (.inr (ae rfl (O.at (.tail _ (.head _))) rfl rfl)),?_⟩|refine⟨.inr (.inl (by kernel_rfl)),?_⟩
            refine gX ?_
            refine fg Tryz.func75 ?_;refine gX ?_
            refine iq (s:=1) (enc:=n8) (l:=v203) (n:=v203.length) (m:=v203.length) rfl rfl rfl rfl rfl rfl rfl ?_;refine gX ?_
            (first|refine⟨.inr (.inr (ae rfl (O.at (.head _)) rfl rfl)),?_⟩|refine⟨.inr (.inr (ae rfl (O.at (.tail _ (.head _))) rfl rfl)),?_⟩|refine⟨.inr (.inr (ae rfl (O.at (.tail _ (.tail _ (.head _)))) rfl rfl)),?_⟩|refine⟨.inr (.inr (ae rfl (O.at (.tail _ (.tail _ (.tail _ (.head _))))) rfl rfl)),?_⟩|refine⟨.inr (.inr (ae rfl (O.at (.tail _ (.tail _ (.tail _ (.tail _ (.head _)))))) rfl rfl)),?_⟩|refine⟨.inr (.inr (ae rfl (O.at (.tail _ (.tail _ (.tail _ (.tail _ (.tail _ (.head _))))))) rfl rfl)),?_⟩|refine⟨.inr (.inr (ae rfl (O.at (.tail _ (.tail _ (.tail _ (.tail _ (.tail _ (.tail _ (.head _)))))))) rfl rfl)),?_⟩|refine⟨.inl (Ext.refl _),?_⟩|refine⟨.inr (.inr rfl),?_⟩|refine⟨.inr (by kernel_rfl),?_⟩|refine⟨.inl (by kernel_rfl),?_⟩|refine id ?_);refine gH ?_
            first|refine⟨.inr (.inr (ae rfl (O.at (.tail _ (.head _))) rfl rfl)),?_⟩|refine⟨.inr (.inl (by kernel_rfl)),?_⟩
            refine gX ?_
            refine fg Tryz.func75 ?_;refine gX ?_
            refine iq (s:=1) (enc:=n8) (l:=v218) (n:=v218.length) (m:=v218.length) rfl rfl rfl rfl rfl rfl rfl ?_;refine gX ?_
            (first|refine⟨.inr (.inr (ae rfl (O.at (.head _)) rfl rfl)),?_⟩|refine⟨.inr (.inr (ae rfl (O.at (.tail _ (.head _))) rfl rfl)),?_⟩|refine⟨.inr (.inr (ae rfl (O.at (.tail _ (.tail _ (.head _)))) rfl rfl)),?_⟩|refine⟨.inr (.inr (ae rfl (O.at (.tail _ (.tail _ (.tail _ (.head _))))) rfl rfl)),?_⟩|refine⟨.inr (.inr (ae rfl (O.at (.tail _ (.tail _ (.tail _ (.tail _ (.head _)))))) rfl rfl)),?_⟩|refine⟨.inr (.inr (ae rfl (O.at (.tail _ (.tail _ (.tail _ (.tail _ (.tail _ (.head _))))))) rfl rfl)),?_⟩|refine⟨.inr (.inr (ae rfl (O.at (.tail _ (.tail _ (.tail _ (.tail _ (.tail _ (.tail _ (.head _)))))))) rfl rfl)),?_⟩|refine⟨.inl (Ext.refl _),?_⟩|refine⟨.inr (.inr rfl),?_⟩|refine⟨.inr (by kernel_rfl),?_⟩|refine⟨.inl (by kernel_rfl),?_⟩|refine id ?_);refine gH ?_
            refine O.stC 2 (.head _) [(dJ a202 (v203.map n8)),(dJ a217 (v218.map n8))] fun h O=>?_;refine gH ?_
            (first|refine⟨.inr (.inr (ae rfl (O.at (.head _)) rfl rfl)),?_⟩|refine⟨.inr (.inr (ae rfl (O.at (.tail _ (.head _))) rfl rfl)),?_⟩|refine⟨.inr (.inr (ae rfl (O.at (.tail _ (.tail _ (.head _)))) rfl rfl)),?_⟩|refine⟨.inr (.inr (ae rfl (O.at (.tail _ (.tail _ (.tail _ (.head _))))) rfl rfl)),?_⟩|refine⟨.inr (.inr (ae rfl (O.at (.tail _ (.tail _ (.tail _ (.tail _ (.head _)))))) rfl rfl)),?_⟩|refine⟨.inr (.inr (ae rfl (O.at (.tail _ (.tail _ (.tail _ (.tail _ (.tail _ (.head _))))))) rfl rfl)),?_⟩|refine⟨.inr (.inr (ae rfl (O.at (.tail _ (.tail _ (.tail _ (.tail _ (.tail _ (.tail _ (.head _)))))))) rfl rfl)),?_⟩|refine⟨.inl (Ext.refl _),?_⟩|refine⟨.inr (.inr rfl),?_⟩|refine⟨.inr (by kernel_rfl),?_⟩|refine⟨.inl (by kernel_rfl),?_⟩|refine id ?_);refine gH ?_
            refine gX ?_
            refine⟨_,aH rfl rfl (O.at (.head _)) rfl rfl (lbE rfl) rfl,?_⟩;refine gX ?_
            refine O.stC 2 (.tail _ (.tail _ (.tail _ (.tail _ (.tail _ (.head _)))))) [(dJ a202 (v203.map n8)),(dJ a217 (v218.map n8))] fun h O=>?_;refine gX ?_
            refine ldA (O.at (.tail _ (.tail _ (.tail _ (.tail _ (.head _)))))) ?_;refine gH ?_
            first|refine⟨.inr (.inr (bh rfl (O.at (.tail _ (.tail _ (.tail _ (.tail _ (.head _)))))) rfl rfl (lbE rfl) rfl)),?_⟩|refine⟨.inr (.inl (by kernel_rfl)),?_⟩
            refine gX ?_
            refine ldA (O.at (.tail _ (.tail _ (.tail _ (.tail _ (.tail _ (.head _))))))) ?_;refine gH ?_
            first|refine⟨.inr (.inr (bh rfl (O.at (.tail _ (.tail _ (.tail _ (.tail _ (.tail _ (.head _))))))) rfl rfl (lbE rfl) rfl)),?_⟩|refine⟨.inr (.inl (by kernel_rfl)),?_⟩
            refine gX ?_
            refine ldO (O.at (.tail _ (.tail _ (.tail _ (.tail _ (.tail _ (.tail _ (.head _)))))))) ?_;refine gH ?_
            first|refine⟨.inr (.inr (ae rfl (O.at (.tail _ (.tail _ (.tail _ (.tail _ (.tail _ (.tail _ (.head _)))))))) rfl rfl)),?_⟩|refine⟨.inr (.inl (by kernel_rfl)),?_⟩
            refine gX ?_
            refine O.jO 2 (.tail _ (.tail _ (.tail _ (.tail _ (.head _))))) fun h hext O=>?_;conv=>whnf
            refine⟨.inr hext,?_⟩;refine gH ?_
            refine O.jO 2 (.tail _ (.tail _ (.tail _ (.tail _ (.tail _ (.head _)))))) fun h hext O=>?_;conv=>whnf
            refine⟨.inr hext,?_⟩;refine gX ?_
            refine⟨_,aH rfl rfl (O.at (.tail _ (.tail _ (.tail _ (.tail _ (.head _)))))) rfl rfl (lbE rfl) rfl,?_⟩;conv=>whnf
            refine⟨_,aH rfl rfl (O.at (.tail _ (.tail _ (.tail _ (.tail _ (.tail _ (.head _))))))) rfl rfl (lbE rfl) rfl,?_⟩;conv=>whnf
            obtain⟨hn259,hm⟩:=hm
            exact⟨(r6.1,(⟨v203,v218⟩:Rsp),v163,0),hm,O.ext,fun h2 F=>VLe.tup (LLe.cons (VLe.refl _ _) (LLe.cons (VLe.agg (LLe.cons (O.kc F (Nat.le_refl _) (.tail _ (.tail _ (.head _))) ha219 (fun _=>rfl)) (LLe.cons (O.kc F (Nat.le_refl _) (.tail _ (.tail _ (.tail _ (.head _)))) ha220 (fun _=>rfl)) (LLe.nil _)))) (LLe.cons (O.jI F (Nat.le_refl _) (.tail _ (.tail _ (.tail _ (.tail _ (.tail _ (.tail _ (.tail _ (.head _)))))))) (fun _=>rfl) hn259) (LLe.cons (VLe.refl _ _) (LLe.nil _)))))⟩
      ·refine gX ?_
       refine O.stC 1 (.head _) (cy p0 nS (clo 102 []) (clo 104 [(FP (av p1.line)),(pG g136)])) fun h O=>?_;refine gX ?_
       refine fg Tryz.func38 ?_;refine gX ?_
       refine fz ?_;refine gH ?_
       (first|refine O.new (ak (l:=[nS,nS]) rfl rfl rfl) fun g260 h O=>?_|refine O.dy (ak (l:=[nS,nS]) rfl rfl rfl) fun g260 h O=>?_);refine gH ?_
       refine gX ?_
       refine O.mkL (enc:=n8) 1 1 0 hm fun g262 h O hm=>?_;refine gH ?_
       refine O.stC 1 (.tail _ (.tail _ (.head _))) (cy p0 (.slice (some ⟨g262,0,none⟩) p0.nodes.length p0.nodes.length) (clo 102 []) (clo 104 [(FP (av p1.line)),(pG g136)])) fun h O=>?_;refine gH ?_
       apply Cs;conv=>whnf
       refine CodeS.vM O (.tail _ (.tail _ (.head _))) 0 rfl rfl fun h O=>?_;refine gX ?_
       refine ca (bM hm O.has) fun r264 hm=>?_;refine gH ?_
       refine jn hm 189 [0,3,4,5] (fun s=>s) (fun v265 h=>Own vars h0 [(sC g262 (flatC (v265.map n8))),(sC g136 [(clo 70 [(FP (aw p1))])]),(sC g260 [nS,nS]),(sC g1 [((ah 1 n8) r6.1.out),((ah 1 n8) r6.1.next)]),(sC g3 [nS,nS]),(sR g138 (cy p0 (.slice (some ⟨g262,0,none⟩) p0.nodes.length p0.nodes.length) (clo 102 []) (clo 104 [(FP (av p1.line)),(pG g136)])))] h) (fun v265=>[]) (fun hm=>?_) ?_
       ·refine gX ?_
        refine ca (cr hm O.has) fun r267 hm=>?_;refine gX ?_
        refine lw 189 [0,3,4,5,41,42] (σ:=((List Nat)×Nat)) (fun s=>s) (fun (v268,v269) h=>Own vars h0 [(sC g262 (flatC (v268.map n8))),(sC g136 [(clo 70 [(FP (aw p1))])]),(sC g260 [nS,nS]),(sC g1 [((ah 1 n8) r6.1.out),((ah 1 n8) r6.1.next)]),(sC g3 [nS,nS]),(sR g138 (cy p0 (.slice (some ⟨g262,0,none⟩) p0.nodes.length p0.nodes.length) (clo 102 []) (clo 104 [(FP (av p1.line)),(pG g136)])))] h) (fun (v268,v269)=>[(43,(i64 v269))]) ((List.replicate p0.nodes.length (0:Nat)),0) hm (O.sel [0,3,1,7,6,2] (by decide)) ?_
        clear hm;rintro⟨v268,v269⟩ nx270 base h hm O
        refine gX ?_
        refine br hm (fun hm=>?_) fun hm=>?_
        ·refine gX ?_
         refine atF hm fun x271 hx271 hm=>?_;refine gX ?_
         refine dF ?_
         refine gX ?_
         refine dF ?_
         refine gX ?_
         refine atF hm fun x272 hx272 hm=>?_;refine gH ?_
         refine ix 1 hm fun x273 hx273 hm=>?_;refine gH ?_
         refine O.stE 1 (.head _) hx273 x272 fun h O=>?_;refine gH ?_
         (first|refine⟨.inr (.inr (ae rfl (O.at (.head _)) rfl rfl)),?_⟩|refine⟨.inr (.inr (ae rfl (O.at (.tail _ (.head _))) rfl rfl)),?_⟩|refine⟨.inr (.inr (ae rfl (O.at (.tail _ (.tail _ (.head _)))) rfl rfl)),?_⟩|refine⟨.inr (.inr (ae rfl (O.at (.tail _ (.tail _ (.tail _ (.head _))))) rfl rfl)),?_⟩|refine⟨.inr (.inr (ae rfl (O.at (.tail _ (.tail _ (.tail _ (.tail _ (.head _)))))) rfl rfl)),?_⟩|refine⟨.inr (.inr (ae rfl (O.at (.tail _ (.tail _ (.tail _ (.tail _ (.tail _ (.head _))))))) rfl rfl)),?_⟩|refine⟨.inr (.inr (ae rfl (O.at (.tail _ (.tail _ (.tail _ (.tail _ (.tail _ (.tail _ (.head _)))))))) rfl rfl)),?_⟩|refine⟨.inl (Ext.refl _),?_⟩|refine⟨.inr (.inr rfl),?_⟩|refine⟨.inr (by kernel_rfl),?_⟩|refine⟨.inl (by kernel_rfl),?_⟩|refine id ?_);refine gH ?_
         refine gX ?_
         refine aL hm fun hm=>?_;refine gH ?_
         exact jx ((v268.set x271 x272),(v269+1)) hm O
        ·refine gX ?_
         exact jx v268 hm O
       ·clear hm;rintro v265 base h hm O
        conv=>whnf
        refine jn hm 189 [0,4,5] (fun s=>s) (fun v274 h=>Own vars h0 [(sC g262 (flatC (v274.map n8))),(sC g136 [(clo 70 [(FP (aw p1))])]),(sC g260 [nS,nS]),(sC g1 [((ah 1 n8) r6.1.out),((ah 1 n8) r6.1.next)]),(sC g3 [nS,nS]),(sR g138 (cy p0 (.slice (some ⟨g262,0,none⟩) p0.nodes.length p0.nodes.length) (clo 102 []) (clo 104 [(FP (av p1.line)),(pG g136)])))] h) (fun v274=>[]) (fun hm=>?_) ?_
        ·refine gX ?_
         refine lw 189 [0,3,4,5,60,61] (σ:=((List Nat)×Nat)) (fun s=>s) (fun (v276,v277) h=>Own vars h0 [(sC g262 (flatC (v276.map n8))),(sC g136 [(clo 70 [(FP (aw p1))])]),(sC g260 [nS,nS]),(sC g1 [((ah 1 n8) r6.1.out),((ah 1 n8) r6.1.next)]),(sC g3 [nS,nS]),(sR g138 (cy p0 (.slice (some ⟨g262,0,none⟩) p0.nodes.length p0.nodes.length) (clo 102 []) (clo 104 [(FP (av p1.line)),(pG g136)])))] h) (fun (v276,v277)=>[(62,(i64 v277))]) (v265,0) hm O ?_
         clear hm;rintro⟨v276,v277⟩ nx278 base h hm O
         refine gX ?_
         refine br hm (fun hm=>?_) fun hm=>?_
         ·refine gX ?_
          refine atF hm fun x279 hx279 hm=>?_;refine gX ?_
          refine dF ?_
          refine gX ?_
          refine dF ?_
          refine gX ?_
          refine atF hm fun x280 hx280 hm=>?_;refine gH ?_
          refine ix 1 hm fun x281 hx281 hm=>?_;refine gH ?_
          refine O.stE 1 (.head _) hx281 x280 fun h O=>?_;refine gH ?_
          (first|refine⟨.inr (.inr (ae rfl (O.at (.head _)) rfl rfl)),?_⟩|refine⟨.inr (.inr (ae rfl (O.at (.tail _ (.head _))) rfl rfl)),?_⟩|refine⟨.inr (.inr (ae rfl (O.at (.tail _ (.tail _ (.head _)))) rfl rfl)),?_⟩|refine⟨.inr (.inr (ae rfl (O.at (.tail _ (.tail _ (.tail _ (.head _))))) rfl rfl)),?_⟩|refine⟨.inr (.inr (ae rfl (O.at (.tail _ (.tail _ (.tail _ (.tail _ (.head _)))))) rfl rfl)),?_⟩|refine⟨.inr (.inr (ae rfl (O.at (.tail _ (.tail _ (.tail _ (.tail _ (.tail _ (.head _))))))) rfl rfl)),?_⟩|refine⟨.inr (.inr (ae rfl (O.at (.tail _ (.tail _ (.tail _ (.tail _ (.tail _ (.tail _ (.head _)))))))) rfl rfl)),?_⟩|refine⟨.inl (Ext.refl _),?_⟩|refine⟨.inr (.inr rfl),?_⟩|refine⟨.inr (by kernel_rfl),?_⟩|refine⟨.inl (by kernel_rfl),?_⟩|refine id ?_);refine gH ?_
          refine gX ?_
          refine aL hm fun hm=>?_;refine gH ?_
          exact jx ((v276.set x279 x280),(v277+1)) hm O
         ·refine gX ?_
          exact jx v276 hm O
        ·clear hm;rintro v274 base h hm O
         refine gX ?_
         refine ca (dh hm O.has) fun r282 hm=>?_;refine gH ?_
         apply Cs;conv=>whnf
         apply Cs;refine gH ?_
         refine jn hm 189 [0,4,5] (fun s=>s) (fun v283 h=>Own vars h0 [(sC g262 (flatC (v283.map n8))),(sC g136 [(clo 70 [(FP (aw p1))])]),(sC g260 [nS,nS]),(sC g1 [((ah 1 n8) r6.1.out),((ah 1 n8) r6.1.next)]),(sC g3 [nS,nS]),(sR g138 (cy p0 (.slice (some ⟨g262,0,none⟩) p0.nodes.length p0.nodes.length) (clo 102 []) (clo 104 [(FP (av p1.line)),(pG g136)])))] h) (fun v283=>[]) (fun hm=>?_) ?_
         ·refine gX ?_
          refine lw 189 [0,4,5,12,89,90] (σ:=((List Nat)×Nat)) (fun s=>s) (fun (v285,v286) h=>Own vars h0 [(sC g262 (flatC (v285.map n8))),(sC g136 [(clo 70 [(FP (aw p1))])]),(sC g260 [nS,nS]),(sC g1 [((ah 1 n8) r6.1.out),((ah 1 n8) r6.1.next)]),(sC g3 [nS,nS]),(sR g138 (cy p0 (.slice (some ⟨g262,0,none⟩) p0.nodes.length p0.nodes.length) (clo 102 []) (clo 104 [(FP (av p1.line)),(pG g136)])))] h) (fun (v285,v286)=>[(91,(i64 v286))]) (v274,0) hm O ?_
          clear hm;rintro⟨v285,v286⟩ nx287 base h hm O
          refine gX ?_
          refine br hm (fun hm=>?_) fun hm=>?_
          ·refine gX ?_
           refine atF hm fun x288 hx288 hm=>?_;refine gH ?_
           refine jn hm 189 [0,4,5,12,14,89,90,91] (fun s=>s) (fun v289 h=>Own vars h0 [(sC g262 (flatC (v289.map n8))),(sC g136 [(clo 70 [(FP (aw p1))])]),(sC g260 [nS,nS]),(sC g1 [((ah 1 n8) r6.1.out),((ah 1 n8) r6.1.next)]),(sC g3 [nS,nS]),(sR g138 (cy p0 (.slice (some ⟨g262,0,none⟩) p0.nodes.length p0.nodes.length) (clo 102 []) (clo 104 [(FP (av p1.line)),(pG g136)])))] h) (fun v289=>[]) (fun hm=>?_) ?_
           ·refine gX ?_
            refine atF hm fun x291 hx291 hm=>?_;refine gH ?_
            refine jn hm 189 [0,4,5,12,14,89,90,91] (fun s=>s) (fun v292 h=>Own vars h0 [(sC g262 (flatC (v285.map n8))),(sC g136 [(clo 70 [(FP (aw p1))])]),(sC g260 [nS,nS]),(sC g1 [((ah 1 n8) r6.1.out),((ah 1 n8) r6.1.next)]),(sC g3 [nS,nS]),(sR g138 (cy p0 (.slice (some ⟨g262,0,none⟩) p0.nodes.length p0.nodes.length) (clo 102 []) (clo 104 [(FP (av p1.line)),(pG g136)])))] h) (fun v292=>[(109,(.bool v292))]) (fun hm=>?_) ?_
            ·refine gX ?_
             refine br hm (fun hm=>?_) fun hm=>?_
             ·refine gX ?_
              exact jx (neN x291.kind 14) hm O
             ·refine gX ?_
              exact jx false hm O
            ·clear hm;rintro v292 base h hm O
             refine gX ?_
             refine br hm (fun hm=>?_) fun hm=>?_
             ·refine CodeS.jD ?_;refine gH ?_
              refine fg Tryz.func73 ?_;conv=>whnf
              apply Cs;conv=>whnf
              apply Cs;refine gH ?_
              apply Cs;conv=>whnf
              refine CodeS.jD ?_;refine gH ?_
              refine atF hm fun x294 hx294 hm=>?_;refine gH ?_
              refine fg Tryz.func74 ?_;conv=>whnf
              apply Cs;conv=>whnf
              apply Cs;refine gH ?_
              have O:=O.aM (.cells (flatC ((([]:List Nat)).map n8)) false)
              apply Cs;conv=>whnf
              apply Cs;refine gH ?_
              have O:=O.aM (.cells (flatC ((([]:List Nat)).map n8)) false)
              refine jn (σ:=(List Nat)×Option Nat) hm 42 [] (fun s=>s.1) (fun (v298,a297) h=>(a297=none->v298=[])/\Own vars h0 [(a297,.cells (flatC (v298.map n8)) false),(sC g1 [((ah 1 n8) r6.1.out),((ah 1 n8) r6.1.next)]),(sC g3 [nS,nS]),(sR g138 (cy p0 (.slice (some ⟨g262,0,none⟩) p0.nodes.length p0.nodes.length) (clo 102 []) (clo 104 [(FP (av p1.line)),(pG g136)]))),(sC g262 (flatC (v285.map n8))),(sC g136 [(clo 70 [(FP (aw p1))])]),(sC g260 [nS,nS])] h) (fun (v298,a297)=>[(5,(ag 1 a297 (v298.map n8)))]) (fun hm=>?_) ?_
              ·refine gX ?_
               refine atF hm fun x301 hx301 hm=>?_;refine gX ?_
               refine lw 42 [0,1,16,17] (σ:=((List Nat)×Nat)×Option Nat) (fun s=>s.1) (fun ((v303,v304),a302) h=>(a302=none->v303=[])/\Own vars h0 [(sC g262 (flatC (v285.map n8))),(sC g136 [(clo 70 [(FP (aw p1))])]),(a302,.cells (flatC (v303.map n8)) false),(sC g1 [((ah 1 n8) r6.1.out),((ah 1 n8) r6.1.next)]),(sC g3 [nS,nS]),(sR g138 (cy p0 (.slice (some ⟨g262,0,none⟩) p0.nodes.length p0.nodes.length) (clo 102 []) (clo 104 [(FP (av p1.line)),(pG g136)]))),(sC g260 [nS,nS])] h) (fun ((v303,v304),a302)=>[(5,(ag 1 a302 (v303.map n8))),(18,(i64 v304))]) ((([]:List Nat),0),none) hm ⟨(fun _=>rfl),(O.sel [2,3,0,5,6,7,4] (by decide))⟩ ?_
               clear hm;rintro⟨⟨v303,v304⟩,a302⟩ nx306 base h hm ⟨ha305,O⟩
               refine gX ?_
               refine br hm (fun hm=>?_) fun hm=>?_
               ·refine gX ?_
                refine atF hm fun x307 hx307 hm=>?_;refine gX ?_
                refine dF ?_
                refine gX ?_
                refine dF ?_
                refine gX ?_
                refine ix 1 hm fun x308 hx308 hm=>?_;refine gH ?_
                refine⟨_,ae rfl (O.at (.head _)) rfl (bC (enc:=n8) (s:=1) (k:=0) (fun _=>rfl) hx308 rfl),?_⟩;refine gH ?_
                refine fg Tryz.func104 ?_;conv=>whnf
                apply Cs;conv=>whnf
                apply Cs;refine gH ?_
                apply Cs;conv=>whnf
                refine jn hm 23 [2,4] (fun s=>s) (fun v309 h=>(a302=none->v303=[])/\Own vars h0 [(sC g136 [(clo 70 [(FP (aw p1))])]),(sC g1 [((ah 1 n8) r6.1.out),((ah 1 n8) r6.1.next)]),(sC g3 [nS,nS]),(sR g138 (cy p0 (.slice (some ⟨g262,0,none⟩) p0.nodes.length p0.nodes.length) (clo 102 []) (clo 104 [(FP (av p1.line)),(pG g136)]))),(sC g262 (flatC (v285.map n8))),(sC g260 [nS,nS]),(a302,.cells (flatC (v303.map n8)) false)] h) (fun v309=>[(18,(.bool v309))]) (fun hm=>?_) ?_
                ·refine gX ?_
                 refine br hm (fun hm=>?_) fun hm=>?_
                 ·refine gX ?_
                  exact jx (eqZ (Int.ofNat v304) p1.line.pin) hm ⟨ha305,(O.sel [1,3,4,5,0,6,2] (by decide))⟩
                 ·refine gX ?_
                  exact jx false hm ⟨ha305,(O.sel [1,3,4,5,0,6,2] (by decide))⟩
                ·clear hm;rintro v309 base h hm ⟨ha310,O⟩
                 refine gX ?_
                 refine br hm (fun hm=>?_) fun hm=>?_
                 ·refine gX ?_
                  refine fg Tryz.func70 ?_;refine gX ?_
                  (first|refine⟨.inr (.inr (ae rfl (O.at (.head _)) rfl rfl)),?_⟩|refine⟨.inr (.inr (ae rfl (O.at (.tail _ (.head _))) rfl rfl)),?_⟩|refine⟨.inr (.inr (ae rfl (O.at (.tail _ (.tail _ (.head _)))) rfl rfl)),?_⟩|refine⟨.inr (.inr (ae rfl (O.at (.tail _ (.tail _ (.tail _ (.head _))))) rfl rfl)),?_⟩|refine⟨.inr (.inr (ae rfl (O.at (.tail _ (.tail _ (.tail _ (.tail _ (.head _)))))) rfl rfl)),?_⟩|refine⟨.inr (.inr (ae rfl (O.at (.tail _ (.tail _ (.tail _ (.tail _ (.tail _ (.head _))))))) rfl rfl)),?_⟩|refine⟨.inr (.inr (ae rfl (O.at (.tail _ (.tail _ (.tail _ (.tail _ (.tail _ (.tail _ (.head _)))))))) rfl rfl)),?_⟩|refine⟨.inl (Ext.refl _),?_⟩|refine⟨.inr (.inr rfl),?_⟩|refine⟨.inr (by kernel_rfl),?_⟩|refine⟨.inl (by kernel_rfl),?_⟩|refine id ?_);refine gH ?_
                  refine O.bV (l:=([p1.value]:(List Nat))) (enc:=n8) (s:=1) (z:=(n8 0)) rfl rfl (by kernel_rfl) (by kernel_rfl) rfl rfl rfl rfl (fun _=>rfl) fun g312 h O=>?_;refine gH ?_
                  refine O.cu (enc:=n8) (l:=v303) (new:=([p1.value]:(List Nat))) (s:=1) (b:=1) (.tail _ (.tail _ (.tail _ (.tail _ (.tail _ (.tail _ (.tail _ (.head _)))))))) ha310 rfl rfl rfl rfl rfl rfl rfl rfl (YOk.own (O.at (.head _)) rfl (fun _=>rfl) rfl) (fun _=>rfl) (fun _=>rfl) (by decide) hm.1 fun a314 h ha315 O=>?_;refine gH ?_
                  (first|refine⟨.inr (.inr (ae rfl (O.at (.head _)) rfl rfl)),?_⟩|refine⟨.inr (.inr (ae rfl (O.at (.tail _ (.head _))) rfl rfl)),?_⟩|refine⟨.inr (.inr (ae rfl (O.at (.tail _ (.tail _ (.head _)))) rfl rfl)),?_⟩|refine⟨.inr (.inr (ae rfl (O.at (.tail _ (.tail _ (.tail _ (.head _))))) rfl rfl)),?_⟩|refine⟨.inr (.inr (ae rfl (O.at (.tail _ (.tail _ (.tail _ (.tail _ (.head _)))))) rfl rfl)),?_⟩|refine⟨.inr (.inr (ae rfl (O.at (.tail _ (.tail _ (.tail _ (.tail _ (.tail _ (.head _))))))) rfl rfl)),?_⟩|refine⟨.inr (.inr (ae rfl (O.at (.tail _ (.tail _ (.tail _ (.tail _ (.tail _ (.tail _ (.head _)))))))) rfl rfl)),?_⟩|refine⟨.inl (Ext.refl _),?_⟩|refine⟨.inr (.inr rfl),?_⟩|refine⟨.inr (by kernel_rfl),?_⟩|refine⟨.inl (by kernel_rfl),?_⟩|refine id ?_);refine gH ?_
                  replace hm:=hm.2
                  refine gX ?_
                  refine aL hm fun hm=>?_;refine gH ?_
                  exact jx (((v303++([p1.value]:(List Nat))),(v304+1)),a314) hm ⟨ha315,(O.sel [5,1,7,2,3,4,6] (by decide))⟩
                 ·refine gX ?_
                  (first|refine⟨.inr (.inr (ae rfl (O.at (.head _)) rfl rfl)),?_⟩|refine⟨.inr (.inr (ae rfl (O.at (.tail _ (.head _))) rfl rfl)),?_⟩|refine⟨.inr (.inr (ae rfl (O.at (.tail _ (.tail _ (.head _)))) rfl rfl)),?_⟩|refine⟨.inr (.inr (ae rfl (O.at (.tail _ (.tail _ (.tail _ (.head _))))) rfl rfl)),?_⟩|refine⟨.inr (.inr (ae rfl (O.at (.tail _ (.tail _ (.tail _ (.tail _ (.head _)))))) rfl rfl)),?_⟩|refine⟨.inr (.inr (ae rfl (O.at (.tail _ (.tail _ (.tail _ (.tail _ (.tail _ (.head _))))))) rfl rfl)),?_⟩|refine⟨.inr (.inr (ae rfl (O.at (.tail _ (.tail _ (.tail _ (.tail _ (.tail _ (.tail _ (.head _)))))))) rfl rfl)),?_⟩|refine⟨.inl (Ext.refl _),?_⟩|refine⟨.inr (.inr rfl),?_⟩|refine⟨.inr (by kernel_rfl),?_⟩|refine⟨.inl (by kernel_rfl),?_⟩|refine id ?_);refine gH ?_
                  refine O.bV (l:=([x308]:(List Nat))) (enc:=n8) (s:=1) (z:=(n8 0)) rfl rfl (by kernel_rfl) (by kernel_rfl) rfl rfl rfl rfl (fun _=>rfl) fun g316 h O=>?_;refine gH ?_
                  refine O.cu (enc:=n8) (l:=v303) (new:=([x308]:(List Nat))) (s:=1) (b:=1) (.tail _ (.tail _ (.tail _ (.tail _ (.tail _ (.tail _ (.tail _ (.head _)))))))) ha310 rfl rfl rfl rfl rfl rfl rfl rfl (YOk.own (O.at (.head _)) rfl (fun _=>rfl) rfl) (fun _=>rfl) (fun _=>rfl) (by decide) hm.1 fun a318 h ha319 O=>?_;refine gH ?_
                  (first|refine⟨.inr (.inr (ae rfl (O.at (.head _)) rfl rfl)),?_⟩|refine⟨.inr (.inr (ae rfl (O.at (.tail _ (.head _))) rfl rfl)),?_⟩|refine⟨.inr (.inr (ae rfl (O.at (.tail _ (.tail _ (.head _)))) rfl rfl)),?_⟩|refine⟨.inr (.inr (ae rfl (O.at (.tail _ (.tail _ (.tail _ (.head _))))) rfl rfl)),?_⟩|refine⟨.inr (.inr (ae rfl (O.at (.tail _ (.tail _ (.tail _ (.tail _ (.head _)))))) rfl rfl)),?_⟩|refine⟨.inr (.inr (ae rfl (O.at (.tail _ (.tail _ (.tail _ (.tail _ (.tail _ (.head _))))))) rfl rfl)),?_⟩|refine⟨.inr (.inr (ae rfl (O.at (.tail _ (.tail _ (.tail _ (.tail _ (.tail _ (.tail _ (.head _)))))))) rfl rfl)),?_⟩|refine⟨.inl (Ext.refl _),?_⟩|refine⟨.inr (.inr rfl),?_⟩|refine⟨.inr (by kernel_rfl),?_⟩|refine⟨.inl (by kernel_rfl),?_⟩|refine id ?_);refine gH ?_
                  replace hm:=hm.2
                  refine gX ?_
                  refine aL hm fun hm=>?_;refine gH ?_
                  exact jx (((v303++([x308]:(List Nat))),(v304+1)),a318) hm ⟨ha319,(O.sel [5,1,7,2,3,4,6] (by decide))⟩
               ·refine gX ?_
                exact jx (v303,a302) hm ⟨ha305,(O.sel [2,3,4,5,0,1,6] (by decide))⟩
              ·clear hm;rintro⟨v298,a297⟩ base h hm ⟨ha299,O⟩
               refine gX ?_
               refine CallD.CP (fun _ hb=>fq hm hb) (fun _=>mv rfl) sD O.has (fun h2 F=>(LLe.cons (VLe.refl _ _) (LLe.cons (O.iz F (Nat.zero_le _) (.head _) ha299 (fun _=>rfl)) (LLe.nil _)))) (by kernel_rfl) (fun r320 hm'=>?_);replace hm:=hm';refine gX ?_
               refine ix 1 hm fun x321 hx321 hm=>?_;refine gH ?_
               refine O.stE 1 (.tail _ (.tail _ (.tail _ (.tail _ (.head _))))) hx321 r320 fun h O=>?_;refine gH ?_
               exact jx (v285.set x288 r320) hm (O.sel [4,5,6,1,2,3] (by decide))
             ·refine gX ?_
              exact jx v285 hm O
           ·clear hm;rintro v289 base h hm O
            refine gX ?_
            refine dF ?_
            refine gX ?_
            refine dF ?_
            refine gX ?_
            refine dF ?_
            refine gX ?_
            refine ix 1 hm fun x322 hx322 hm=>?_;refine gH ?_
            refine⟨_,ae rfl (O.at (.head _)) rfl (bC (enc:=n8) (s:=1) (k:=0) (fun _=>rfl) hx322 rfl),?_⟩;refine gH ?_
            refine fg Tryz.func102 ?_;refine gX ?_
            (first|refine⟨.inr (.inr (ae rfl (O.at (.head _)) rfl rfl)),?_⟩|refine⟨.inr (.inr (ae rfl (O.at (.tail _ (.head _))) rfl rfl)),?_⟩|refine⟨.inr (.inr (ae rfl (O.at (.tail _ (.tail _ (.head _)))) rfl rfl)),?_⟩|refine⟨.inr (.inr (ae rfl (O.at (.tail _ (.tail _ (.tail _ (.head _))))) rfl rfl)),?_⟩|refine⟨.inr (.inr (ae rfl (O.at (.tail _ (.tail _ (.tail _ (.tail _ (.head _)))))) rfl rfl)),?_⟩|refine⟨.inr (.inr (ae rfl (O.at (.tail _ (.tail _ (.tail _ (.tail _ (.tail _ (.head _))))))) rfl rfl)),?_⟩|refine⟨.inr (.inr (ae rfl (O.at (.tail _ (.tail _ (.tail _ (.tail _ (.tail _ (.tail _ (.head _)))))))) rfl rfl)),?_⟩|refine⟨.inl (Ext.refl _),?_⟩|refine⟨.inr (.inr rfl),?_⟩|refine⟨.inr (by kernel_rfl),?_⟩|refine⟨.inl (by kernel_rfl),?_⟩|refine id ?_);refine gH ?_
            refine ix 1 hm fun x323 hx323 hm=>?_;refine gH ?_
            refine O.stE 1 (.head _) hx323 x322 fun h O=>?_;refine gH ?_
            (first|refine⟨.inr (.inr (ae rfl (O.at (.head _)) rfl rfl)),?_⟩|refine⟨.inr (.inr (ae rfl (O.at (.tail _ (.head _))) rfl rfl)),?_⟩|refine⟨.inr (.inr (ae rfl (O.at (.tail _ (.tail _ (.head _)))) rfl rfl)),?_⟩|refine⟨.inr (.inr (ae rfl (O.at (.tail _ (.tail _ (.tail _ (.head _))))) rfl rfl)),?_⟩|refine⟨.inr (.inr (ae rfl (O.at (.tail _ (.tail _ (.tail _ (.tail _ (.head _)))))) rfl rfl)),?_⟩|refine⟨.inr (.inr (ae rfl (O.at (.tail _ (.tail _ (.tail _ (.tail _ (.tail _ (.head _))))))) rfl rfl)),?_⟩|refine⟨.inr (.inr (ae rfl (O.at (.tail _ (.tail _ (.tail _ (.tail _ (.tail _ (.tail _ (.head _)))))))) rfl rfl)),?_⟩|refine⟨.inl (Ext.refl _),?_⟩|refine⟨.inr (.inr rfl),?_⟩|refine⟨.inr (by kernel_rfl),?_⟩|refine⟨.inl (by kernel_rfl),?_⟩|refine id ?_);refine gH ?_
            refine gX ?_
            refine aL hm fun hm=>?_;refine gH ?_
            exact jx ((v289.set x288 x322),(v286+1)) hm O
          ·refine gX ?_
           exact jx v285 hm O
         ·clear hm;rintro v283 base h hm O
          refine gX ?_
          have O:=O.aM (.cells (flatC ((([]:List Nat)).map n8)) false)
          have O:=O.aM (.cells (flatC ((([]:List Nat)).map n8)) false)
          (first|refine O.new (ak (l:=[nS,nS]) rfl rfl rfl) fun g324 h O=>?_|refine O.dy (ak (l:=[nS,nS]) rfl rfl rfl) fun g324 h O=>?_);refine gH ?_
          refine jn (σ:=(List Nat)×Option Nat) hm 189 [0,4,5,16] (fun s=>s.1) (fun (v329,a328) h=>(a328=none->v329=[])/\Own vars h0 [(sC g262 (flatC (v283.map n8))),(sC g136 [(clo 70 [(FP (aw p1))])]),(sC g260 [nS,nS]),(sC g324 [(ag 1 a328 (v329.map n8)),(ag 1 none (([]:List Nat).map n8))]),(a328,.cells (flatC (v329.map n8)) false),(none,.cells (flatC (([]:List Nat).map n8)) false),(sC g1 [((ah 1 n8) r6.1.out),((ah 1 n8) r6.1.next)]),(sC g3 [nS,nS]),(sR g138 (cy p0 (.slice (some ⟨g262,0,none⟩) p0.nodes.length p0.nodes.length) (clo 102 []) (clo 104 [(FP (av p1.line)),(pG g136)])))] h) (fun (v329,a328)=>[]) (fun hm=>?_) ?_
          ·refine gX ?_
           refine lw 189 [0,4,5,16,143,144] (σ:=((List Nat)×Nat)×Option Nat) (fun s=>s.1) (fun ((v333,v334),a332) h=>(a332=none->v333=[])/\Own vars h0 [(sC g262 (flatC (v283.map n8))),(sC g136 [(clo 70 [(FP (aw p1))])]),(sC g260 [nS,nS]),(sC g324 [(ag 1 a332 (v333.map n8)),(ag 1 none (([]:List Nat).map n8))]),(a332,.cells (flatC (v333.map n8)) false),(none,.cells (flatC (([]:List Nat).map n8)) false),(sC g1 [((ah 1 n8) r6.1.out),((ah 1 n8) r6.1.next)]),(sC g3 [nS,nS]),(sR g138 (cy p0 (.slice (some ⟨g262,0,none⟩) p0.nodes.length p0.nodes.length) (clo 102 []) (clo 104 [(FP (av p1.line)),(pG g136)])))] h) (fun ((v333,v334),a332)=>[(145,(i64 v334))]) ((([]:List Nat),0),none) hm ⟨(fun _=>rfl),(O.sel [3,4,5,0,2,1,6,7,8] (by decide))⟩ ?_
           clear hm;rintro⟨⟨v333,v334⟩,a332⟩ nx336 base h hm ⟨ha335,O⟩
           refine gX ?_
           refine br hm (fun hm=>?_) fun hm=>?_
           ·refine gX ?_
            refine atF hm fun x337 hx337 hm=>?_;refine gX ?_
            refine ldO (O.at (.tail _ (.tail _ (.tail _ (.head _))))) ?_;refine gH ?_
            first|refine⟨.inr (.inr (ae rfl (O.at (.tail _ (.tail _ (.tail _ (.head _))))) rfl rfl)),?_⟩|refine⟨.inr (.inl (by kernel_rfl)),?_⟩
            refine gX ?_
            refine dF ?_
            refine gX ?_
            refine ix 1 hm fun x338 hx338 hm=>?_;refine gH ?_
            refine⟨_,ae rfl (O.at (.head _)) rfl (bC (enc:=n8) (s:=1) (k:=0) (fun _=>rfl) hx338 rfl),?_⟩;refine gH ?_
            refine O.bV (l:=([x338]:(List Nat))) (enc:=n8) (s:=1) (z:=(n8 0)) rfl rfl (by kernel_rfl) (by kernel_rfl) rfl rfl rfl rfl (fun _=>rfl) fun g339 h O=>?_;refine gH ?_
            refine O.cu (enc:=n8) (l:=v333) (new:=([x338]:(List Nat))) (s:=1) (b:=1) (.tail _ (.tail _ (.tail _ (.tail _ (.tail _ (.head _)))))) ha335 rfl rfl rfl rfl rfl rfl rfl rfl (YOk.own (O.at (.head _)) rfl (fun _=>rfl) rfl) (fun _=>rfl) (fun _=>rfl) (by decide) hm.1 fun a341 h ha342 O=>?_;refine gH ?_
            (first|refine⟨.inr (.inr (ae rfl (O.at (.head _)) rfl rfl)),?_⟩|refine⟨.inr (.inr (ae rfl (O.at (.tail _ (.head _))) rfl rfl)),?_⟩|refine⟨.inr (.inr (ae rfl (O.at (.tail _ (.tail _ (.head _)))) rfl rfl)),?_⟩|refine⟨.inr (.inr (ae rfl (O.at (.tail _ (.tail _ (.tail _ (.head _))))) rfl rfl)),?_⟩|refine⟨.inr (.inr (ae rfl (O.at (.tail _ (.tail _ (.tail _ (.tail _ (.head _)))))) rfl rfl)),?_⟩|refine⟨.inr (.inr (ae rfl (O.at (.tail _ (.tail _ (.tail _ (.tail _ (.tail _ (.head _))))))) rfl rfl)),?_⟩|refine⟨.inr (.inr (ae rfl (O.at (.tail _ (.tail _ (.tail _ (.tail _ (.tail _ (.tail _ (.head _)))))))) rfl rfl)),?_⟩|refine⟨.inl (Ext.refl _),?_⟩|refine⟨.inr (.inr rfl),?_⟩|refine⟨.inr (by kernel_rfl),?_⟩|refine⟨.inl (by kernel_rfl),?_⟩|refine id ?_);refine gH ?_
            replace hm:=hm.2
            refine O.stC 1 (.tail _ (.tail _ (.tail _ (.tail _ (.head _))))) [(ag 1 a341 ((v333++([x338]:(List Nat))).map n8)),(ag 1 none (([]:List Nat).map n8))] fun h O=>?_;refine gH ?_
            (first|refine⟨.inr (.inr (ae rfl (O.at (.head _)) rfl rfl)),?_⟩|refine⟨.inr (.inr (ae rfl (O.at (.tail _ (.head _))) rfl rfl)),?_⟩|refine⟨.inr (.inr (ae rfl (O.at (.tail _ (.tail _ (.head _)))) rfl rfl)),?_⟩|refine⟨.inr (.inr (ae rfl (O.at (.tail _ (.tail _ (.tail _ (.head _))))) rfl rfl)),?_⟩|refine⟨.inr (.inr (ae rfl (O.at (.tail _ (.tail _ (.tail _ (.tail _ (.head _)))))) rfl rfl)),?_⟩|refine⟨.inr (.inr (ae rfl (O.at (.tail _ (.tail _ (.tail _ (.tail _ (.tail _ (.head _))))))) rfl rfl)),?_⟩|refine⟨.inr (.inr (ae rfl (O.at (.tail _ (.tail _ (.tail _ (.tail _ (.tail _ (.tail _ (.head _)))))))) rfl rfl)),?_⟩|refine⟨.inl (Ext.refl _),?_⟩|refine⟨.inr (.inr rfl),?_⟩|refine⟨.inr (by kernel_rfl),?_⟩|refine⟨.inl (by kernel_rfl),?_⟩|refine id ?_);refine gH ?_
            refine gX ?_
            refine aL hm fun hm=>?_;refine gH ?_
            exact jx (((v333++([x338]:(List Nat))),(v334+1)),a341) hm ⟨ha342,(O.sel [1,2,3,4,5,6,7,8,9] (by decide))⟩
           ·refine gX ?_
            exact jx (v333,a332) hm ⟨ha335,O⟩
          ·clear hm;rintro⟨v329,a328⟩ base h hm ⟨ha330,O⟩
           conv=>whnf
           refine jn (σ:=(List Nat)×Option Nat) hm 189 [4,16] (fun s=>s.1) (fun (v344,a343) h=>(a328=none->v329=[])/\(a343=none->v344=[])/\Own vars h0 [(sC g260 [nS,nS]),(sC g324 [(ag 1 a328 (v329.map n8)),(ag 1 a343 (v344.map n8))]),(a328,.cells (flatC (v329.map n8)) false),(a343,.cells (flatC (v344.map n8)) false),(sC g1 [((ah 1 n8) r6.1.out),((ah 1 n8) r6.1.next)]),(sC g3 [nS,nS]),(sR g138 (cy p0 (.slice (some ⟨g262,0,none⟩) p0.nodes.length p0.nodes.length) (clo 102 []) (clo 104 [(FP (av p1.line)),(pG g136)]))),(sC g262 (flatC (v283.map n8))),(sC g136 [(clo 70 [(FP (aw p1))])])] h) (fun (v344,a343)=>[]) (fun hm=>?_) ?_
           ·refine gX ?_
            refine lw 189 [0,4,16,162,163] (σ:=((List Nat)×Nat)×Option Nat) (fun s=>s.1) (fun ((v349,v350),a348) h=>(a328=none->v329=[])/\(a348=none->v349=[])/\Own vars h0 [(sC g262 (flatC (v283.map n8))),(sC g136 [(clo 70 [(FP (aw p1))])]),(sC g260 [nS,nS]),(sC g324 [(ag 1 a328 (v329.map n8)),(ag 1 a348 (v349.map n8))]),(a328,.cells (flatC (v329.map n8)) false),(a348,.cells (flatC (v349.map n8)) false),(sC g1 [((ah 1 n8) r6.1.out),((ah 1 n8) r6.1.next)]),(sC g3 [nS,nS]),(sR g138 (cy p0 (.slice (some ⟨g262,0,none⟩) p0.nodes.length p0.nodes.length) (clo 102 []) (clo 104 [(FP (av p1.line)),(pG g136)])))] h) (fun ((v349,v350),a348)=>[(164,(i64 v350))]) ((([]:List Nat),0),none) hm ⟨ha330,(fun _=>rfl),O⟩ ?_
            clear hm;rintro⟨⟨v349,v350⟩,a348⟩ nx353 base h hm ⟨ha351,ha352,O⟩
            refine gX ?_
            refine br hm (fun hm=>?_) fun hm=>?_
            ·refine gX ?_
             refine atF hm fun x354 hx354 hm=>?_;refine gX ?_
             refine fg Tryz.func74 ?_;conv=>whnf
             apply Cs;conv=>whnf
             apply Cs;refine gH ?_
             have O:=O.aM (.cells (flatC ((([]:List Nat)).map n8)) false)
             apply Cs;conv=>whnf
             apply Cs;refine gH ?_
             have O:=O.aM (.cells (flatC ((([]:List Nat)).map n8)) false)
             refine jn (σ:=(List Nat)×Option Nat) hm 42 [] (fun s=>s.1) (fun (v358,a357) h=>(a357=none->v358=[])/\(a328=none->v329=[])/\(a348=none->v349=[])/\Own vars h0 [(a357,.cells (flatC (v358.map n8)) false),(sC g1 [((ah 1 n8) r6.1.out),((ah 1 n8) r6.1.next)]),(sC g3 [nS,nS]),(sR g138 (cy p0 (.slice (some ⟨g262,0,none⟩) p0.nodes.length p0.nodes.length) (clo 102 []) (clo 104 [(FP (av p1.line)),(pG g136)]))),(sC g262 (flatC (v283.map n8))),(sC g136 [(clo 70 [(FP (aw p1))])]),(sC g260 [nS,nS]),(sC g324 [(ag 1 a328 (v329.map n8)),(ag 1 a348 (v349.map n8))]),(a328,.cells (flatC (v329.map n8)) false),(a348,.cells (flatC (v349.map n8)) false)] h) (fun (v358,a357)=>[(5,(ag 1 a357 (v358.map n8)))]) (fun hm=>?_) ?_
             ·refine gX ?_
              refine atF hm fun x363 hx363 hm=>?_;refine gX ?_
              refine lw 42 [0,1,16,17] (σ:=((List Nat)×Nat)×Option Nat) (fun s=>s.1) (fun ((v365,v366),a364) h=>(a364=none->v365=[])/\(a328=none->v329=[])/\(a348=none->v349=[])/\Own vars h0 [(sC g262 (flatC (v283.map n8))),(sC g136 [(clo 70 [(FP (aw p1))])]),(a364,.cells (flatC (v365.map n8)) false),(sC g1 [((ah 1 n8) r6.1.out),((ah 1 n8) r6.1.next)]),(sC g3 [nS,nS]),(sR g138 (cy p0 (.slice (some ⟨g262,0,none⟩) p0.nodes.length p0.nodes.length) (clo 102 []) (clo 104 [(FP (av p1.line)),(pG g136)]))),(sC g260 [nS,nS]),(sC g324 [(ag 1 a328 (v329.map n8)),(ag 1 a348 (v349.map n8))]),(a328,.cells (flatC (v329.map n8)) false),(a348,.cells (flatC (v349.map n8)) false)] h) (fun ((v365,v366),a364)=>[(5,(ag 1 a364 (v365.map n8))),(18,(i64 v366))]) ((([]:List Nat),0),none) hm ⟨(fun _=>rfl),ha351,ha352,(O.sel [2,3,0,8,9,10,4,5,6,7] (by decide))⟩ ?_
              clear hm;rintro⟨⟨v365,v366⟩,a364⟩ nx370 base h hm ⟨ha367,ha368,ha369,O⟩
              refine gX ?_
              refine br hm (fun hm=>?_) fun hm=>?_
              ·refine gX ?_
               refine atF hm fun x371 hx371 hm=>?_;refine gX ?_
               refine dF ?_
               refine gX ?_
               refine dF ?_
               refine gX ?_
               refine ix 1 hm fun x372 hx372 hm=>?_;refine gH ?_
               refine⟨_,ae rfl (O.at (.head _)) rfl (bC (enc:=n8) (s:=1) (k:=0) (fun _=>rfl) hx372 rfl),?_⟩;refine gH ?_
               refine fg Tryz.func104 ?_;conv=>whnf
               apply Cs;conv=>whnf
               apply Cs;refine gH ?_
               apply Cs;conv=>whnf
               refine jn hm 23 [2,4] (fun s=>s) (fun v373 h=>(a328=none->v329=[])/\(a348=none->v349=[])/\(a364=none->v365=[])/\Own vars h0 [(sC g136 [(clo 70 [(FP (aw p1))])]),(sC g1 [((ah 1 n8) r6.1.out),((ah 1 n8) r6.1.next)]),(sC g3 [nS,nS]),(sR g138 (cy p0 (.slice (some ⟨g262,0,none⟩) p0.nodes.length p0.nodes.length) (clo 102 []) (clo 104 [(FP (av p1.line)),(pG g136)]))),(sC g262 (flatC (v283.map n8))),(sC g260 [nS,nS]),(sC g324 [(ag 1 a328 (v329.map n8)),(ag 1 a348 (v349.map n8))]),(a328,.cells (flatC (v329.map n8)) false),(a348,.cells (flatC (v349.map n8)) false),(a364,.cells (flatC (v365.map n8)) false)] h) (fun v373=>[(18,(.bool v373))]) (fun hm=>?_) ?_
               ·refine gX ?_
                refine br hm (fun hm=>?_) fun hm=>?_
                ·refine gX ?_
                 exact jx (eqZ (Int.ofNat v366) p1.line.pin) hm ⟨ha368,ha369,ha367,(O.sel [1,3,4,5,0,6,7,8,9,2] (by decide))⟩
                ·refine gX ?_
                 exact jx false hm ⟨ha368,ha369,ha367,(O.sel [1,3,4,5,0,6,7,8,9,2] (by decide))⟩
               ·clear hm;rintro v373 base h hm ⟨ha374,ha375,ha376,O⟩
                refine gX ?_
                refine br hm (fun hm=>?_) fun hm=>?_
                ·refine gX ?_
                 refine fg Tryz.func70 ?_;refine gX ?_
                 (first|refine⟨.inr (.inr (ae rfl (O.at (.head _)) rfl rfl)),?_⟩|refine⟨.inr (.inr (ae rfl (O.at (.tail _ (.head _))) rfl rfl)),?_⟩|refine⟨.inr (.inr (ae rfl (O.at (.tail _ (.tail _ (.head _)))) rfl rfl)),?_⟩|refine⟨.inr (.inr (ae rfl (O.at (.tail _ (.tail _ (.tail _ (.head _))))) rfl rfl)),?_⟩|refine⟨.inr (.inr (ae rfl (O.at (.tail _ (.tail _ (.tail _ (.tail _ (.head _)))))) rfl rfl)),?_⟩|refine⟨.inr (.inr (ae rfl (O.at (.tail _ (.tail _ (.tail _ (.tail _ (.tail _ (.head _))))))) rfl rfl)),?_⟩|refine⟨.inr (.inr (ae rfl (O.at (.tail _ (.tail _ (.tail _ (.tail _ (.tail _ (.tail _ (.head _)))))))) rfl rfl)),?_⟩|refine⟨.inl (Ext.refl _),?_⟩|refine⟨.inr (.inr rfl),?_⟩|refine⟨.inr (by kernel_rfl),?_⟩|refine⟨.inl (by kernel_rfl),?_⟩|refine id ?_);refine gH ?_
                 refine O.bV (l:=([p1.value]:(List Nat))) (enc:=n8) (s:=1) (z:=(n8 0)) rfl rfl (by kernel_rfl) (by kernel_rfl) rfl rfl rfl rfl (fun _=>rfl) fun g378 h O=>?_;refine gH ?_
                 refine O.cu (enc:=n8) (l:=v365) (new:=([p1.value]:(List Nat))) (s:=1) (b:=1) (.tail _ (.tail _ (.tail _ (.tail _ (.tail _ (.tail _ (.tail _ (.tail _ (.tail _ (.tail _ (.head _))))))))))) ha376 rfl rfl rfl rfl rfl rfl rfl rfl (YOk.own (O.at (.head _)) rfl (fun _=>rfl) rfl) (fun _=>rfl) (fun _=>rfl) (by decide) hm.1 fun a380 h ha381 O=>?_;refine gH ?_
                 (first|refine⟨.inr (.inr (ae rfl (O.at (.head _)) rfl rfl)),?_⟩|refine⟨.inr (.inr (ae rfl (O.at (.tail _ (.head _))) rfl rfl)),?_⟩|refine⟨.inr (.inr (ae rfl (O.at (.tail _ (.tail _ (.head _)))) rfl rfl)),?_⟩|refine⟨.inr (.inr (ae rfl (O.at (.tail _ (.tail _ (.tail _ (.head _))))) rfl rfl)),?_⟩|refine⟨.inr (.inr (ae rfl (O.at (.tail _ (.tail _ (.tail _ (.tail _ (.head _)))))) rfl rfl)),?_⟩|refine⟨.inr (.inr (ae rfl (O.at (.tail _ (.tail _ (.tail _ (.tail _ (.tail _ (.head _))))))) rfl rfl)),?_⟩|refine⟨.inr (.inr (ae rfl (O.at (.tail _ (.tail _ (.tail _ (.tail _ (.tail _ (.tail _ (.head _)))))))) rfl rfl)),?_⟩|refine⟨.inl (Ext.refl _),?_⟩|refine⟨.inr (.inr rfl),?_⟩|refine⟨.inr (by kernel_rfl),?_⟩|refine⟨.inl (by kernel_rfl),?_⟩|refine id ?_);refine gH ?_
                 replace hm:=hm.2
                 refine gX ?_
                 refine aL hm fun hm=>?_;refine gH ?_
                 exact jx (((v365++([p1.value]:(List Nat))),(v366+1)),a380) hm ⟨ha381,ha374,ha375,(O.sel [5,1,10,2,3,4,6,7,8,9] (by decide))⟩
                ·refine gX ?_
                 (first|refine⟨.inr (.inr (ae rfl (O.at (.head _)) rfl rfl)),?_⟩|refine⟨.inr (.inr (ae rfl (O.at (.tail _ (.head _))) rfl rfl)),?_⟩|refine⟨.inr (.inr (ae rfl (O.at (.tail _ (.tail _ (.head _)))) rfl rfl)),?_⟩|refine⟨.inr (.inr (ae rfl (O.at (.tail _ (.tail _ (.tail _ (.head _))))) rfl rfl)),?_⟩|refine⟨.inr (.inr (ae rfl (O.at (.tail _ (.tail _ (.tail _ (.tail _ (.head _)))))) rfl rfl)),?_⟩|refine⟨.inr (.inr (ae rfl (O.at (.tail _ (.tail _ (.tail _ (.tail _ (.tail _ (.head _))))))) rfl rfl)),?_⟩|refine⟨.inr (.inr (ae rfl (O.at (.tail _ (.tail _ (.tail _ (.tail _ (.tail _ (.tail _ (.head _)))))))) rfl rfl)),?_⟩|refine⟨.inl (Ext.refl _),?_⟩|refine⟨.inr (.inr rfl),?_⟩|refine⟨.inr (by kernel_rfl),?_⟩|refine⟨.inl (by kernel_rfl),?_⟩|refine id ?_);refine gH ?_
                 refine O.bV (l:=([x372]:(List Nat))) (enc:=n8) (s:=1) (z:=(n8 0)) rfl rfl (by kernel_rfl) (by kernel_rfl) rfl rfl rfl rfl (fun _=>rfl) fun g382 h O=>?_;refine gH ?_
                 refine O.cu (enc:=n8) (l:=v365) (new:=([x372]:(List Nat))) (s:=1) (b:=1) (.tail _ (.tail _ (.tail _ (.tail _ (.tail _ (.tail _ (.tail _ (.tail _ (.tail _ (.tail _ (.head _))))))))))) ha376 rfl rfl rfl rfl rfl rfl rfl rfl (YOk.own (O.at (.head _)) rfl (fun _=>rfl) rfl) (fun _=>rfl) (fun _=>rfl) (by decide) hm.1 fun a384 h ha385 O=>?_;refine gH ?_
                 (first|refine⟨.inr (.inr (ae rfl (O.at (.head _)) rfl rfl)),?_⟩|refine⟨.inr (.inr (ae rfl (O.at (.tail _ (.head _))) rfl rfl)),?_⟩|refine⟨.inr (.inr (ae rfl (O.at (.tail _ (.tail _ (.head _)))) rfl rfl)),?_⟩|refine⟨.inr (.inr (ae rfl (O.at (.tail _ (.tail _ (.tail _ (.head _))))) rfl rfl)),?_⟩|refine⟨.inr (.inr (ae rfl (O.at (.tail _ (.tail _ (.tail _ (.tail _ (.head _)))))) rfl rfl)),?_⟩|refine⟨.inr (.inr (ae rfl (O.at (.tail _ (.tail _ (.tail _ (.tail _ (.tail _ (.head _))))))) rfl rfl)),?_⟩|refine⟨.inr (.inr (ae rfl (O.at (.tail _ (.tail _ (.tail _ (.tail _ (.tail _ (.tail _ (.head _)))))))) rfl rfl)),?_⟩|refine⟨.inl (Ext.refl _),?_⟩|refine⟨.inr (.inr rfl),?_⟩|refine⟨.inr (by kernel_rfl),?_⟩|refine⟨.inl (by kernel_rfl),?_⟩|refine id ?_);refine gH ?_
                 replace hm:=hm.2
                 refine gX ?_
                 refine aL hm fun hm=>?_;refine gH ?_
                 exact jx (((v365++([x372]:(List Nat))),(v366+1)),a384) hm ⟨ha385,ha374,ha375,(O.sel [5,1,10,2,3,4,6,7,8,9] (by decide))⟩
              ·refine gX ?_
               exact jx (v365,a364) hm ⟨ha367,ha368,ha369,(O.sel [2,3,4,5,0,1,6,7,8,9] (by decide))⟩
             ·clear hm;rintro⟨v358,a357⟩ base h hm ⟨ha359,ha360,ha361,O⟩
              refine gX ?_
              obtain⟨x386,hx386,hm⟩:=hm
              have h9:=hm
              obtain⟨g387,rfl⟩:=dL ha359 hx386
              replace hm:=h9
              refine cF (s:=1) (j:=0) rfl rfl rfl rfl (by rw[List.length_map];exact aj hx386) ?_;refine gH ?_
              refine ldE (s:=1) (i:=0) (O.at (.head _)) hx386 ?_;refine gH ?_
              refine jn hm 189 [0,4,16,162,163,164] (fun s=>s) (fun v388 h=>(a328=none->v329=[])/\(a348=none->v349=[])/\Own vars h0 [(sC g262 (flatC (v283.map n8))),(sC g136 [(clo 70 [(FP (aw p1))])]),(sC g260 [nS,nS]),(sC g324 [(ag 1 a328 (v329.map n8)),(ag 1 a348 (v349.map n8))]),(a328,.cells (flatC (v329.map n8)) false),(a348,.cells (flatC (v349.map n8)) false),(sC g1 [((ah 1 n8) r6.1.out),((ah 1 n8) r6.1.next)]),(sC g3 [nS,nS]),(sR g138 (cy p0 (.slice (some ⟨g262,0,none⟩) p0.nodes.length p0.nodes.length) (clo 102 []) (clo 104 [(FP (av p1.line)),(pG g136)])))] h) (fun v388=>[(21,(n8 v388))]) (fun hm=>?_) ?_
              ·refine gX ?_
               refine br hm (fun hm=>?_) fun hm=>?_
               ·refine gX ?_
                exact jx 2 hm ⟨ha360,ha361,(O.sel [4,5,6,7,8,9,1,2,3] (by decide))⟩
               ·refine gX ?_
                exact jx x386 hm ⟨ha360,ha361,(O.sel [4,5,6,7,8,9,1,2,3] (by decide))⟩
              ·clear hm;rintro v388 base h hm ⟨ha389,ha390,O⟩
               refine gX ?_
               refine ldO (O.at (.tail _ (.tail _ (.tail _ (.head _))))) ?_;refine gH ?_
               refine fz ?_;refine gH ?_
               refine O.apL (enc:=n8) (l:=v349) (new:=([v388]:(List Nat))) 1 (.tail _ (.tail _ (.tail _ (.tail _ (.tail _ (.head _)))))) ha390 hm fun a392 h ha393 O hm=>?_;refine gH ?_
               refine O.stC 1 (.tail _ (.tail _ (.tail _ (.head _)))) [(ag 1 a328 (v329.map n8)),(ag 1 a392 ((v349++([v388]:(List Nat))).map n8))] fun h O=>?_;refine gX ?_
               refine aL hm fun hm=>?_;refine gH ?_
               exact jx (((v349++([v388]:(List Nat))),(v350+1)),a392) hm ⟨ha389,ha393,O⟩
            ·refine gX ?_
             exact jx (v349,a348) hm ⟨ha351,ha352,(O.sel [2,3,4,5,6,7,8,0,1] (by decide))⟩
           ·clear hm;rintro⟨v344,a343⟩ base h hm ⟨ha345,ha346,O⟩
            refine gX ?_
            first|refine⟨.inr (.inr (ae rfl (O.at (.tail _ (.head _))) rfl rfl)),?_⟩|refine⟨.inr (.inl (by kernel_rfl)),?_⟩
            refine gX ?_
            refine fg Tryz.func75 ?_;refine gX ?_
            refine iq (s:=1) (enc:=n8) (l:=v329) (n:=v329.length) (m:=v329.length) rfl rfl rfl rfl rfl rfl rfl ?_;refine gX ?_
            (first|refine⟨.inr (.inr (ae rfl (O.at (.head _)) rfl rfl)),?_⟩|refine⟨.inr (.inr (ae rfl (O.at (.tail _ (.head _))) rfl rfl)),?_⟩|refine⟨.inr (.inr (ae rfl (O.at (.tail _ (.tail _ (.head _)))) rfl rfl)),?_⟩|refine⟨.inr (.inr (ae rfl (O.at (.tail _ (.tail _ (.tail _ (.head _))))) rfl rfl)),?_⟩|refine⟨.inr (.inr (ae rfl (O.at (.tail _ (.tail _ (.tail _ (.tail _ (.head _)))))) rfl rfl)),?_⟩|refine⟨.inr (.inr (ae rfl (O.at (.tail _ (.tail _ (.tail _ (.tail _ (.tail _ (.head _))))))) rfl rfl)),?_⟩|refine⟨.inr (.inr (ae rfl (O.at (.tail _ (.tail _ (.tail _ (.tail _ (.tail _ (.tail _ (.head _)))))))) rfl rfl)),?_⟩|refine⟨.inl (Ext.refl _),?_⟩|refine⟨.inr (.inr rfl),?_⟩|refine⟨.inr (by kernel_rfl),?_⟩|refine⟨.inl (by kernel_rfl),?_⟩|refine id ?_);refine gH ?_
            first|refine⟨.inr (.inr (ae rfl (O.at (.tail _ (.head _))) rfl rfl)),?_⟩|refine⟨.inr (.inl (by kernel_rfl)),?_⟩
            refine gX ?_
            refine fg Tryz.func75 ?_;refine gX ?_
            refine iq (s:=1) (enc:=n8) (l:=v344) (n:=v344.length) (m:=v344.length) rfl rfl rfl rfl rfl rfl rfl ?_;refine gX ?_
            (first|refine⟨.inr (.inr (ae rfl (O.at (.head _)) rfl rfl)),?_⟩|refine⟨.inr (.inr (ae rfl (O.at (.tail _ (.head _))) rfl rfl)),?_⟩|refine⟨.inr (.inr (ae rfl (O.at (.tail _ (.tail _ (.head _)))) rfl rfl)),?_⟩|refine⟨.inr (.inr (ae rfl (O.at (.tail _ (.tail _ (.tail _ (.head _))))) rfl rfl)),?_⟩|refine⟨.inr (.inr (ae rfl (O.at (.tail _ (.tail _ (.tail _ (.tail _ (.head _)))))) rfl rfl)),?_⟩|refine⟨.inr (.inr (ae rfl (O.at (.tail _ (.tail _ (.tail _ (.tail _ (.tail _ (.head _))))))) rfl rfl)),?_⟩|refine⟨.inr (.inr (ae rfl (O.at (.tail _ (.tail _ (.tail _ (.tail _ (.tail _ (.tail _ (.head _)))))))) rfl rfl)),?_⟩|refine⟨.inl (Ext.refl _),?_⟩|refine⟨.inr (.inr rfl),?_⟩|refine⟨.inr (by kernel_rfl),?_⟩|refine⟨.inl (by kernel_rfl),?_⟩|refine id ?_);refine gH ?_
            refine O.stC 2 (.head _) [(dJ a328 (v329.map n8)),(dJ a343 (v344.map n8))] fun h O=>?_;refine gH ?_
            (first|refine⟨.inr (.inr (ae rfl (O.at (.head _)) rfl rfl)),?_⟩|refine⟨.inr (.inr (ae rfl (O.at (.tail _ (.head _))) rfl rfl)),?_⟩|refine⟨.inr (.inr (ae rfl (O.at (.tail _ (.tail _ (.head _)))) rfl rfl)),?_⟩|refine⟨.inr (.inr (ae rfl (O.at (.tail _ (.tail _ (.tail _ (.head _))))) rfl rfl)),?_⟩|refine⟨.inr (.inr (ae rfl (O.at (.tail _ (.tail _ (.tail _ (.tail _ (.head _)))))) rfl rfl)),?_⟩|refine⟨.inr (.inr (ae rfl (O.at (.tail _ (.tail _ (.tail _ (.tail _ (.tail _ (.head _))))))) rfl rfl)),?_⟩|refine⟨.inr (.inr (ae rfl (O.at (.tail _ (.tail _ (.tail _ (.tail _ (.tail _ (.tail _ (.head _)))))))) rfl rfl)),?_⟩|refine⟨.inl (Ext.refl _),?_⟩|refine⟨.inr (.inr rfl),?_⟩|refine⟨.inr (by kernel_rfl),?_⟩|refine⟨.inl (by kernel_rfl),?_⟩|refine id ?_);refine gH ?_
            refine gX ?_
            refine⟨_,aH rfl rfl (O.at (.head _)) rfl rfl (lbE rfl) rfl,?_⟩;refine gX ?_
            refine O.stC 2 (.tail _ (.tail _ (.tail _ (.tail _ (.tail _ (.head _)))))) [(dJ a328 (v329.map n8)),(dJ a343 (v344.map n8))] fun h O=>?_;refine gX ?_
            refine ldA (O.at (.tail _ (.tail _ (.tail _ (.tail _ (.head _)))))) ?_;refine gH ?_
            first|refine⟨.inr (.inr (bh rfl (O.at (.tail _ (.tail _ (.tail _ (.tail _ (.head _)))))) rfl rfl (lbE rfl) rfl)),?_⟩|refine⟨.inr (.inl (by kernel_rfl)),?_⟩
            refine gX ?_
            refine ldA (O.at (.tail _ (.tail _ (.tail _ (.tail _ (.tail _ (.head _))))))) ?_;refine gH ?_
            first|refine⟨.inr (.inr (bh rfl (O.at (.tail _ (.tail _ (.tail _ (.tail _ (.tail _ (.head _))))))) rfl rfl (lbE rfl) rfl)),?_⟩|refine⟨.inr (.inl (by kernel_rfl)),?_⟩
            refine gX ?_
            refine ldO (O.at (.tail _ (.tail _ (.tail _ (.tail _ (.tail _ (.tail _ (.head _)))))))) ?_;refine gH ?_
            first|refine⟨.inr (.inr (ae rfl (O.at (.tail _ (.tail _ (.tail _ (.tail _ (.tail _ (.tail _ (.head _)))))))) rfl rfl)),?_⟩|refine⟨.inr (.inl (by kernel_rfl)),?_⟩
            refine gX ?_
            refine O.jO 2 (.tail _ (.tail _ (.tail _ (.tail _ (.head _))))) fun h hext O=>?_;conv=>whnf
            refine⟨.inr hext,?_⟩;refine gH ?_
            refine O.jO 2 (.tail _ (.tail _ (.tail _ (.tail _ (.tail _ (.head _)))))) fun h hext O=>?_;conv=>whnf
            refine⟨.inr hext,?_⟩;refine gX ?_
            refine⟨_,aH rfl rfl (O.at (.tail _ (.tail _ (.tail _ (.tail _ (.head _)))))) rfl rfl (lbE rfl) rfl,?_⟩;conv=>whnf
            refine⟨_,aH rfl rfl (O.at (.tail _ (.tail _ (.tail _ (.tail _ (.tail _ (.head _))))))) rfl rfl (lbE rfl) rfl,?_⟩;conv=>whnf
            obtain⟨hn394,hm⟩:=hm
            exact⟨(r6.1,(⟨v329,v344⟩:Rsp),v283,0),hm,O.ext,fun h2 F=>VLe.tup (LLe.cons (VLe.refl _ _) (LLe.cons (VLe.agg (LLe.cons (O.kc F (Nat.le_refl _) (.tail _ (.tail _ (.head _))) ha345 (fun _=>rfl)) (LLe.cons (O.kc F (Nat.le_refl _) (.tail _ (.tail _ (.tail _ (.head _)))) ha346 (fun _=>rfl)) (LLe.nil _)))) (LLe.cons (O.jI F (Nat.le_refl _) (.tail _ (.tail _ (.tail _ (.tail _ (.tail _ (.tail _ (.tail _ (.head _)))))))) (fun _=>rfl) hn394) (LLe.cons (VLe.refl _ _) (LLe.nil _)))))⟩
def ct (p0:Circ) (p1:Flt) (p2:Pat) (K:(Bool×Nat)->Prop):Prop :=
 dZ p0 p1 p2 (fun r1=>eG r1.1 r1.2.1 (fun r6=>K (r6,r1.2.2.2)))
theorem mT {p0:Circ}{p1:Flt}{p2:Pat}{K:(Bool×Nat)->Prop} (hm:ct p0 p1 p2 K) {h0:Heap} (hB:HasB vars h0):∃ r,K r/\CallD Tryz.prog NG 10 ⟨[aB p0,aw p1,lY p2]⟩ h0 ((fun (r:(Bool×Nat))=>Value.tuple ⟨[Value.bool (r.1),i64 (r.2)]⟩) r) h0:=by
 unfold ct at hm
 refine fw Tryz.func10 hB (enc:=(fun (r:(Bool×Nat))=>Value.tuple ⟨[Value.bool (r.1),i64 (r.2)]⟩)) (fun r=>PureV.tup (ai.cons (PureV.flat rfl) (ai.cons (PureV.flat rfl) (ai.nil)))) fun O=>?_;conv=>whnf
 refine gX ?_
 refine fz ?_;refine gH ?_
 refine fz ?_;refine gH ?_
 refine fz ?_;refine gX ?_
 refine ca (po hm O.has) fun r1 hm=>?_;refine gH ?_
 (first|refine O.new (ak (l:=[(.slice none 0 0),(.slice none 0 0)]) rfl rfl rfl) fun g2 h O=>?_|refine O.dy (ak (l:=[(.slice none 0 0),(.slice none 0 0)]) rfl rfl rfl) fun g2 h O=>?_);refine gH ?_
 (first|refine O.new (ak (l:=[(.slice none 0 0),(.slice none 0 0)]) rfl rfl rfl) fun g4 h O=>?_|refine O.dy (ak (l:=[(.slice none 0 0),(.slice none 0 0)]) rfl rfl rfl) fun g4 h O=>?_);refine gH ?_
 refine O.stC 2 (.tail _ (.head _)) [((ah 1 n8) r1.1.out),((ah 1 n8) r1.1.next)] fun h O=>?_;refine gH ?_
 refine O.stC 2 (.head _) [((ah 1 n8) r1.2.1.out),((ah 1 n8) r1.2.1.next)] fun h O=>?_;refine gX ?_
 refine ldA (O.at (.tail _ (.head _))) ?_;refine gH ?_
 refine ldA (O.at (.head _)) ?_;refine gH ?_
 refine ca (qj hm O.has) fun r6 hm=>?_;refine gX ?_
 exact⟨(r6,r1.2.2.2),hm,O.ext,fun h2 F=>VLe.tup (LLe.cons (VLe.refl _ _) (LLe.cons (VLe.refl _ _) (LLe.nil _)))⟩
end Go.Proofs.YtobphhjcadjfjaaGreatDoor
