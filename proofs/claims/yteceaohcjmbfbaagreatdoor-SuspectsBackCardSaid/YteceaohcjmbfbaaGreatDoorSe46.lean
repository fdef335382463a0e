/-
  J1: parts of the proof.
-/
import Derived.Test.YteceaohcjmbfbaaGreatDoorSe45
namespace Go.Proofs.YteceaohcjmbfbaaGreatDoor
open Go.Abs
set_option maxRecDepth 100000
set_option maxHeartbeats 8000000
abbrev clo (f:FuncId) (l:List Value):Value:=.func (.func f) ⟨[]⟩ ⟨l⟩
abbrev cy (c:Circ) (s f g:Value):List Value:=[(ag 4 al) c.nodes,(ag 1 Value.string) c.names,(ag 3 ax) c.mems,(ag 1 i64) c.outs,s,f,g]
def bV (p0:(List Nat)) (p1:(List Nat)) (K:(List Nat)->Prop):Prop :=
 an (α:=(List Nat)) (fun k5=>av (S:=((List Nat)×Nat)) (fun (v7,v8) nx10=>((ltN v8 (min p0.length p1.length))=true->an (α:=(List Nat)) (fun k14=>an (α:=Bool) (fun k17=>∃ x18,p0[v8]?=some x18/\((!ltN 1 x18)=true->∃ x19,p1[v8]?=some x19/\((!ltN 1 x19)=true->∃ x20,p0[v8]?=some x20/\∃ x21,p1[v8]?=some x21/\k17 (neN x20 x21))/\((!ltN 1 x19)=false->k17 false))/\((!ltN 1 x18)=false->k17 false)) (fun v15=>(v15=true->(v7.length+([v8]:(List Nat)).length)*8<=2 ^ 47/\k14 (v7++([v8]:(List Nat))))/\(v15=false->k14 v7))) (fun v12=>v8+1<2 ^ 63/\nx10 (v12,(v8+1))))/\((ltN v8 (min p0.length p1.length))=false->k5 v7)) (([]:List Nat),0)) (fun v3=>K v3)
theorem gA {p0:(List Nat)}{p1:(List Nat)}{K:(List Nat)->Prop} (hm:bV p0 p1 K) {h0:Heap} (hB:HasB vars h0):∃ r,K r/\CallD Tryz.prog NG 41 ⟨[(ag 1 n8) p0,(ag 1 n8) p1]⟩ h0 ((ag 1 i64) r) h0:=by
 unfold bV at hm
 refine fw Tryz.func41 hB (enc:=(ag 1 i64)) (fun r=>dg (fun _=>aj.cons (PureV.flat rfl) aj.nil)) fun O=>?_;conv=>whnf
 apply Cs;conv=>whnf
 apply Cs;refine gH ?_
 apply Cs;conv=>whnf
 apply Cs;refine gH ?_
 have O:=O.aG (.cells (flatC ((([]:List Nat)).map i64)) false)
 refine jn (σ:=(List Nat)×Option Nat) hm 45 [] (fun s=>s.1) (fun (v3,a2) h=>(a2=none->v3=[])/\Own vars h0 [(a2,.cells (flatC (v3.map i64)) false)] h) (fun (v3,a2)=>[(5,(ah 1 a2 (v3.map i64)))]) (fun hm=>?_) ?_
 ·refine gX ?_
  refine⟨_,AN (a:=p0.length) (b:=p1.length) rfl rfl,?_⟩;refine gX ?_
  refine lw 45 [0,1,11] (σ:=((List Nat)×Nat)×Option Nat) (fun s=>s.1) (fun ((v7,v8),a6) h=>(a6=none->v7=[])/\Own vars h0 [(a6,.cells (flatC (v7.map i64)) false)] h) (fun ((v7,v8),a6)=>[(5,(ah 1 a6 (v7.map i64))),(12,(i64 v8))]) ((([]:List Nat),0),none) hm ⟨(fun _=>rfl),O⟩ ?_
  clear hm;rintro⟨⟨v7,v8⟩,a6⟩ nx10 base h hm ⟨ha9,O⟩
  refine gX ?_
  refine br hm (fun hm=>?_) fun hm=>?_
  ·apply Cs;conv=>whnf
   refine jn (σ:=(List Nat)×Option Nat) hm 45 [0,1,11,12] (fun s=>s.1) (fun (v12,a11) h=>(a11=none->v12=[])/\Own vars h0 [(a11,.cells (flatC (v12.map i64)) false)] h) (fun (v12,a11)=>[(5,(ah 1 a11 (v12.map i64)))]) (fun hm=>?_) ?_
   ·apply Cs;conv=>whnf
    apply Cs;conv=>whnf
    apply Cs;refine gH ?_
    refine jn hm 45 [0,1,5,6,11,12] (fun s=>s) (fun v15 h=>(a6=none->v7=[])/\Own vars h0 [(a6,.cells (flatC (v7.map i64)) false)] h) (fun v15=>[(37,(.bool v15))]) (fun hm=>?_) ?_
    ·refine gX ?_
     refine atF hm fun x18 hx18 hm=>?_;refine gH ?_
     refine br hm (fun hm=>?_) fun hm=>?_
     ·refine gX ?_
      refine atF hm fun x19 hx19 hm=>?_;refine gH ?_
      refine br hm (fun hm=>?_) fun hm=>?_
      ·refine gX ?_
       refine atF hm fun x20 hx20 hm=>?_;refine gH ?_
       refine atF hm fun x21 hx21 hm=>?_;refine gH ?_
       exact jx (neN x20 x21) hm ⟨ha9,O⟩
      ·refine gX ?_
       exact jx false hm ⟨ha9,O⟩
     ·refine gX ?_
      refine bf ?_;refine gH ?_
      exact jx false hm ⟨ha9,O⟩
    ·clear hm;rintro v15 base h hm ⟨ha16,O⟩
     refine gX ?_
     refine br hm (fun hm=>?_) fun hm=>?_
     ·refine gX ?_
      refine fz ?_;refine gH ?_
      refine O.apL (enc:=i64) (l:=v7) (new:=([v8]:(List Nat))) 1 (.head _) ha16 hm fun a22 h ha23 O hm=>?_;refine gH ?_
      exact jx ((v7++([v8]:(List Nat))),a22) hm ⟨ha23,O⟩
     ·refine gX ?_
      exact jx (v7,a6) hm ⟨ha16,O⟩
   ·clear hm;rintro⟨v12,a11⟩ base h hm ⟨ha13,O⟩
    refine gX ?_
    refine aF hm fun hm=>?_;refine gH ?_
    exact jx ((v12,(v8+1)),a11) hm ⟨ha13,O⟩
  ·refine gX ?_
   exact jx (v7,a6) hm ⟨ha9,O⟩
 ·clear hm;rintro⟨v3,a2⟩ base h hm ⟨ha4,O⟩
  refine gX ?_
  refine fg Tryz.func28 ?_;refine gX ?_
  refine gK (s:=1) (enc:=i64) (l:=v3) (n:=v3.length) (m:=v3.length) rfl rfl rfl rfl rfl rfl rfl ?_;refine gX ?_
  exact⟨v3,hm,O.ext,fun h2 F=>O.iH F (Nat.le_refl _) (.head _) ha4 (fun _=>rfl)⟩
def cZ (p0:Rsp) (p1:Rsp) (K:((List Nat)×(List Nat))->Prop):Prop :=
 bV p0.out p1.out (fun r1=>bV p0.next p1.next (fun r2=>K (r1,r2)))
theorem mg {p0:Rsp}{p1:Rsp}{K:((List Nat)×(List Nat))->Prop} (hm:cZ p0 p1 K) {h0:Heap} (hB:HasB vars h0):∃ r,K r/\CallD Tryz.prog NG 18 ⟨[cT p0,cT p1]⟩ h0 ((fun (r:((List Nat)×(List Nat)))=>Value.tuple ⟨[(ag 1 i64) (r.1),(ag 1 i64) (r.2)]⟩) r) h0:=by
 unfold cZ at hm
 refine fw Tryz.func18 hB (enc:=(fun (r:((List Nat)×(List Nat)))=>Value.tuple ⟨[(ag 1 i64) (r.1),(ag 1 i64) (r.2)]⟩)) (fun r=>PureV.tup (aj.cons (dg (fun _=>aj.cons (PureV.flat rfl) aj.nil)) (aj.cons (dg (fun _=>aj.cons (PureV.flat rfl) aj.nil)) (aj.nil)))) fun O=>?_;conv=>whnf
 refine gX ?_
 refine fz ?_;refine gH ?_
 refine fz ?_;refine gX ?_
 refine dF ?_
 refine gX ?_
 refine dF ?_
 refine gX ?_
 refine ca (gA hm O.has) fun r1 hm=>?_;refine gH ?_
 (first|refine⟨.inr (.inr (ae rfl (O.at (.head _)) rfl rfl)),?_⟩|refine⟨.inr (.inr (ae rfl (O.at (.tail _ (.head _))) rfl rfl)),?_⟩|refine⟨.inr (.inr (ae rfl (O.at (.tail _ (.tail _ (.head _)))) rfl rfl)),?_⟩|refine⟨.inr (.inr (ae rfl (O.at (.tail _ (.tail _ (.tail _ (.head _))))) rfl rfl)),?_⟩|refine⟨.inr (.inr (ae rfl (O.at (.tail _ (.tail _ (.tail _ (.tail _ (.head _)))))) rfl rfl)),?_⟩|refine⟨.inr (.inr (ae rfl (O.at (.tail _ (.tail _ (.tail _ (.tail _ (.tail _ (.head _))))))) rfl rfl)),?_⟩|refine⟨.inr (.inr (ae rfl (O.at (.tail _ (.tail _ (.tail _ (.tail _ (.tail _ (.tail _ (.head _)))))))) rfl rfl)),?_⟩|refine⟨.inl (Ext.refl _),?_⟩|refine⟨.inr (.inr rfl),?_⟩|refine⟨.inr (by kernel_rfl),?_⟩|refine⟨.inl (by kernel_rfl),?_⟩|refine id ?_);refine gH ?_
 refine dF ?_
 refine gX ?_
 refine dF ?_
 refine gX ?_
 refine ca (gA hm O.has) fun r2 hm=>?_;refine gH ?_
 (first|refine⟨.inr (.inr (ae rfl (O.at (.head _)) rfl rfl)),?_⟩|refine⟨.inr (.inr (ae rfl (O.at (.tail _ (.head _))) rfl rfl)),?_⟩|refine⟨.inr (.inr (ae rfl (O.at (.tail _ (.tail _ (.head _)))) rfl rfl)),?_⟩|refine⟨.inr (.inr (ae rfl (O.at (.tail _ (.tail _ (.tail _ (.head _))))) rfl rfl)),?_⟩|refine⟨.inr (.inr (ae rfl (O.at (.tail _ (.tail _ (.tail _ (.tail _ (.head _)))))) rfl rfl)),?_⟩|refine⟨.inr (.inr (ae rfl (O.at (.tail _ (.tail _ (.tail _ (.tail _ (.tail _ (.head _))))))) rfl rfl)),?_⟩|refine⟨.inr (.inr (ae rfl (O.at (.tail _ (.tail _ (.tail _ (.tail _ (.tail _ (.tail _ (.head _)))))))) rfl rfl)),?_⟩|refine⟨.inl (Ext.refl _),?_⟩|refine⟨.inr (.inr rfl),?_⟩|refine⟨.inr (by kernel_rfl),?_⟩|refine⟨.inl (by kernel_rfl),?_⟩|refine id ?_);refine gH ?_
 refine gX ?_
 exact⟨(r1,r2),hm,O.ext,fun h2 F=>VLe.tup (LLe.cons (VLe.refl _ _) (LLe.cons (VLe.refl _ _) (LLe.nil _)))⟩
def cv (p0:Circ) (p1:Flt) (p2:Pat) (K:(Rsp×Rsp×(List Nat)×Nat)->Prop):Prop :=
 faults_Check_wp p0 p1 (fun r5=>((neN r5 0)=true->K ((⟨[],[]⟩:Rsp),(⟨[],[]⟩:Rsp),[],r5))/\((neN r5 0)=false->((eqN p1.model 1)=true->K ((⟨[],[]⟩:Rsp),(⟨[],[]⟩:Rsp),[],7))/\((eqN p1.model 1)=false->dK p0 p2 (fun r6=>((neN r6.2.2 0)=true->False)/\((neN r6.2.2 0)=false->((eqN p1.model 2)=true->an (α:=Nat) (fun k14=>((eqN p1.value 1)=true->k14 7)/\((eqN p1.value 1)=false->k14 5)) (fun v13=>∃ x15,r6.2.1[p1.line.node]?=some x15/\∃ x16,r6.2.1[p1.other]?=some x16/\aS v13 ([x15,x16]:(List Nat)) (fun r17=>1*p0.nodes.length<=2 ^ 48/\p0.nodes.length<2 ^ 63/\aH p0 (fun r26=>an (α:=(List Nat)) (fun k28=>aT p0 (fun r29=>av (S:=((List Nat)×Nat)) (fun (v30,v31) nx32=>((ltN v31 r29.length)=true->∃ x33,r29[v31]?=some x33/\∃ x34,p2.inp[v31]?=some x34/\x33<p0.nodes.length/\∃ x35,v30[x33]?=some x35/\v31+1<2 ^ 63/\nx32 ((v30.set x33 x34),(v31+1)))/\((ltN v31 r29.length)=false->k28 v30)) ((List.replicate p0.nodes.length (0:Nat)),0))) (fun v27=>an (α:=(List Nat)) (fun k37=>av (S:=((List Nat)×Nat)) (fun (v38,v39) nx40=>((ltN v39 r26.length)=true->∃ x41,r26[v39]?=some x41/\∃ x42,p2.state[v39]?=some x42/\x41<p0.nodes.length/\∃ x43,v38[x41]?=some x43/\v39+1<2 ^ 63/\nx40 ((v38.set x41 x42),(v39+1)))/\((ltN v39 r26.length)=false->k37 v38)) (v27,0)) (fun v36=>aW p0 (fun r44=>an (α:=(List Nat)) (fun k46=>av (S:=((List Nat)×Nat)) (fun (v47,v48) nx49=>((ltN v48 r44.1.length)=true->∃ x50,r44.1[v48]?=some x50/\an (α:=(List Nat)) (fun k52=>∃ x53,p0.nodes[x50]?=some x53/\an (α:=Bool) (fun k55=>((neN x53.kind 0)=true->k55 (neN x53.kind 14))/\((neN x53.kind 0)=false->k55 false)) (fun v54=>(v54=true->∃ x56,p0.nodes[x50]?=some x56/\an (α:=(List Nat)) (fun k62=>∃ x63,p0.nodes[x50]?=some x63/\av (S:=((List Nat)×Nat)) (fun (v65,v66) nx68=>((ltN v66 x63.ins.length)=true->∃ x69,x63.ins[v66]?=some x69/\x69<p0.nodes.length/\∃ x70,v47[x69]?=some x70/\(v65.length+([x70]:(List Nat)).length)*1<=2 ^ 47/\v66+1<2 ^ 63/\nx68 ((v65++([x70]:(List Nat))),(v66+1)))/\((ltN v66 x63.ins.length)=false->k62 v65)) (([]:List Nat),0)) (fun v60=>aS x56.kind v60 (fun r75=>x50<p0.nodes.length/\∃ x76,v47[x50]?=some x76/\k52 (v47.set x50 r75))))/\(v54=false->k52 v47))) (fun v51=>x50<p0.nodes.length/\∃ x77,v51[x50]?=some x77/\((eqN x50 p1.line.node)=true->x50<p0.nodes.length/\∃ x78,v51[x50]?=some x78/\v48+1<2 ^ 63/\nx49 ((v51.set x50 r17),(v48+1)))/\((eqN x50 p1.line.node)=false->((eqN x50 p1.other)=true->x50<p0.nodes.length/\∃ x79,v51[x50]?=some x79/\v48+1<2 ^ 63/\nx49 ((v51.set x50 r17),(v48+1)))/\((eqN x50 p1.other)=false->x50<p0.nodes.length/\∃ x80,v51[x50]?=some x80/\v48+1<2 ^ 63/\nx49 ((v51.set x50 x77),(v48+1))))))/\((ltN v48 r44.1.length)=false->k46 v47)) (v36,0)) (fun v45=>an (α:=(List Nat)) (fun k88=>av (S:=((List Nat)×Nat)) (fun (v90,v91) nx93=>((ltN v91 p0.outs.length)=true->∃ x94,p0.outs[v91]?=some x94/\x94<p0.nodes.length/\∃ x95,v45[x94]?=some x95/\(v90.length+([x95]:(List Nat)).length)*1<=2 ^ 47/\v91+1<2 ^ 63/\nx93 ((v90++([x95]:(List Nat))),(v91+1)))/\((ltN v91 p0.outs.length)=false->k88 v90)) (([]:List Nat),0)) (fun v86=>an (α:=(List Nat)) (fun k104=>av (S:=((List Nat)×Nat)) (fun (v106,v107) nx110=>((ltN v107 r26.length)=true->∃ x111,r26[v107]?=some x111/\an (α:=(List Nat)) (fun k119=>∃ x120,p0.nodes[x111]?=some x120/\av (S:=((List Nat)×Nat)) (fun (v122,v123) nx127=>((ltN v123 x120.ins.length)=true->∃ x128,x120.ins[v123]?=some x128/\x128<p0.nodes.length/\∃ x129,v45[x128]?=some x129/\(v122.length+([x129]:(List Nat)).length)*1<=2 ^ 47/\v123+1<2 ^ 63/\nx127 ((v122++([x129]:(List Nat))),(v123+1)))/\((ltN v123 x120.ins.length)=false->k119 v122)) (([]:List Nat),0)) (fun v115=>∃ x134,v115[0]?=some x134/\an (α:=Nat) (fun k139=>((eqN x134 3)=true->k139 2)/\((eqN x134 3)=false->k139 x134)) (fun v136=>(v106.length+([v136]:(List Nat)).length)*1<=2 ^ 47/\v107+1<2 ^ 63/\nx110 ((v106++([v136]:(List Nat))),(v107+1)))))/\((ltN v107 r26.length)=false->k104 v106)) (([]:List Nat),0)) (fun v101=>p0.nodes.length=v45.length/\K (r6.1,(⟨v86,v101⟩:Rsp),v45,0)))))))))))/\((eqN p1.model 2)=false->((eqN p1.model 3)=true->((ltI p1.line.pin (Int.ofNat 0))=true->1*p0.nodes.length<=2 ^ 48/\p0.nodes.length<2 ^ 63/\aH p0 (fun r151=>an (α:=(List Nat)) (fun k153=>aT p0 (fun r154=>av (S:=((List Nat)×Nat)) (fun (v155,v156) nx157=>((ltN v156 r154.length)=true->∃ x158,r154[v156]?=some x158/\∃ x159,p2.inp[v156]?=some x159/\x158<p0.nodes.length/\∃ x160,v155[x158]?=some x160/\v156+1<2 ^ 63/\nx157 ((v155.set x158 x159),(v156+1)))/\((ltN v156 r154.length)=false->k153 v155)) ((List.replicate p0.nodes.length (0:Nat)),0))) (fun v152=>an (α:=(List Nat)) (fun k162=>av (S:=((List Nat)×Nat)) (fun (v163,v164) nx165=>((ltN v164 r151.length)=true->∃ x166,r151[v164]?=some x166/\∃ x167,p2.state[v164]?=some x167/\x166<p0.nodes.length/\∃ x168,v163[x166]?=some x168/\v164+1<2 ^ 63/\nx165 ((v163.set x166 x167),(v164+1)))/\((ltN v164 r151.length)=false->k162 v163)) (v152,0)) (fun v161=>aW p0 (fun r169=>an (α:=(List Nat)) (fun k171=>av (S:=((List Nat)×Nat)) (fun (v172,v173) nx174=>((ltN v173 r169.1.length)=true->∃ x175,r169.1[v173]?=some x175/\an (α:=(List Nat)) (fun k177=>∃ x178,p0.nodes[x175]?=some x178/\an (α:=Bool) (fun k180=>((neN x178.kind 0)=true->k180 (neN x178.kind 14))/\((neN x178.kind 0)=false->k180 false)) (fun v179=>(v179=true->∃ x181,p0.nodes[x175]?=some x181/\an (α:=(List Nat)) (fun k187=>∃ x188,p0.nodes[x175]?=some x188/\av (S:=((List Nat)×Nat)) (fun (v190,v191) nx193=>((ltN v191 x188.ins.length)=true->∃ x194,x188.ins[v191]?=some x194/\x194<p0.nodes.length/\∃ x195,v172[x194]?=some x195/\(v190.length+([x195]:(List Nat)).length)*1<=2 ^ 47/\v191+1<2 ^ 63/\nx193 ((v190++([x195]:(List Nat))),(v191+1)))/\((ltN v191 x188.ins.length)=false->k187 v190)) (([]:List Nat),0)) (fun v185=>aS x181.kind v185 (fun r200=>x175<p0.nodes.length/\∃ x201,v172[x175]?=some x201/\k177 (v172.set x175 r200))))/\(v179=false->k177 v172))) (fun v176=>x175<p0.nodes.length/\∃ x202,v176[x175]?=some x202/\((eqN x175 p1.line.node)=true->∃ x203,r6.2.1[p1.other]?=some x203/\x175<p0.nodes.length/\∃ x204,v176[x175]?=some x204/\v173+1<2 ^ 63/\nx174 ((v176.set x175 x203),(v173+1)))/\((eqN x175 p1.line.node)=false->x175<p0.nodes.length/\∃ x205,v176[x175]?=some x205/\v173+1<2 ^ 63/\nx174 ((v176.set x175 x202),(v173+1)))))/\((ltN v173 r169.1.length)=false->k171 v172)) (v161,0)) (fun v170=>an (α:=(List Nat)) (fun k213=>av (S:=((List Nat)×Nat)) (fun (v215,v216) nx218=>((ltN v216 p0.outs.length)=true->∃ x219,p0.outs[v216]?=some x219/\x219<p0.nodes.length/\∃ x220,v170[x219]?=some x220/\(v215.length+([x220]:(List Nat)).length)*1<=2 ^ 47/\v216+1<2 ^ 63/\nx218 ((v215++([x220]:(List Nat))),(v216+1)))/\((ltN v216 p0.outs.length)=false->k213 v215)) (([]:List Nat),0)) (fun v211=>an (α:=(List Nat)) (fun k229=>av (S:=((List Nat)×Nat)) (fun (v231,v232) nx235=>((ltN v232 r151.length)=true->∃ x236,r151[v232]?=some x236/\an (α:=(List Nat)) (fun k244=>∃ x245,p0.nodes[x236]?=some x245/\av (S:=((List Nat)×Nat)) (fun (v247,v248) nx252=>((ltN v248 x245.ins.length)=true->∃ x253,x245.ins[v248]?=some x253/\x253<p0.nodes.length/\∃ x254,v170[x253]?=some x254/\(v247.length+([x254]:(List Nat)).length)*1<=2 ^ 47/\v248+1<2 ^ 63/\nx252 ((v247++([x254]:(List Nat))),(v248+1)))/\((ltN v248 x245.ins.length)=false->k244 v247)) (([]:List Nat),0)) (fun v240=>∃ x259,v240[0]?=some x259/\an (α:=Nat) (fun k264=>((eqN x259 3)=true->k264 2)/\((eqN x259 3)=false->k264 x259)) (fun v261=>(v231.length+([v261]:(List Nat)).length)*1<=2 ^ 47/\v232+1<2 ^ 63/\nx235 ((v231++([v261]:(List Nat))),(v232+1)))))/\((ltN v232 r151.length)=false->k229 v231)) (([]:List Nat),0)) (fun v226=>p0.nodes.length=v170.length/\K (r6.1,(⟨v211,v226⟩:Rsp),v170,0)))))))))/\((ltI p1.line.pin (Int.ofNat 0))=false->False))/\((eqN p1.model 3)=false->((ltI p1.line.pin (Int.ofNat 0))=true->1*p0.nodes.length<=2 ^ 48/\p0.nodes.length<2 ^ 63/\aH p0 (fun r276=>an (α:=(List Nat)) (fun k278=>aT p0 (fun r279=>av (S:=((List Nat)×Nat)) (fun (v280,v281) nx282=>((ltN v281 r279.length)=true->∃ x283,r279[v281]?=some x283/\∃ x284,p2.inp[v281]?=some x284/\x283<p0.nodes.length/\∃ x285,v280[x283]?=some x285/\v281+1<2 ^ 63/\nx282 ((v280.set x283 x284),(v281+1)))/\((ltN v281 r279.length)=false->k278 v280)) ((List.replicate p0.nodes.length (0:Nat)),0))) (fun v277=>an (α:=(List Nat)) (fun k287=>av (S:=((List Nat)×Nat)) (fun (v288,v289) nx290=>((ltN v289 r276.length)=true->∃ x291,r276[v289]?=some x291/\∃ x292,p2.state[v289]?=some x292/\x291<p0.nodes.length/\∃ x293,v288[x291]?=some x293/\v289+1<2 ^ 63/\nx290 ((v288.set x291 x292),(v289+1)))/\((ltN v289 r276.length)=false->k287 v288)) (v277,0)) (fun v286=>aW p0 (fun r294=>an (α:=(List Nat)) (fun k296=>av (S:=((List Nat)×Nat)) (fun (v297,v298) nx299=>((ltN v298 r294.1.length)=true->∃ x300,r294.1[v298]?=some x300/\an (α:=(List Nat)) (fun k302=>∃ x303,p0.nodes[x300]?=some x303/\an (α:=Bool) (fun k305=>((neN x303.kind 0)=true->k305 (neN x303.kind 14))/\((neN x303.kind 0)=false->k305 false)) (fun v304=>(v304=true->∃ x306,p0.nodes[x300]?=some x306/\an (α:=(List Nat)) (fun k312=>∃ x313,p0.nodes[x300]?=some x313/\av (S:=((List Nat)×Nat)) (fun (v315,v316) nx318=>((ltN v316 x313.ins.length)=true->∃ x319,x313.ins[v316]?=some x319/\x319<p0.nodes.length/\∃ x320,v297[x319]?=some x320/\(v315.length+([x320]:(List Nat)).length)*1<=2 ^ 47/\v316+1<2 ^ 63/\nx318 ((v315++([x320]:(List Nat))),(v316+1)))/\((ltN v316 x313.ins.length)=false->k312 v315)) (([]:List Nat),0)) (fun v310=>aS x306.kind v310 (fun r325=>x300<p0.nodes.length/\∃ x326,v297[x300]?=some x326/\k302 (v297.set x300 r325))))/\(v304=false->k302 v297))) (fun v301=>x300<p0.nodes.length/\∃ x327,v301[x300]?=some x327/\((eqN x300 p1.line.node)=true->x300<p0.nodes.length/\∃ x328,v301[x300]?=some x328/\v298+1<2 ^ 63/\nx299 ((v301.set x300 p1.value),(v298+1)))/\((eqN x300 p1.line.node)=false->x300<p0.nodes.length/\∃ x329,v301[x300]?=some x329/\v298+1<2 ^ 63/\nx299 ((v301.set x300 x327),(v298+1)))))/\((ltN v298 r294.1.length)=false->k296 v297)) (v286,0)) (fun v295=>an (α:=(List Nat)) (fun k337=>av (S:=((List Nat)×Nat)) (fun (v339,v340) nx342=>((ltN v340 p0.outs.length)=true->∃ x343,p0.outs[v340]?=some x343/\x343<p0.nodes.length/\∃ x344,v295[x343]?=some x344/\(v339.length+([x344]:(List Nat)).length)*1<=2 ^ 47/\v340+1<2 ^ 63/\nx342 ((v339++([x344]:(List Nat))),(v340+1)))/\((ltN v340 p0.outs.length)=false->k337 v339)) (([]:List Nat),0)) (fun v335=>an (α:=(List Nat)) (fun k353=>av (S:=((List Nat)×Nat)) (fun (v355,v356) nx359=>((ltN v356 r276.length)=true->∃ x360,r276[v356]?=some x360/\an (α:=(List Nat)) (fun k368=>∃ x369,p0.nodes[x360]?=some x369/\av (S:=((List Nat)×Nat)) (fun (v371,v372) nx376=>((ltN v372 x369.ins.length)=true->∃ x377,x369.ins[v372]?=some x377/\x377<p0.nodes.length/\∃ x378,v295[x377]?=some x378/\(v371.length+([x378]:(List Nat)).length)*1<=2 ^ 47/\v372+1<2 ^ 63/\nx376 ((v371++([x378]:(List Nat))),(v372+1)))/\((ltN v372 x369.ins.length)=false->k368 v371)) (([]:List Nat),0)) (fun v364=>∃ x383,v364[0]?=some x383/\an (α:=Nat) (fun k388=>((eqN x383 3)=true->k388 2)/\((eqN x383 3)=false->k388 x383)) (fun v385=>(v355.length+([v385]:(List Nat)).length)*1<=2 ^ 47/\v356+1<2 ^ 63/\nx359 ((v355++([v385]:(List Nat))),(v356+1)))))/\((ltN v356 r276.length)=false->k353 v355)) (([]:List Nat),0)) (fun v350=>p0.nodes.length=v295.length/\K (r6.1,(⟨v335,v350⟩:Rsp),v295,0)))))))))/\((ltI p1.line.pin (Int.ofNat 0))=false->1*p0.nodes.length<=2 ^ 48/\p0.nodes.length<2 ^ 63/\aH p0 (fun r396=>an (α:=(List Nat)) (fun k398=>aT p0 (fun r399=>av (S:=((List Nat)×Nat)) (fun (v400,v401) nx402=>((ltN v401 r399.length)=true->∃ x403,r399[v401]?=some x403/\∃ x404,p2.inp[v401]?=some x404/\x403<p0.nodes.length/\∃ x405,v400[x403]?=some x405/\v401+1<2 ^ 63/\nx402 ((v400.set x403 x404),(v401+1)))/\((ltN v401 r399.length)=false->k398 v400)) ((List.replicate p0.nodes.length (0:Nat)),0))) (fun v397=>an (α:=(List Nat)) (fun k407=>av (S:=((List Nat)×Nat)) (fun (v408,v409) nx410=>((ltN v409 r396.length)=true->∃ x411,r396[v409]?=some x411/\∃ x412,p2.state[v409]?=some x412/\x411<p0.nodes.length/\∃ x413,v408[x411]?=some x413/\v409+1<2 ^ 63/\nx410 ((v408.set x411 x412),(v409+1)))/\((ltN v409 r396.length)=false->k407 v408)) (v397,0)) (fun v406=>aW p0 (fun r414=>an (α:=(List Nat)) (fun k416=>av (S:=((List Nat)×Nat)) (fun (v417,v418) nx419=>((ltN v418 r414.1.length)=true->∃ x420,r414.1[v418]?=some x420/\an (α:=(List Nat)) (fun k422=>∃ x423,p0.nodes[x420]?=some x423/\an (α:=Bool) (fun k425=>((neN x423.kind 0)=true->k425 (neN x423.kind 14))/\((neN x423.kind 0)=false->k425 false)) (fun v424=>(v424=true->∃ x426,p0.nodes[x420]?=some x426/\an (α:=(List Nat)) (fun k432=>∃ x433,p0.nodes[x420]?=some x433/\av (S:=((List Nat)×Nat)) (fun (v435,v436) nx438=>((ltN v436 x433.ins.length)=true->∃ x439,x433.ins[v436]?=some x439/\x439<p0.nodes.length/\∃ x440,v417[x439]?=some x440/\an (α:=Bool) (fun k443=>((eqN x420 p1.line.node)=true->k443 (eqZ (Int.ofNat v436) p1.line.pin))/\((eqN x420 p1.line.node)=false->k443 false)) (fun v441=>(v441=true->(v435.length+([p1.value]:(List Nat)).length)*1<=2 ^ 47/\v436+1<2 ^ 63/\nx438 ((v435++([p1.value]:(List Nat))),(v436+1)))/\(v441=false->(v435.length+([x440]:(List Nat)).length)*1<=2 ^ 47/\v436+1<2 ^ 63/\nx438 ((v435++([x440]:(List Nat))),(v436+1)))))/\((ltN v436 x433.ins.length)=false->k432 v435)) (([]:List Nat),0)) (fun v430=>aS x426.kind v430 (fun r452=>x420<p0.nodes.length/\∃ x453,v417[x420]?=some x453/\k422 (v417.set x420 r452))))/\(v424=false->k422 v417))) (fun v421=>x420<p0.nodes.length/\∃ x454,v421[x420]?=some x454/\x420<p0.nodes.length/\∃ x455,v421[x420]?=some x455/\v418+1<2 ^ 63/\nx419 ((v421.set x420 x454),(v418+1))))/\((ltN v418 r414.1.length)=false->k416 v417)) (v406,0)) (fun v415=>an (α:=(List Nat)) (fun k463=>av (S:=((List Nat)×Nat)) (fun (v465,v466) nx468=>((ltN v466 p0.outs.length)=true->∃ x469,p0.outs[v466]?=some x469/\x469<p0.nodes.length/\∃ x470,v415[x469]?=some x470/\(v465.length+([x470]:(List Nat)).length)*1<=2 ^ 47/\v466+1<2 ^ 63/\nx468 ((v465++([x470]:(List Nat))),(v466+1)))/\((ltN v466 p0.outs.length)=false->k463 v465)) (([]:List Nat),0)) (fun v461=>an (α:=(List Nat)) (fun k479=>av (S:=((List Nat)×Nat)) (fun (v481,v482) nx485=>((ltN v482 r396.length)=true->∃ x486,r396[v482]?=some x486/\an (α:=(List Nat)) (fun k494=>∃ x495,p0.nodes[x486]?=some x495/\av (S:=((List Nat)×Nat)) (fun (v497,v498) nx502=>((ltN v498 x495.ins.length)=true->∃ x503,x495.ins[v498]?=some x503/\x503<p0.nodes.length/\∃ x504,v415[x503]?=some x504/\an (α:=Bool) (fun k509=>((eqN x486 p1.line.node)=true->k509 (eqZ (Int.ofNat v498) p1.line.pin))/\((eqN x486 p1.line.node)=false->k509 false)) (fun v505=>(v505=true->(v497.length+([p1.value]:(List Nat)).length)*1<=2 ^ 47/\v498+1<2 ^ 63/\nx502 ((v497++([p1.value]:(List Nat))),(v498+1)))/\(v505=false->(v497.length+([x504]:(List Nat)).length)*1<=2 ^ 47/\v498+1<2 ^ 63/\nx502 ((v497++([x504]:(List Nat))),(v498+1)))))/\((ltN v498 x495.ins.length)=false->k494 v497)) (([]:List Nat),0)) (fun v490=>∃ x518,v490[0]?=some x518/\an (α:=Nat) (fun k523=>((eqN x518 3)=true->k523 2)/\((eqN x518 3)=false->k523 x518)) (fun v520=>(v481.length+([v520]:(List Nat)).length)*1<=2 ^ 47/\v482+1<2 ^ 63/\nx485 ((v481++([v520]:(List Nat))),(v482+1)))))/\((ltN v482 r396.length)=false->k479 v481)) (([]:List Nat),0)) (fun v476=>p0.nodes.length=v415.length/\K (r6.1,(⟨v461,v476⟩:Rsp),v415,0))))))))))))))))
theorem om {p0:Circ}{p1:Flt}{p2:Pat}{K:(Rsp×Rsp×(List Nat)×Nat)->Prop} (hm:cv p0 p1 p2 K) {h0:Heap} (hB:HasB vars h0):∃ r,K r/\CallD Tryz.prog NG 40 ⟨[aA p0,aC p1,bZ p2]⟩ h0 ((fun (r:(Rsp×Rsp×(List Nat)×Nat))=>Value.tuple ⟨[cT (r.1),cT (r.2.1),(ag 1 n8) (r.2.2.1),i64 (r.2.2.2)]⟩) r) h0:=by
 unfold cv at hm
 refine fw Tryz.func40 hB (enc:=(fun (r:(Rsp×Rsp×(List Nat)×Nat))=>Value.tuple ⟨[cT (r.1),cT (r.2.1),(ag 1 n8) (r.2.2.1),i64 (r.2.2.2)]⟩)) (fun r=>PureV.tup (aj.cons (kH _) (aj.cons (kH _) (aj.cons (dg (fun _=>aj.cons (PureV.flat rfl) aj.nil)) (aj.cons (PureV.flat rfl) (aj.nil)))))) fun O=>?_;conv=>whnf
 refine gX ?_
 refine fz ?_;refine gH ?_
 refine fz ?_;refine gH ?_
 refine fz ?_;refine gH ?_
 (first|refine O.new (ai (l:=[nS,nS]) rfl rfl rfl) fun g1 h O=>?_|refine O.bB (ai (l:=[nS,nS]) rfl rfl rfl) fun g1 h O=>?_);refine gH ?_
 (first|refine O.new (ai (l:=[nS,nS]) rfl rfl rfl) fun g3 h O=>?_|refine O.bB (ai (l:=[nS,nS]) rfl rfl rfl) fun g3 h O=>?_);refine gH ?_
 refine gX ?_
 refine ca (iX hm O.has) fun r5 hm=>?_;refine gX ?_
 refine br hm (fun hm=>?_) fun hm=>?_
 ·refine gX ?_
  refine ldA (O.at (.tail _ (.head _))) ?_;refine gH ?_
  first|refine⟨.inr (.inr (bg rfl (O.at (.tail _ (.head _))) rfl rfl (lbE rfl) rfl)),?_⟩|refine⟨.inr (.inl (by kernel_rfl)),?_⟩
  refine gX ?_
  refine ldA (O.at (.head _)) ?_;refine gH ?_
  first|refine⟨.inr (.inr (bg rfl (O.at (.head _)) rfl rfl (lbE rfl) rfl)),?_⟩|refine⟨.inr (.inl (by kernel_rfl)),?_⟩
  refine gX ?_
  refine O.gN 2 (.tail _ (.head _)) fun h hext O=>?_;conv=>whnf
  refine⟨.inr hext,?_⟩;refine gH ?_
  refine O.gN 2 (.head _) fun h hext O=>?_;conv=>whnf
  refine⟨.inr hext,?_⟩;refine gX ?_
  refine⟨_,aD rfl rfl (O.at (.tail _ (.head _))) rfl rfl (lbE rfl) rfl,?_⟩;conv=>whnf
  refine⟨_,aD rfl rfl (O.at (.head _)) rfl rfl (lbE rfl) rfl,?_⟩;conv=>whnf
  exact⟨((⟨[],[]⟩:Rsp),(⟨[],[]⟩:Rsp),[],r5),hm,O.ext,fun h2 F=>VLe.tup (LLe.cons (VLe.agg (LLe.cons (VLe.nil _ _) (LLe.cons (VLe.nil _ _) (LLe.nil _)))) (LLe.cons (VLe.agg (LLe.cons (VLe.nil _ _) (LLe.cons (VLe.nil _ _) (LLe.nil _)))) (LLe.cons (VLe.nil _ _) (LLe.cons (VLe.refl _ _) (LLe.nil _)))))⟩
 ·refine gX ?_
  refine br hm (fun hm=>?_) fun hm=>?_
  ·refine gX ?_
   refine ldA (O.at (.tail _ (.head _))) ?_;refine gH ?_
   first|refine⟨.inr (.inr (bg rfl (O.at (.tail _ (.head _))) rfl rfl (lbE rfl) rfl)),?_⟩|refine⟨.inr (.inl (by kernel_rfl)),?_⟩
   refine gX ?_
   refine ldA (O.at (.head _)) ?_;refine gH ?_
   first|refine⟨.inr (.inr (bg rfl (O.at (.head _)) rfl rfl (lbE rfl) rfl)),?_⟩|refine⟨.inr (.inl (by kernel_rfl)),?_⟩
   refine gX ?_
   refine O.gN 2 (.tail _ (.head _)) fun h hext O=>?_;conv=>whnf
   refine⟨.inr hext,?_⟩;refine gH ?_
   refine O.gN 2 (.head _) fun h hext O=>?_;conv=>whnf
   refine⟨.inr hext,?_⟩;refine gX ?_
   refine⟨_,aD rfl rfl (O.at (.tail _ (.head _))) rfl rfl (lbE rfl) rfl,?_⟩;conv=>whnf
   refine⟨_,aD rfl rfl (O.at (.head _)) rfl rfl (lbE rfl) rfl,?_⟩;conv=>whnf
   exact⟨((⟨[],[]⟩:Rsp),(⟨[],[]⟩:Rsp),[],7),hm,O.ext,fun h2 F=>VLe.tup (LLe.cons (VLe.agg (LLe.cons (VLe.nil _ _) (LLe.cons (VLe.nil _ _) (LLe.nil _)))) (LLe.cons (VLe.agg (LLe.cons (VLe.nil _ _) (LLe.cons (VLe.nil _ _) (LLe.nil _)))) (LLe.cons (VLe.nil _ _) (LLe.cons (VLe.refl _ _) (LLe.nil _)))))⟩
  ·refine gX ?_
   refine ca (lT hm O.has) fun r6 hm=>?_;refine gH ?_
   refine O.stC 2 (.tail _ (.head _)) [((ag 1 n8) r6.1.out),((ag 1 n8) r6.1.next)] fun h O=>?_;refine gX ?_
   refine br hm (fun hm=>?_) fun hm=>?_
   ·refine gX ?_
    exact False.elim hm
   ·refine gX ?_
    refine fg Tryz.func74 ?_;refine gX ?_
    refine fz ?_;refine gH ?_
    refine fz ?_;refine gH ?_
    refine fz ?_;refine gH ?_
    apply Cs;conv=>whnf
    refine CodeS.jc ?_;refine gH ?_
    (first|refine O.new (ai (l:=[(i64 0)]) rfl rfl rfl) fun g7 h O=>?_|refine O.bB (ai (l:=[(i64 0)]) rfl rfl rfl) fun g7 h O=>?_);refine gH ?_
    (first|refine O.new (ai (l:=[(i64 0)]) rfl rfl rfl) fun g9 h O=>?_|refine O.bB (ai (l:=[(i64 0)]) rfl rfl rfl) fun g9 h O=>?_);refine gH ?_
    refine O.stC 1 (.tail _ (.head _)) [(i64 p1.line.node)] fun h O=>?_;refine gH ?_
    refine O.stC 1 (.head _) [(i64 p1.other)] fun h O=>?_;refine gX ?_
    refine br hm (fun hm=>?_) fun hm=>?_
    ·apply Cs;conv=>whnf
     refine CodeS.tO (v:=(i64 p1.other)) O (.head _) (t2:=8) rfl rfl rfl fun h O=>?_;conv=>whnf
     refine CodeS.tO (v:=(i64 p1.line.node)) O (.tail _ (.head _)) (t2:=7) rfl rfl rfl fun h O=>?_;conv=>whnf
     refine CodeS.jc ?_;refine gH ?_
     refine fg Tryz.func108 ?_;refine gX ?_
     (first|refine O.new (ai (l:=[(n8 0)]) rfl rfl rfl) fun g11 h O=>?_|refine O.bB (ai (l:=[(n8 0)]) rfl rfl rfl) fun g11 h O=>?_);refine gH ?_
     refine O.stC 1 (.head _) [(n8 5)] fun h O=>?_;refine gH ?_
     refine jn hm 7 [3] (fun s=>s) (fun v13 h=>Own vars h0 [(sC g11 [(n8 v13)]),(sC g1 [((ag 1 n8) r6.1.out),((ag 1 n8) r6.1.next)]),(sC g3 [nS,nS])] h) (fun v13=>[]) (fun hm=>?_) ?_
     ·refine gX ?_
      refine br hm (fun hm=>?_) fun hm=>?_
      ·refine gX ?_
       refine O.stC 1 (.head _) [(n8 7)] fun h O=>?_;refine gH ?_
       exact jx 7 hm (O.sel [0,4,3] (by decide))
      ·refine gX ?_
       exact jx 5 hm (O.sel [0,4,3] (by decide))
     ·clear hm;rintro v13 base h hm O
      refine gX ?_
      refine atF hm fun x15 hx15 hm=>?_;refine gH ?_
      refine atF hm fun x16 hx16 hm=>?_;refine gH ?_
      refine fg Tryz.func133 ?_;refine gX ?_
      refine fz ?_;refine gH ?_
      refine ca (cH hm O.has) fun r17 hm=>?_;refine gX ?_
      (first|refine O.new (ai (l:=[(n8 0)]) rfl rfl rfl) fun g18 h O=>?_|refine O.bB (ai (l:=[(n8 0)]) rfl rfl rfl) fun g18 h O=>?_);refine gH ?_
      refine O.stC 1 (.head _) [(n8 r17)] fun h O=>?_;refine gX ?_
      (first|refine O.new (lH rfl) fun g20 h O=>?_|refine O.bB (lH rfl) fun g20 h O=>?_);refine gH ?_
      refine gX ?_
      refine fg Tryz.func75 ?_;refine gX ?_
      refine fz ?_;refine gH ?_
      (first|refine O.new (ai (l:=[nS,nS]) rfl rfl rfl) fun g22 h O=>?_|refine O.bB (ai (l:=[nS,nS]) rfl rfl rfl) fun g22 h O=>?_);refine gH ?_
      refine gX ?_
      refine O.mkL (enc:=n8) 1 1 0 hm fun g24 h O hm=>?_;refine gH ?_
      refine O.stC 1 (.tail _ (.tail _ (.head _))) (cy p0 (.slice (some ⟨g24,0,none⟩) p0.nodes.length p0.nodes.length) (clo 110 [(FP (i64 p1.line.node)),(FP (i64 p1.other)),(pG g18)]) (clo 109 [])) fun h O=>?_;refine gH ?_
      apply Cs;conv=>whnf
      refine CodeS.pF O (.tail _ (.tail _ (.head _))) 0 rfl rfl fun h O=>?_;refine gX ?_
      refine ca (aR hm O.has) fun r26 hm=>?_;refine gH ?_
      refine jn hm 189 [0,3,4,5] (fun s=>s) (fun v27 h=>Own vars h0 [(sC g24 (flatC (v27.map n8))),(sC g18 [(n8 r17)]),(sC g22 [nS,nS]),(sC g1 [((ag 1 n8) r6.1.out),((ag 1 n8) r6.1.next)]),(sC g3 [nS,nS]),(sR g20 (cy p0 (.slice (some ⟨g24,0,none⟩) p0.nodes.length p0.nodes.length) (clo 110 [(FP (i64 p1.line.node)),(FP (i64 p1.other)),(pG g18)]) (clo 109 [])))] h) (fun v27=>[]) (fun hm=>?_) ?_
      ·refine gX ?_
       refine ca (bG hm O.has) fun r29 hm=>?_;refine gX ?_
       refine lw 189 [0,3,4,5,41,42] (σ:=((List Nat)×Nat)) (fun s=>s) (fun (v30,v31) h=>Own vars h0 [(sC g24 (flatC (v30.map n8))),(sC g18 [(n8 r17)]),(sC g22 [nS,nS]),(sC g1 [((ag 1 n8) r6.1.out),((ag 1 n8) r6.1.next)]),(sC g3 [nS,nS]),(sR g20 (cy p0 (.slice (some ⟨g24,0,none⟩) p0.nodes.length p0.nodes.length) (clo 110 [(FP (i64 p1.line.node)),(FP (i64 p1.other)),(pG g18)]) (clo 109 [])))] h) (fun (v30,v31)=>[(43,(i64 v31))]) ((List.replicate p0.nodes.length (0:Nat)),0) hm (O.sel [0,3,1,5,6,2] (by decide)) ?_
       clear hm;rintro⟨v30,v31⟩ nx32 base h hm O
       refine gX ?_
       refine br hm (fun hm=>?_) fun hm=>?_
       ·refine gX ?_
        refine atF hm fun x33 hx33 hm=>?_;refine gX ?_
        refine dF ?_
        refine gX ?_
        refine dF ?_
        refine gX ?_
        refine atF hm fun x34 hx34 hm=>?_;refine gH ?_
        refine ix 1 hm fun x35 hx35 hm=>?_;refine gH ?_
        refine O.stE 1 (.head _) hx35 x34 fun h O=>?_;refine gH ?_
        (first|refine⟨.inr (.inr (ae rfl (O.at (.head _)) rfl rfl)),?_⟩|refine⟨.inr (.inr (ae rfl (O.at (.tail _ (.head _))) rfl rfl)),?_⟩|refine⟨.inr (.inr (ae rfl (O.at (.tail _ (.tail _ (.head _)))) rfl rfl)),?_⟩|refine⟨.inr (.inr (ae rfl (O.at (.tail _ (.tail _ (.tail _ (.head _))))) rfl rfl)),?_⟩|refine⟨.inr (.inr (ae rfl (O.at (.tail _ (.tail _ (.tail _ (.tail _ (.head _)))))) rfl rfl)),?_⟩|refine⟨.inr (.inr (ae rfl (O.at (.tail _ (.tail _ (.tail _ (.tail _ (.tail _ (.head _))))))) rfl rfl)),?_⟩|refine⟨.inr (.inr (ae rfl (O.at (.tail _ (.tail _ (.tail _ (.tail _ (.tail _ (.tail _ (.head _)))))))) rfl rfl)),?_⟩|refine⟨.inl (Ext.refl _),?_⟩|refine⟨.inr (.inr rfl),?_⟩|refine⟨.inr (by kernel_rfl),?_⟩|refine⟨.inl (by kernel_rfl),?_⟩|refine id ?_);refine gH ?_
        refine gX ?_
        refine aF hm fun hm=>?_;refine gH ?_
        exact jx ((v30.set x33 x34),(v31+1)) hm O
       ·refine gX ?_
        exact jx v30 hm O
      ·clear hm;rintro v27 base h hm O
       conv=>whnf
       refine jn hm 189 [0,4,5] (fun s=>s) (fun v36 h=>Own vars h0 [(sC g24 (flatC (v36.map n8))),(sC g18 [(n8 r17)]),(sC g22 [nS,nS]),(sC g1 [((ag 1 n8) r6.1.out),((ag 1 n8) r6.1.next)]),(sC g3 [nS,nS]),(sR g20 (cy p0 (.slice (some ⟨g24,0,none⟩) p0.nodes.length p0.nodes.length) (clo 110 [(FP (i64 p1.line.node)),(FP (i64 p1.other)),(pG g18)]) (clo 109 [])))] h) (fun v36=>[]) (fun hm=>?_) ?_
       ·refine gX ?_
        refine lw 189 [0,3,4,5,60,61] (σ:=((List Nat)×Nat)) (fun s=>s) (fun (v38,v39) h=>Own vars h0 [(sC g24 (flatC (v38.map n8))),(sC g18 [(n8 r17)]),(sC g22 [nS,nS]),(sC g1 [((ag 1 n8) r6.1.out),((ag 1 n8) r6.1.next)]),(sC g3 [nS,nS]),(sR g20 (cy p0 (.slice (some ⟨g24,0,none⟩) p0.nodes.length p0.nodes.length) (clo 110 [(FP (i64 p1.line.node)),(FP (i64 p1.other)),(pG g18)]) (clo 109 [])))] h) (fun (v38,v39)=>[(62,(i64 v39))]) (v27,0) hm O ?_
        clear hm;rintro⟨v38,v39⟩ nx40 base h hm O
        refine gX ?_
        refine br hm (fun hm=>?_) fun hm=>?_
        ·refine gX ?_
         refine atF hm fun x41 hx41 hm=>?_;refine gX ?_
         refine dF ?_
         refine gX ?_
         refine dF ?_
         refine gX ?_
         refine atF hm fun x42 hx42 hm=>?_;refine gH ?_
         refine ix 1 hm fun x43 hx43 hm=>?_;refine gH ?_
         refine O.stE 1 (.head _) hx43 x42 fun h O=>?_;refine gH ?_
         (first|refine⟨.inr (.inr (ae rfl (O.at (.head _)) rfl rfl)),?_⟩|refine⟨.inr (.inr (ae rfl (O.at (.tail _ (.head _))) rfl rfl)),?_⟩|refine⟨.inr (.inr (ae rfl (O.at (.tail _ (.tail _ (.head _)))) rfl rfl)),?_⟩|refine⟨.inr (.inr (ae rfl (O.at (.tail _ (.tail _ (.tail _ (.head _))))) rfl rfl)),?_⟩|refine⟨.inr (.inr (ae rfl (O.at (.tail _ (.tail _ (.tail _ (.tail _ (.head _)))))) rfl rfl)),?_⟩|refine⟨.inr (.inr (ae rfl (O.at (.tail _ (.tail _ (.tail _ (.tail _ (.tail _ (.head _))))))) rfl rfl)),?_⟩|refine⟨.inr (.inr (ae rfl (O.at (.tail _ (.tail _ (.tail _ (.tail _ (.tail _ (.tail _ (.head _)))))))) rfl rfl)),?_⟩|refine⟨.inl (Ext.refl _),?_⟩|refine⟨.inr (.inr rfl),?_⟩|refine⟨.inr (by kernel_rfl),?_⟩|refine⟨.inl (by kernel_rfl),?_⟩|refine id ?_);refine gH ?_
         refine gX ?_
         refine aF hm fun hm=>?_;refine gH ?_
         exact jx ((v38.set x41 x42),(v39+1)) hm O
        ·refine gX ?_
         exact jx v38 hm O
       ·clear hm;rintro v36 base h hm O
        refine gX ?_
        refine ca (cg hm O.has) fun r44 hm=>?_;refine gH ?_
        apply Cs;conv=>whnf
        apply Cs;refine gH ?_
        refine jn hm 189 [0,4,5] (fun s=>s) (fun v45 h=>Own vars h0 [(sC g24 (flatC (v45.map n8))),(sC g18 [(n8 r17)]),(sC g22 [nS,nS]),(sC g1 [((ag 1 n8) r6.1.out),((ag 1 n8) r6.1.next)]),(sC g3 [nS,nS]),(sR g20 (cy p0 (.slice (some ⟨g24,0,none⟩) p0.nodes.length p0.nodes.length) (clo 110 [(FP (i64 p1.line.node)),(FP (i64 p1.other)),(pG g18)]) (clo 109 [])))] h) (fun v45=>[]) (fun hm=>?_) ?_
        ·refine gX ?_
         refine lw 189 [0,4,5,12,89,90] (σ:=((List Nat)×Nat)) (fun s=>s) (fun (v47,v48) h=>Own vars h0 [(sC g24 (flatC (v47.map n8))),(sC g18 [(n8 r17)]),(sC g22 [nS,nS]),(sC g1 [((ag 1 n8) r6.1.out),((ag 1 n8) r6.1.next)]),(sC g3 [nS,nS]),(sR g20 (cy p0 (.slice (some ⟨g24,0,none⟩) p0.nodes.length p0.nodes.length) (clo 110 [(FP (i64 p1.line.node)),(FP (i64 p1.other)),(pG g18)]) (clo 109 [])))] h) (fun (v47,v48)=>[(91,(i64 v48))]) (v36,0) hm O ?_
         clear hm;rintro⟨v47,v48⟩ nx49 base h hm O
         refine gX ?_
         refine br hm (fun hm=>?_) fun hm=>?_
         ·refine gX ?_
          refine atF hm fun x50 hx50 hm=>?_;refine gH ?_
          refine jn hm 189 [0,4,5,12,14,89,90,91] (fun s=>s) (fun v51 h=>Own vars h0 [(sC g24 (flatC (v51.map n8))),(sC g18 [(n8 r17)]),(sC g22 [nS,nS]),(sC g1 [((ag 1 n8) r6.1.out),((ag 1 n8) r6.1.next)]),(sC g3 [nS,nS]),(sR g20 (cy p0 (.slice (some ⟨g24,0,none⟩) p0.nodes.length p0.nodes.length) (clo 110 [(FP (i64 p1.line.node)),(FP (i64 p1.other)),(pG g18)]) (clo 109 [])))] h) (fun v51=>[]) (fun hm=>?_) ?_
          ·refine gX ?_
           refine atF hm fun x53 hx53 hm=>?_;refine gH ?_
           refine jn hm 189 [0,4,5,12,14,89,90,91] (fun s=>s) (fun v54 h=>Own vars h0 [(sC g24 (flatC (v47.map n8))),(sC g18 [(n8 r17)]),(sC g22 [nS,nS]),(sC g1 [((ag 1 n8) r6.1.out),((ag 1 n8) r6.1.next)]),(sC g3 [nS,nS]),(sR g20 (cy p0 (.slice (some ⟨g24,0,none⟩) p0.nodes.length p0.nodes.length) (clo 110 [(FP (i64 p1.line.node)),(FP (i64 p1.other)),(pG g18)]) (clo 109 [])))] h) (fun v54=>[(109,(.bool v54))]) (fun hm=>?_) ?_
           ·refine gX ?_
            refine br hm (fun hm=>?_) fun hm=>?_
            ·refine gX ?_
             exact jx (neN x53.kind 14) hm O
            ·refine gX ?_
             exact jx false hm O
           ·clear hm;rintro v54 base h hm O
            refine gX ?_
            refine br hm (fun hm=>?_) fun hm=>?_
            ·refine CodeS.jc ?_;refine gH ?_
             refine fg Tryz.func114 ?_;conv=>whnf
             apply Cs;conv=>whnf
             apply Cs;refine gH ?_
             apply Cs;conv=>whnf
             refine CodeS.jc ?_;refine gH ?_
             refine atF hm fun x56 hx56 hm=>?_;refine gH ?_
             refine fg Tryz.func115 ?_;conv=>whnf
             apply Cs;conv=>whnf
             apply Cs;refine gH ?_
             have O:=O.aG (.cells (flatC ((([]:List Nat)).map n8)) false)
             apply Cs;conv=>whnf
             apply Cs;refine gH ?_
             have O:=O.aG (.cells (flatC ((([]:List Nat)).map n8)) false)
             refine jn (σ:=(List Nat)×Option Nat) hm 42 [] (fun s=>s.1) (fun (v60,a59) h=>(a59=none->v60=[])/\Own vars h0 [(a59,.cells (flatC (v60.map n8)) false),(sC g1 [((ag 1 n8) r6.1.out),((ag 1 n8) r6.1.next)]),(sC g3 [nS,nS]),(sR g20 (cy p0 (.slice (some ⟨g24,0,none⟩) p0.nodes.length p0.nodes.length) (clo 110 [(FP (i64 p1.line.node)),(FP (i64 p1.other)),(pG g18)]) (clo 109 []))),(sC g24 (flatC (v47.map n8))),(sC g18 [(n8 r17)]),(sC g22 [nS,nS])] h) (fun (v60,a59)=>[(5,(ah 1 a59 (v60.map n8)))]) (fun hm=>?_) ?_
             ·refine gX ?_
              refine atF hm fun x63 hx63 hm=>?_;refine gX ?_
              refine lw 42 [0,1,16,17] (σ:=((List Nat)×Nat)×Option Nat) (fun s=>s.1) (fun ((v65,v66),a64) h=>(a64=none->v65=[])/\Own vars h0 [(sC g24 (flatC (v47.map n8))),(sC g18 [(n8 r17)]),(a64,.cells (flatC (v65.map n8)) false),(sC g1 [((ag 1 n8) r6.1.out),((ag 1 n8) r6.1.next)]),(sC g3 [nS,nS]),(sR g20 (cy p0 (.slice (some ⟨g24,0,none⟩) p0.nodes.length p0.nodes.length) (clo 110 [(FP (i64 p1.line.node)),(FP (i64 p1.other)),(pG g18)]) (clo 109 []))),(sC g22 [nS,nS])] h) (fun ((v65,v66),a64)=>[(5,(ah 1 a64 (v65.map n8))),(18,(i64 v66))]) ((([]:List Nat),0),none) hm ⟨(fun _=>rfl),(O.sel [2,3,0,5,6,7,4] (by decide))⟩ ?_
              clear hm;rintro⟨⟨v65,v66⟩,a64⟩ nx68 base h hm ⟨ha67,O⟩
              refine gX ?_
              refine br hm (fun hm=>?_) fun hm=>?_
              ·refine gX ?_
               refine atF hm fun x69 hx69 hm=>?_;refine gX ?_
               refine dF ?_
               refine gX ?_
               refine dF ?_
               refine gX ?_
               refine ix 1 hm fun x70 hx70 hm=>?_;refine gH ?_
               refine⟨_,ae rfl (O.at (.head _)) rfl (bd (enc:=n8) (s:=1) (k:=0) (fun _=>rfl) hx70 rfl),?_⟩;refine gH ?_
               refine fg Tryz.func109 ?_;refine gX ?_
               (first|refine⟨.inr (.inr (ae rfl (O.at (.head _)) rfl rfl)),?_⟩|refine⟨.inr (.inr (ae rfl (O.at (.tail _ (.head _))) rfl rfl)),?_⟩|refine⟨.inr (.inr (ae rfl (O.at (.tail _ (.tail _ (.head _)))) rfl rfl)),?_⟩|refine⟨.inr (.inr (ae rfl (O.at (.tail _ (.tail _ (.tail _ (.head _))))) rfl rfl)),?_⟩|refine⟨.inr (.inr (ae rfl (O.at (.tail _ (.tail _ (.tail _ (.tail _ (.head _)))))) rfl rfl)),?_⟩|refine⟨.inr (.inr (ae rfl (O.at (.tail _ (.tail _ (.tail _ (.tail _ (.tail _ (.head _))))))) rfl rfl)),?_⟩|refine⟨.inr (.inr (ae rfl (O.at (.tail _ (.tail _ (.tail _ (.tail _ (.tail _ (.tail _ (.head _)))))))) rfl rfl)),?_⟩|refine⟨.inl (Ext.refl _),?_⟩|refine⟨.inr (.inr rfl),?_⟩|refine⟨.inr (by kernel_rfl),?_⟩|refine⟨.inl (by kernel_rfl),?_⟩|refine id ?_);refine gH ?_
               refine O.bE (l:=([x70]:(List Nat))) (enc:=n8) (s:=1) (z:=(n8 0)) rfl rfl (by kernel_rfl) (by kernel_rfl) rfl rfl rfl rfl (fun _=>rfl) fun g71 h O=>?_;refine gH ?_
               refine O.bQ (enc:=n8) (l:=v65) (new:=([x70]:(List Nat))) (s:=1) (b:=1) (.tail _ (.tail _ (.tail _ (.head _)))) ha67 rfl rfl rfl rfl rfl rfl rfl rfl (YOk.own (O.at (.head _)) rfl (fun _=>rfl) rfl) (fun _=>rfl) (fun _=>rfl) (by decide) hm.1 fun a73 h ha74 O=>?_;refine gH ?_
               (first|refine⟨.inr (.inr (ae rfl (O.at (.head _)) rfl rfl)),?_⟩|refine⟨.inr (.inr (ae rfl (O.at (.tail _ (.head _))) rfl rfl)),?_⟩|refine⟨.inr (.inr (ae rfl (O.at (.tail _ (.tail _ (.head _)))) rfl rfl)),?_⟩|refine⟨.inr (.inr (ae rfl (O.at (.tail _ (.tail _ (.tail _ (.head _))))) rfl rfl)),?_⟩|refine⟨.inr (.inr (ae rfl (O.at (.tail _ (.tail _ (.tail _ (.tail _ (.head _)))))) rfl rfl)),?_⟩|refine⟨.inr (.inr (ae rfl (O.at (.tail _ (.tail _ (.tail _ (.tail _ (.tail _ (.head _))))))) rfl rfl)),?_⟩|refine⟨.inr (.inr (ae rfl (O.at (.tail _ (.tail _ (.tail _ (.tail _ (.tail _ (.tail _ (.head _)))))))) rfl rfl)),?_⟩|refine⟨.inl (Ext.refl _),?_⟩|refine⟨.inr (.inr rfl),?_⟩|refine⟨.inr (by kernel_rfl),?_⟩|refine⟨.inl (by kernel_rfl),?_⟩|refine id ?_);refine gH ?_
               replace hm:=hm.2
               refine gX ?_
               refine aF hm fun hm=>?_;refine gH ?_
               exact jx (((v65++([x70]:(List Nat))),(v66+1)),a73) hm ⟨ha74,(O.sel [1,2,3,4,5,6,7] (by decide))⟩
              ·refine gX ?_
               exact jx (v65,a64) hm ⟨ha67,(O.sel [2,3,4,5,0,1,6] (by decide))⟩
             ·clear hm;rintro⟨v60,a59⟩ base h hm ⟨ha61,O⟩
              refine gX ?_
              refine CallD.yX (fun _ hb=>cH hm hb) (fun _=>js rfl) oy O.has (fun h2 F=>(LLe.cons (VLe.refl _ _) (LLe.cons (O.eY F (Nat.zero_le _) (.head _) ha61 (fun _=>rfl)) (LLe.nil _)))) (by kernel_rfl) (fun r75 hm'=>?_);replace hm:=hm';refine gX ?_
              refine ix 1 hm fun x76 hx76 hm=>?_;refine gH ?_
              refine O.stE 1 (.tail _ (.tail _ (.tail _ (.tail _ (.head _))))) hx76 r75 fun h O=>?_;refine gH ?_
              exact jx (v47.set x50 r75) hm (O.sel [4,5,6,1,2,3] (by decide))
            ·refine gX ?_
             exact jx v47 hm O
          ·clear hm;rintro v51 base h hm O
           refine gX ?_
           refine dF ?_
           refine gX ?_
           refine dF ?_
           refine gX ?_
           refine dF ?_
           refine gX ?_
           refine ix 1 hm fun x77 hx77 hm=>?_;refine gH ?_
           refine⟨_,ae rfl (O.at (.head _)) rfl (bd (enc:=n8) (s:=1) (k:=0) (fun _=>rfl) hx77 rfl),?_⟩;refine gH ?_
           refine fg Tryz.func110 ?_;refine gX ?_
           refine br hm (fun hm=>?_) fun hm=>?_
           ·refine gX ?_
            refine bt ?_;refine gX ?_
            (first|refine⟨.inr (.inr (ae rfl (O.at (.head _)) rfl rfl)),?_⟩|refine⟨.inr (.inr (ae rfl (O.at (.tail _ (.head _))) rfl rfl)),?_⟩|refine⟨.inr (.inr (ae rfl (O.at (.tail _ (.tail _ (.head _)))) rfl rfl)),?_⟩|refine⟨.inr (.inr (ae rfl (O.at (.tail _ (.tail _ (.tail _ (.head _))))) rfl rfl)),?_⟩|refine⟨.inr (.inr (ae rfl (O.at (.tail _ (.tail _ (.tail _ (.tail _ (.head _)))))) rfl rfl)),?_⟩|refine⟨.inr (.inr (ae rfl (O.at (.tail _ (.tail _ (.tail _ (.tail _ (.tail _ (.head _))))))) rfl rfl)),?_⟩|refine⟨.inr (.inr (ae rfl (O.at (.tail _ (.tail _ (.tail _ (.tail _ (.tail _ (.tail _ (.head _)))))))) rfl rfl)),?_⟩|refine⟨.inl (Ext.refl _),?_⟩|refine⟨.inr (.inr rfl),?_⟩|refine⟨.inr (by kernel_rfl),?_⟩|refine⟨.inl (by kernel_rfl),?_⟩|refine id ?_);refine gH ?_
            refine ix 1 hm fun x78 hx78 hm=>?_;refine gH ?_
            refine O.stE 1 (.head _) hx78 r17 fun h O=>?_;refine gH ?_
            (first|refine⟨.inr (.inr (ae rfl (O.at (.head _)) rfl rfl)),?_⟩|refine⟨.inr (.inr (ae rfl (O.at (.tail _ (.head _))) rfl rfl)),?_⟩|refine⟨.inr (.inr (ae rfl (O.at (.tail _ (.tail _ (.head _)))) rfl rfl)),?_⟩|refine⟨.inr (.inr (ae rfl (O.at (.tail _ (.tail _ (.tail _ (.head _))))) rfl rfl)),?_⟩|refine⟨.inr (.inr (ae rfl (O.at (.tail _ (.tail _ (.tail _ (.tail _ (.head _)))))) rfl rfl)),?_⟩|refine⟨.inr (.inr (ae rfl (O.at (.tail _ (.tail _ (.tail _ (.tail _ (.tail _ (.head _))))))) rfl rfl)),?_⟩|refine⟨.inr (.inr (ae rfl (O.at (.tail _ (.tail _ (.tail _ (.tail _ (.tail _ (.tail _ (.head _)))))))) rfl rfl)),?_⟩|refine⟨.inl (Ext.refl _),?_⟩|refine⟨.inr (.inr rfl),?_⟩|refine⟨.inr (by kernel_rfl),?_⟩|refine⟨.inl (by kernel_rfl),?_⟩|refine id ?_);refine gH ?_
            refine gX ?_
            refine aF hm fun hm=>?_;refine gH ?_
            exact jx ((v51.set x50 r17),(v48+1)) hm O
           ·refine gX ?_
            refine br hm (fun hm=>?_) fun hm=>?_
            ·refine gX ?_
             (first|refine⟨.inr (.inr (ae rfl (O.at (.head _)) rfl rfl)),?_⟩|refine⟨.inr (.inr (ae rfl (O.at (.tail _ (.head _))) rfl rfl)),?_⟩|refine⟨.inr (.inr (ae rfl (O.at (.tail _ (.tail _ (.head _)))) rfl rfl)),?_⟩|refine⟨.inr (.inr (ae rfl (O.at (.tail _ (.tail _ (.tail _ (.head _))))) rfl rfl)),?_⟩|refine⟨.inr (.inr (ae rfl (O.at (.tail _ (.tail _ (.tail _ (.tail _ (.head _)))))) rfl rfl)),?_⟩|refine⟨.inr (.inr (ae rfl (O.at (.tail _ (.tail _ (.tail _ (.tail _ (.tail _ (.head _))))))) rfl rfl)),?_⟩|refine⟨.inr (.inr (ae rfl (O.at (.tail _ (.tail _ (.tail _ (.tail _ (.tail _ (.tail _ (.head _)))))))) rfl rfl)),?_⟩|refine⟨.inl (Ext.refl _),?_⟩|refine⟨.inr (.inr rfl),?_⟩|refine⟨.inr (by kernel_rfl),?_⟩|refine⟨.inl (by kernel_rfl),?_⟩|refine id ?_);refine gH ?_
             refine ix 1 hm fun x79 hx79 hm=>?_;refine gH ?_
             refine O.stE 1 (.head _) hx79 r17 fun h O=>?_;refine gH ?_
             (first|refine⟨.inr (.inr (ae rfl (O.at (.head _)) rfl rfl)),?_⟩|refine⟨.inr (.inr (ae rfl (O.at (.tail _ (.head _))) rfl rfl)),?_⟩|refine⟨.inr (.inr (ae rfl (O.at (.tail _ (.tail _ (.head _)))) rfl rfl)),?_⟩|refine⟨.inr (.inr (ae rfl (O.at (.tail _ (.tail _ (.tail _ (.head _))))) rfl rfl)),?_⟩|refine⟨.inr (.inr (ae rfl (O.at (.tail _ (.tail _ (.tail _ (.tail _ (.head _)))))) rfl rfl)),?_⟩|refine⟨.inr (.inr (ae rfl (O.at (.tail _ (.tail _ (.tail _ (.tail _ (.tail _ (.head _))))))) rfl rfl)),?_⟩|refine⟨.inr (.inr (ae rfl (O.at (.tail _ (.tail _ (.tail _ (.tail _ (.tail _ (.tail _ (.head _)))))))) rfl rfl)),?_⟩|refine⟨.inl (Ext.refl _),?_⟩|refine⟨.inr (.inr rfl),?_⟩|refine⟨.inr (by kernel_rfl),?_⟩|refine⟨.inl (by kernel_rfl),?_⟩|refine id ?_);refine gH ?_
             refine gX ?_
             refine aF hm fun hm=>?_;refine gH ?_
             exact jx ((v51.set x50 r17),(v48+1)) hm O
            ·refine gX ?_
             (first|refine⟨.inr (.inr (ae rfl (O.at (.head _)) rfl rfl)),?_⟩|refine⟨.inr (.inr (ae rfl (O.at (.tail _ (.head _))) rfl rfl)),?_⟩|refine⟨.inr (.inr (ae rfl (O.at (.tail _ (.tail _ (.head _)))) rfl rfl)),?_⟩|refine⟨.inr (.inr (ae rfl (O.at (.tail _ (.tail _ (.tail _ (.head _))))) rfl rfl)),?_⟩|refine⟨.inr (.inr (ae rfl (O.at (.tail _ (.tail _ (.tail _ (.tail _ (.head _)))))) rfl rfl)),?_⟩|refine⟨.inr (.inr (ae rfl (O.at (.tail _ (.tail _ (.tail _ (.tail _ (.tail _ (.head _))))))) rfl rfl)),?_⟩|refine⟨.inr (.inr (ae rfl (O.at (.tail _ (.tail _ (.tail _ (.tail _ (.tail _ (.tail _ (.head _)))))))) rfl rfl)),?_⟩|refine⟨.inl (Ext.refl _),?_⟩|refine⟨.inr (.inr rfl),?_⟩|refine⟨.inr (by kernel_rfl),?_⟩|refine⟨.inl (by kernel_rfl),?_⟩|refine id ?_);refine gH ?_
             refine ix 1 hm fun x80 hx80 hm=>?_;refine gH ?_
             refine O.stE 1 (.head _) hx80 x77 fun h O=>?_;refine gH ?_
             (first|refine⟨.inr (.inr (ae rfl (O.at (.head _)) rfl rfl)),?_⟩|refine⟨.inr (.inr (ae rfl (O.at (.tail _ (.head _))) rfl rfl)),?_⟩|refine⟨.inr (.inr (ae rfl (O.at (.tail _ (.tail _ (.head _)))) rfl rfl)),?_⟩|refine⟨.inr (.inr (ae rfl (O.at (.tail _ (.tail _ (.tail _ (.head _))))) rfl rfl)),?_⟩|refine⟨.inr (.inr (ae rfl (O.at (.tail _ (.tail _ (.tail _ (.tail _ (.head _)))))) rfl rfl)),?_⟩|refine⟨.inr (.inr (ae rfl (O.at (.tail _ (.tail _ (.tail _ (.tail _ (.tail _ (.head _))))))) rfl rfl)),?_⟩|refine⟨.inr (.inr (ae rfl (O.at (.tail _ (.tail _ (.tail _ (.tail _ (.tail _ (.tail _ (.head _)))))))) rfl rfl)),?_⟩|refine⟨.inl (Ext.refl _),?_⟩|refine⟨.inr (.inr rfl),?_⟩|refine⟨.inr (by kernel_rfl),?_⟩|refine⟨.inl (by kernel_rfl),?_⟩|refine id ?_);refine gH ?_
             refine gX ?_
             refine aF hm fun hm=>?_;refine gH ?_
             exact jx ((v51.set x50 x77),(v48+1)) hm O
         ·refine gX ?_
          exact jx v47 hm O
        ·clear hm;rintro v45 base h hm O
         refine gX ?_
         have O:=O.aG (.cells (flatC ((([]:List Nat)).map n8)) false)
         have O:=O.aG (.cells (flatC ((([]:List Nat)).map n8)) false)
         (first|refine O.new (ai (l:=[nS,nS]) rfl rfl rfl) fun g81 h O=>?_|refine O.bB (ai (l:=[nS,nS]) rfl rfl rfl) fun g81 h O=>?_);refine gH ?_
         refine jn (σ:=(List Nat)×Option Nat) hm 189 [0,4,5,16] (fun s=>s.1) (fun (v86,a85) h=>(a85=none->v86=[])/\Own vars h0 [(sC g24 (flatC (v45.map n8))),(sC g18 [(n8 r17)]),(sC g22 [nS,nS]),(sC g81 [(ah 1 a85 (v86.map n8)),(ah 1 none (([]:List Nat).map n8))]),(a85,.cells (flatC (v86.map n8)) false),(none,.cells (flatC (([]:List Nat).map n8)) false),(sC g1 [((ag 1 n8) r6.1.out),((ag 1 n8) r6.1.next)]),(sC g3 [nS,nS]),(sR g20 (cy p0 (.slice (some ⟨g24,0,none⟩) p0.nodes.length p0.nodes.length) (clo 110 [(FP (i64 p1.line.node)),(FP (i64 p1.other)),(pG g18)]) (clo 109 [])))] h) (fun (v86,a85)=>[]) (fun hm=>?_) ?_
         ·refine gX ?_
          refine lw 189 [0,4,5,16,143,144] (σ:=((List Nat)×Nat)×Option Nat) (fun s=>s.1) (fun ((v90,v91),a89) h=>(a89=none->v90=[])/\Own vars h0 [(sC g24 (flatC (v45.map n8))),(sC g18 [(n8 r17)]),(sC g22 [nS,nS]),(sC g81 [(ah 1 a89 (v90.map n8)),(ah 1 none (([]:List Nat).map n8))]),(a89,.cells (flatC (v90.map n8)) false),(none,.cells (flatC (([]:List Nat).map n8)) false),(sC g1 [((ag 1 n8) r6.1.out),((ag 1 n8) r6.1.next)]),(sC g3 [nS,nS]),(sR g20 (cy p0 (.slice (some ⟨g24,0,none⟩) p0.nodes.length p0.nodes.length) (clo 110 [(FP (i64 p1.line.node)),(FP (i64 p1.other)),(pG g18)]) (clo 109 [])))] h) (fun ((v90,v91),a89)=>[(145,(i64 v91))]) ((([]:List Nat),0),none) hm ⟨(fun _=>rfl),(O.sel [3,4,5,0,2,1,6,7,8] (by decide))⟩ ?_
          clear hm;rintro⟨⟨v90,v91⟩,a89⟩ nx93 base h hm ⟨ha92,O⟩
          refine gX ?_
          refine br hm (fun hm=>?_) fun hm=>?_
          ·refine gX ?_
           refine atF hm fun x94 hx94 hm=>?_;refine gX ?_
           refine ldO (O.at (.tail _ (.tail _ (.tail _ (.head _))))) ?_;refine gH ?_
           first|refine⟨.inr (.inr (ae rfl (O.at (.tail _ (.tail _ (.tail _ (.head _))))) rfl rfl)),?_⟩|refine⟨.inr (.inl (by kernel_rfl)),?_⟩
           refine gX ?_
           refine dF ?_
           refine gX ?_
           refine ix 1 hm fun x95 hx95 hm=>?_;refine gH ?_
           refine⟨_,ae rfl (O.at (.head _)) rfl (bd (enc:=n8) (s:=1) (k:=0) (fun _=>rfl) hx95 rfl),?_⟩;refine gH ?_
           refine O.bE (l:=([x95]:(List Nat))) (enc:=n8) (s:=1) (z:=(n8 0)) rfl rfl (by kernel_rfl) (by kernel_rfl) rfl rfl rfl rfl (fun _=>rfl) fun g96 h O=>?_;refine gH ?_
           refine O.bQ (enc:=n8) (l:=v90) (new:=([x95]:(List Nat))) (s:=1) (b:=1) (.tail _ (.tail _ (.tail _ (.tail _ (.tail _ (.head _)))))) ha92 rfl rfl rfl rfl rfl rfl rfl rfl (YOk.own (O.at (.head _)) rfl (fun _=>rfl) rfl) (fun _=>rfl) (fun _=>rfl) (by decide) hm.1 fun a98 h ha99 O=>?_;refine gH ?_
           (first|refine⟨.inr (.inr (ae rfl (O.at (.head _)) rfl rfl)),?_⟩|refine⟨.inr (.inr (ae rfl (O.at (.tail _ (.head _))) rfl rfl)),?_⟩|refine⟨.inr (.inr (ae rfl (O.at (.tail _ (.tail _ (.head _)))) rfl rfl)),?_⟩|refine⟨.inr (.inr (ae rfl (O.at (.tail _ (.tail _ (.tail _ (.head _))))) rfl rfl)),?_⟩|refine⟨.inr (.inr (ae rfl (O.at (.tail _ (.tail _ (.tail _ (.tail _ (.head _)))))) rfl rfl)),?_⟩|refine⟨.inr (.inr (ae rfl (O.at (.tail _ (.tail _ (.tail _ (.tail _ (.tail _ (.head _))))))) rfl rfl)),?_⟩|refine⟨.inr (.inr (ae rfl (O.at (.tail _ (.tail _ (.tail _ (.tail _ (.tail _ (.tail _ (.head _)))))))) rfl rfl)),?_⟩|refine⟨.inl (Ext.refl _),?_⟩|refine⟨.inr (.inr rfl),?_⟩|refine⟨.inr (by kernel_rfl),?_⟩|refine⟨.inl (by kernel_rfl),?_⟩|refine id ?_);refine gH ?_
           replace hm:=hm.2
           refine O.stC 1 (.tail _ (.tail _ (.tail _ (.tail _ (.head _))))) [(ah 1 a98 ((v90++([x95]:(List Nat))).map n8)),(ah 1 none (([]:List Nat).map n8))] fun h O=>?_;refine gH ?_
           (first|refine⟨.inr (.inr (ae rfl (O.at (.head _)) rfl rfl)),?_⟩|refine⟨.inr (.inr (ae rfl (O.at (.tail _ (.head _))) rfl rfl)),?_⟩|refine⟨.inr (.inr (ae rfl (O.at (.tail _ (.tail _ (.head _)))) rfl rfl)),?_⟩|refine⟨.inr (.inr (ae rfl (O.at (.tail _ (.tail _ (.tail _ (.head _))))) rfl rfl)),?_⟩|refine⟨.inr (.inr (ae rfl (O.at (.tail _ (.tail _ (.tail _ (.tail _ (.head _)))))) rfl rfl)),?_⟩|refine⟨.inr (.inr (ae rfl (O.at (.tail _ (.tail _ (.tail _ (.tail _ (.tail _ (.head _))))))) rfl rfl)),?_⟩|refine⟨.inr (.inr (ae rfl (O.at (.tail _ (.tail _ (.tail _ (.tail _ (.tail _ (.tail _ (.head _)))))))) rfl rfl)),?_⟩|refine⟨.inl (Ext.refl _),?_⟩|refine⟨.inr (.inr rfl),?_⟩|refine⟨.inr (by kernel_rfl),?_⟩|refine⟨.inl (by kernel_rfl),?_⟩|refine id ?_);refine gH ?_
           refine gX ?_
           refine aF hm fun hm=>?_;refine gH ?_
           exact jx (((v90++([x95]:(List Nat))),(v91+1)),a98) hm ⟨ha99,(O.sel [1,2,3,4,5,6,7,8,9] (by decide))⟩
          ·refine gX ?_
           exact jx (v90,a89) hm ⟨ha92,O⟩
         ·clear hm;rintro⟨v86,a85⟩ base h hm ⟨ha87,O⟩
          conv=>whnf
          refine jn (σ:=(List Nat)×Option Nat) hm 189 [4,16] (fun s=>s.1) (fun (v101,a100) h=>(a85=none->v86=[])/\(a100=none->v101=[])/\Own vars h0 [(sC g22 [nS,nS]),(sC g81 [(ah 1 a85 (v86.map n8)),(ah 1 a100 (v101.map n8))]),(a85,.cells (flatC (v86.map n8)) false),(a100,.cells (flatC (v101.map n8)) false),(sC g1 [((ag 1 n8) r6.1.out),((ag 1 n8) r6.1.next)]),(sC g3 [nS,nS]),(sR g20 (cy p0 (.slice (some ⟨g24,0,none⟩) p0.nodes.length p0.nodes.length) (clo 110 [(FP (i64 p1.line.node)),(FP (i64 p1.other)),(pG g18)]) (clo 109 []))),(sC g24 (flatC (v45.map n8))),(sC g18 [(n8 r17)])] h) (fun (v101,a100)=>[]) (fun hm=>?_) ?_
          ·refine gX ?_
           refine lw 189 [0,4,16,162,163] (σ:=((List Nat)×Nat)×Option Nat) (fun s=>s.1) (fun ((v106,v107),a105) h=>(a85=none->v86=[])/\(a105=none->v106=[])/\Own vars h0 [(sC g24 (flatC (v45.map n8))),(sC g18 [(n8 r17)]),(sC g22 [nS,nS]),(sC g81 [(ah 1 a85 (v86.map n8)),(ah 1 a105 (v106.map n8))]),(a85,.cells (flatC (v86.map n8)) false),(a105,.cells (flatC (v106.map n8)) false),(sC g1 [((ag 1 n8) r6.1.out),((ag 1 n8) r6.1.next)]),(sC g3 [nS,nS]),(sR g20 (cy p0 (.slice (some ⟨g24,0,none⟩) p0.nodes.length p0.nodes.length) (clo 110 [(FP (i64 p1.line.node)),(FP (i64 p1.other)),(pG g18)]) (clo 109 [])))] h) (fun ((v106,v107),a105)=>[(164,(i64 v107))]) ((([]:List Nat),0),none) hm ⟨ha87,(fun _=>rfl),O⟩ ?_
           clear hm;rintro⟨⟨v106,v107⟩,a105⟩ nx110 base h hm ⟨ha108,ha109,O⟩
           refine gX ?_
           refine br hm (fun hm=>?_) fun hm=>?_
           ·refine gX ?_
            refine atF hm fun x111 hx111 hm=>?_;refine gX ?_
            refine fg Tryz.func115 ?_;conv=>whnf
            apply Cs;conv=>whnf
            apply Cs;refine gH ?_
            have O:=O.aG (.cells (flatC ((([]:List Nat)).map n8)) false)
            apply Cs;conv=>whnf
            apply Cs;refine gH ?_
            have O:=O.aG (.cells (flatC ((([]:List Nat)).map n8)) false)
            refine jn (σ:=(List Nat)×Option Nat) hm 42 [] (fun s=>s.1) (fun (v115,a114) h=>(a114=none->v115=[])/\(a85=none->v86=[])/\(a105=none->v106=[])/\Own vars h0 [(a114,.cells (flatC (v115.map n8)) false),(sC g1 [((ag 1 n8) r6.1.out),((ag 1 n8) r6.1.next)]),(sC g3 [nS,nS]),(sR g20 (cy p0 (.slice (some ⟨g24,0,none⟩) p0.nodes.length p0.nodes.length) (clo 110 [(FP (i64 p1.line.node)),(FP (i64 p1.other)),(pG g18)]) (clo 109 []))),(sC g24 (flatC (v45.map n8))),(sC g18 [(n8 r17)]),(sC g22 [nS,nS]),(sC g81 [(ah 1 a85 (v86.map n8)),(ah 1 a105 (v106.map n8))]),(a85,.cells (flatC (v86.map n8)) false),(a105,.cells (flatC (v106.map n8)) false)] h) (fun (v115,a114)=>[(5,(ah 1 a114 (v115.map n8)))]) (fun hm=>?_) ?_
            ·refine gX ?_
             refine atF hm fun x120 hx120 hm=>?_;refine gX ?_
             refine lw 42 [0,1,16,17] (σ:=((List Nat)×Nat)×Option Nat) (fun s=>s.1) (fun ((v122,v123),a121) h=>(a121=none->v122=[])/\(a85=none->v86=[])/\(a105=none->v106=[])/\Own vars h0 [(sC g24 (flatC (v45.map n8))),(sC g18 [(n8 r17)]),(a121,.cells (flatC (v122.map n8)) false),(sC g1 [((ag 1 n8) r6.1.out),((ag 1 n8) r6.1.next)]),(sC g3 [nS,nS]),(sR g20 (cy p0 (.slice (some ⟨g24,0,none⟩) p0.nodes.length p0.nodes.length) (clo 110 [(FP (i64 p1.line.node)),(FP (i64 p1.other)),(pG g18)]) (clo 109 []))),(sC g22 [nS,nS]),(sC g81 [(ah 1 a85 (v86.map n8)),(ah 1 a105 (v106.map n8))]),(a85,.cells (flatC (v86.map n8)) false),(a105,.cells (flatC (v106.map n8)) false)] h) (fun ((v122,v123),a121)=>[(5,(ah 1 a121 (v122.map n8))),(18,(i64 v123))]) ((([]:List Nat),0),none) hm ⟨(fun _=>rfl),ha108,ha109,(O.sel [2,3,0,8,9,10,4,5,6,7] (by decide))⟩ ?_
             clear hm;rintro⟨⟨v122,v123⟩,a121⟩ nx127 base h hm ⟨ha124,ha125,ha126,O⟩
             refine gX ?_
             refine br hm (fun hm=>?_) fun hm=>?_
             ·refine gX ?_
              refine atF hm fun x128 hx128 hm=>?_;refine gX ?_
              refine dF ?_
              refine gX ?_
              refine dF ?_
              refine gX ?_
              refine ix 1 hm fun x129 hx129 hm=>?_;refine gH ?_
              refine⟨_,ae rfl (O.at (.head _)) rfl (bd (enc:=n8) (s:=1) (k:=0) (fun _=>rfl) hx129 rfl),?_⟩;refine gH ?_
              refine fg Tryz.func109 ?_;refine gX ?_
              (first|refine⟨.inr (.inr (ae rfl (O.at (.head _)) rfl rfl)),?_⟩|refine⟨.inr (.inr (ae rfl (O.at (.tail _ (.head _))) rfl rfl)),?_⟩|refine⟨.inr (.inr (ae rfl (O.at (.tail _ (.tail _ (.head _)))) rfl rfl)),?_⟩|refine⟨.inr (.inr (ae rfl (O.at (.tail _ (.tail _ (.tail _ (.head _))))) rfl rfl)),?_⟩|refine⟨.inr (.inr (ae rfl (O.at (.tail _ (.tail _ (.tail _ (.tail _ (.head _)))))) rfl rfl)),?_⟩|refine⟨.inr (.inr (ae rfl (O.at (.tail _ (.tail _ (.tail _ (.tail _ (.tail _ (.head _))))))) rfl rfl)),?_⟩|refine⟨.inr (.inr (ae rfl (O.at (.tail _ (.tail _ (.tail _ (.tail _ (.tail _ (.tail _ (.head _)))))))) rfl rfl)),?_⟩|refine⟨.inl (Ext.refl _),?_⟩|refine⟨.inr (.inr rfl),?_⟩|refine⟨.inr (by kernel_rfl),?_⟩|refine⟨.inl (by kernel_rfl),?_⟩|refine id ?_);refine gH ?_
              refine O.bE (l:=([x129]:(List Nat))) (enc:=n8) (s:=1) (z:=(n8 0)) rfl rfl (by kernel_rfl) (by kernel_rfl) rfl rfl rfl rfl (fun _=>rfl) fun g130 h O=>?_;refine gH ?_
              refine O.bQ (enc:=n8) (l:=v122) (new:=([x129]:(List Nat))) (s:=1) (b:=1) (.tail _ (.tail _ (.tail _ (.head _)))) ha124 rfl rfl rfl rfl rfl rfl rfl rfl (YOk.own (O.at (.head _)) rfl (fun _=>rfl) rfl) (fun _=>rfl) (fun _=>rfl) (by decide) hm.1 fun a132 h ha133 O=>?_;refine gH ?_
              (first|refine⟨.inr (.inr (ae rfl (O.at (.head _)) rfl rfl)),?_⟩|refine⟨.inr (.inr (ae rfl (O.at (.tail _ (.head _))) rfl rfl)),?_⟩|refine⟨.inr (.inr (ae rfl (O.at (.tail _ (.tail _ (.head _)))) rfl rfl)),?_⟩|refine⟨.inr (.inr (ae rfl (O.at (.tail _ (.tail _ (.tail _ (.head _))))) rfl rfl)),?_⟩|refine⟨.inr (.inr (ae rfl (O.at (.tail _ (.tail _ (.tail _ (.tail _ (.head _)))))) rfl rfl)),?_⟩|refine⟨.inr (.inr (ae rfl (O.at (.tail _ (.tail _ (.tail _ (.tail _ (.tail _ (.head _))))))) rfl rfl)),?_⟩|refine⟨.inr (.inr (ae rfl (O.at (.tail _ (.tail _ (.tail _ (.tail _ (.tail _ (.tail _ (.head _)))))))) rfl rfl)),?_⟩|refine⟨.inl (Ext.refl _),?_⟩|refine⟨.inr (.inr rfl),?_⟩|refine⟨.inr (by kernel_rfl),?_⟩|refine⟨.inl (by kernel_rfl),?_⟩|refine id ?_);refine gH ?_
              replace hm:=hm.2
              refine gX ?_
              refine aF hm fun hm=>?_;refine gH ?_
              exact jx (((v122++([x129]:(List Nat))),(v123+1)),a132) hm ⟨ha133,ha125,ha126,(O.sel [1,2,3,4,5,6,7,8,9,10] (by decide))⟩
             ·refine gX ?_
              exact jx (v122,a121) hm ⟨ha124,ha125,ha126,(O.sel [2,3,4,5,0,1,6,7,8,9] (by decide))⟩
            ·clear hm;rintro⟨v115,a114⟩ base h hm ⟨ha116,ha117,ha118,O⟩
             refine gX ?_
             obtain⟨x134,hx134,hm⟩:=hm
             have h9:=hm
             obtain⟨g135,rfl⟩:=ee ha116 hx134
             replace hm:=h9
             refine cU (s:=1) (j:=0) rfl rfl rfl rfl (by rw[List.length_map];exact ak hx134) ?_;refine gH ?_
             refine ldE (s:=1) (i:=0) (O.at (.head _)) hx134 ?_;refine gH ?_
             refine jn hm 189 [0,4,16,162,163,164] (fun s=>s) (fun v136 h=>(a85=none->v86=[])/\(a105=none->v106=[])/\Own vars h0 [(sC g24 (flatC (v45.map n8))),(sC g18 [(n8 r17)]),(sC g22 [nS,nS]),(sC g81 [(ah 1 a85 (v86.map n8)),(ah 1 a105 (v106.map n8))]),(a85,.cells (flatC (v86.map n8)) false),(a105,.cells (flatC (v106.map n8)) false),(sC g1 [((ag 1 n8) r6.1.out),((ag 1 n8) r6.1.next)]),(sC g3 [nS,nS]),(sR g20 (cy p0 (.slice (some ⟨g24,0,none⟩) p0.nodes.length p0.nodes.length) (clo 110 [(FP (i64 p1.line.node)),(FP (i64 p1.other)),(pG g18)]) (clo 109 [])))] h) (fun v136=>[(21,(n8 v136))]) (fun hm=>?_) ?_
             ·refine gX ?_
              refine br hm (fun hm=>?_) fun hm=>?_
              ·refine gX ?_
               exact jx 2 hm ⟨ha117,ha118,(O.sel [4,5,6,7,8,9,1,2,3] (by decide))⟩
              ·refine gX ?_
               exact jx x134 hm ⟨ha117,ha118,(O.sel [4,5,6,7,8,9,1,2,3] (by decide))⟩
             ·clear hm;rintro v136 base h hm ⟨ha137,ha138,O⟩
              refine gX ?_
              refine ldO (O.at (.tail _ (.tail _ (.tail _ (.head _))))) ?_;refine gH ?_
              refine fz ?_;refine gH ?_
              refine O.apL (enc:=n8) (l:=v106) (new:=([v136]:(List Nat))) 1 (.tail _ (.tail _ (.tail _ (.tail _ (.tail _ (.head _)))))) ha138 hm fun a140 h ha141 O hm=>?_;refine gH ?_
              refine O.stC 1 (.tail _ (.tail _ (.tail _ (.head _)))) [(ah 1 a85 (v86.map n8)),(ah 1 a140 ((v106++([v136]:(List Nat))).map n8))] fun h O=>?_;refine gX ?_
              refine aF hm fun hm=>?_;refine gH ?_
              exact jx (((v106++([v136]:(List Nat))),(v107+1)),a140) hm ⟨ha137,ha141,O⟩
           ·refine gX ?_
            exact jx (v106,a105) hm ⟨ha108,ha109,(O.sel [2,3,4,5,6,7,8,0,1] (by decide))⟩
          ·clear hm;rintro⟨v101,a100⟩ base h hm ⟨ha102,ha103,O⟩
           refine gX ?_
           first|refine⟨.inr (.inr (ae rfl (O.at (.tail _ (.head _))) rfl rfl)),?_⟩|refine⟨.inr (.inl (by kernel_rfl)),?_⟩
           refine gX ?_
           refine fg Tryz.func73 ?_;refine gX ?_
           refine gK (s:=1) (enc:=n8) (l:=v86) (n:=v86.length) (m:=v86.length) rfl rfl rfl rfl rfl rfl rfl ?_;refine gX ?_
           (first|refine⟨.inr (.inr (ae rfl (O.at (.head _)) rfl rfl)),?_⟩|refine⟨.inr (.inr (ae rfl (O.at (.tail _ (.head _))) rfl rfl)),?_⟩|refine⟨.inr (.inr (ae rfl (O.at (.tail _ (.tail _ (.head _)))) rfl rfl)),?_⟩|refine⟨.inr (.inr (ae rfl (O.at (.tail _ (.tail _ (.tail _ (.head _))))) rfl rfl)),?_⟩|refine⟨.inr (.inr (ae rfl (O.at (.tail _ (.tail _ (.tail _ (.tail _ (.head _)))))) rfl rfl)),?_⟩|refine⟨.inr (.inr (ae rfl (O.at (.tail _ (.tail _ (.tail _ (.tail _ (.tail _ (.head _))))))) rfl rfl)),?_⟩|refine⟨.inr (.inr (ae rfl (O.at (.tail _ (.tail _ (.tail _ (.tail _ (.tail _ (.tail _ (.head _)))))))) rfl rfl)),?_⟩|refine⟨.inl (Ext.refl _),?_⟩|refine⟨.inr (.inr rfl),?_⟩|refine⟨.inr (by kernel_rfl),?_⟩|refine⟨.inl (by kernel_rfl),?_⟩|refine id ?_);refine gH ?_
           first|refine⟨.inr (.inr (ae rfl (O.at (.tail _ (.head _))) rfl rfl)),?_⟩|refine⟨.inr (.inl (by kernel_rfl)),?_⟩
           refine gX ?_
           refine fg Tryz.func73 ?_;refine gX ?_
           refine gK (s:=1) (enc:=n8) (l:=v101) (n:=v101.length) (m:=v101.length) rfl rfl rfl rfl rfl rfl rfl ?_;refine gX ?_
           (first|refine⟨.inr (.inr (ae rfl (O.at (.head _)) rfl rfl)),?_⟩|refine⟨.inr (.inr (ae rfl (O.at (.tail _ (.head _))) rfl rfl)),?_⟩|refine⟨.inr (.inr (ae rfl (O.at (.tail _ (.tail _ (.head _)))) rfl rfl)),?_⟩|refine⟨.inr (.inr (ae rfl (O.at (.tail _ (.tail _ (.tail _ (.head _))))) rfl rfl)),?_⟩|refine⟨.inr (.inr (ae rfl (O.at (.tail _ (.tail _ (.tail _ (.tail _ (.head _)))))) rfl rfl)),?_⟩|refine⟨.inr (.inr (ae rfl (O.at (.tail _ (.tail _ (.tail _ (.tail _ (.tail _ (.head _))))))) rfl rfl)),?_⟩|refine⟨.inr (.inr (ae rfl (O.at (.tail _ (.tail _ (.tail _ (.tail _ (.tail _ (.tail _ (.head _)))))))) rfl rfl)),?_⟩|refine⟨.inl (Ext.refl _),?_⟩|refine⟨.inr (.inr rfl),?_⟩|refine⟨.inr (by kernel_rfl),?_⟩|refine⟨.inl (by kernel_rfl),?_⟩|refine id ?_);refine gH ?_
           refine O.stC 2 (.head _) [(bN a85 (v86.map n8)),(bN a100 (v101.map n8))] fun h O=>?_;refine gH ?_
           (first|refine⟨.inr (.inr (ae rfl (O.at (.head _)) rfl rfl)),?_⟩|refine⟨.inr (.inr (ae rfl (O.at (.tail _ (.head _))) rfl rfl)),?_⟩|refine⟨.inr (.inr (ae rfl (O.at (.tail _ (.tail _ (.head _)))) rfl rfl)),?_⟩|refine⟨.inr (.inr (ae rfl (O.at (.tail _ (.tail _ (.tail _ (.head _))))) rfl rfl)),?_⟩|refine⟨.inr (.inr (ae rfl (O.at (.tail _ (.tail _ (.tail _ (.tail _ (.head _)))))) rfl rfl)),?_⟩|refine⟨.inr (.inr (ae rfl (O.at (.tail _ (.tail _ (.tail _ (.tail _ (.tail _ (.head _))))))) rfl rfl)),?_⟩|refine⟨.inr (.inr (ae rfl (O.at (.tail _ (.tail _ (.tail _ (.tail _ (.tail _ (.tail _ (.head _)))))))) rfl rfl)),?_⟩|refine⟨.inl (Ext.refl _),?_⟩|refine⟨.inr (.inr rfl),?_⟩|refine⟨.inr (by kernel_rfl),?_⟩|refine⟨.inl (by kernel_rfl),?_⟩|refine id ?_);refine gH ?_
           refine gX ?_
           refine⟨_,aD rfl rfl (O.at (.head _)) rfl rfl (lbE rfl) rfl,?_⟩;refine gX ?_
           refine O.stC 2 (.tail _ (.tail _ (.tail _ (.tail _ (.tail _ (.head _)))))) [(bN a85 (v86.map n8)),(bN a100 (v101.map n8))] fun h O=>?_;refine gX ?_
           refine ldA (O.at (.tail _ (.tail _ (.tail _ (.tail _ (.head _)))))) ?_;refine gH ?_
           first|refine⟨.inr (.inr (bg rfl (O.at (.tail _ (.tail _ (.tail _ (.tail _ (.head _)))))) rfl rfl (lbE rfl) rfl)),?_⟩|refine⟨.inr (.inl (by kernel_rfl)),?_⟩
           refine gX ?_
           refine ldA (O.at (.tail _ (.tail _ (.tail _ (.tail _ (.tail _ (.head _))))))) ?_;refine gH ?_
           first|refine⟨.inr (.inr (bg rfl (O.at (.tail _ (.tail _ (.tail _ (.tail _ (.tail _ (.head _))))))) rfl rfl (lbE rfl) rfl)),?_⟩|refine⟨.inr (.inl (by kernel_rfl)),?_⟩
           refine gX ?_
           refine ldO (O.at (.tail _ (.tail _ (.tail _ (.tail _ (.tail _ (.tail _ (.head _)))))))) ?_;refine gH ?_
           first|refine⟨.inr (.inr (ae rfl (O.at (.tail _ (.tail _ (.tail _ (.tail _ (.tail _ (.tail _ (.head _)))))))) rfl rfl)),?_⟩|refine⟨.inr (.inl (by kernel_rfl)),?_⟩
           refine gX ?_
           refine O.gN 2 (.tail _ (.tail _ (.tail _ (.tail _ (.head _))))) fun h hext O=>?_;conv=>whnf
           refine⟨.inr hext,?_⟩;refine gH ?_
           refine O.gN 2 (.tail _ (.tail _ (.tail _ (.tail _ (.tail _ (.head _)))))) fun h hext O=>?_;conv=>whnf
           refine⟨.inr hext,?_⟩;refine gX ?_
           refine⟨_,aD rfl rfl (O.at (.tail _ (.tail _ (.tail _ (.tail _ (.head _)))))) rfl rfl (lbE rfl) rfl,?_⟩;conv=>whnf
           refine⟨_,aD rfl rfl (O.at (.tail _ (.tail _ (.tail _ (.tail _ (.tail _ (.head _))))))) rfl rfl (lbE rfl) rfl,?_⟩;conv=>whnf
           obtain⟨hn142,hm⟩:=hm
           exact⟨(r6.1,(⟨v86,v101⟩:Rsp),v45,0),hm,O.ext,fun h2 F=>VLe.tup (LLe.cons (VLe.refl _ _) (LLe.cons (VLe.agg (LLe.cons (O.iH F (Nat.le_refl _) (.tail _ (.tail _ (.head _))) ha102 (fun _=>rfl)) (LLe.cons (O.iH F (Nat.le_refl _) (.tail _ (.tail _ (.tail _ (.head _)))) ha103 (fun _=>rfl)) (LLe.nil _)))) (LLe.cons (O.fY F (Nat.le_refl _) (.tail _ (.tail _ (.tail _ (.tail _ (.tail _ (.tail _ (.tail _ (.head _)))))))) (fun _=>rfl) hn142) (LLe.cons (VLe.refl _ _) (LLe.nil _)))))⟩
    ·refine gX ?_
     refine br hm (fun hm=>?_) fun hm=>?_
     ·refine gX ?_
      refine fg Tryz.func111 ?_;refine gX ?_
      refine fz ?_;refine gH ?_
      refine fz ?_;refine gH ?_
      (first|refine O.new (lH rfl) fun g143 h O=>?_|refine O.bB (lH rfl) fun g143 h O=>?_);refine gH ?_
      refine gX ?_
      (first|refine O.new (lH rfl) fun g145 h O=>?_|refine O.bB (lH rfl) fun g145 h O=>?_);refine gH ?_
      refine gX ?_
      refine br hm (fun hm=>?_) fun hm=>?_
      ·refine gX ?_
       refine O.stC 1 (.head _) (cy p0 nS (clo 135 [(FP (az p1.line)),(pG g143)]) (clo 109 [])) fun h O=>?_;refine gX ?_
       refine fg Tryz.func75 ?_;refine gX ?_
       refine fz ?_;refine gH ?_
       (first|refine O.new (ai (l:=[nS,nS]) rfl rfl rfl) fun g147 h O=>?_|refine O.bB (ai (l:=[nS,nS]) rfl rfl rfl) fun g147 h O=>?_);refine gH ?_
       refine gX ?_
       refine O.mkL (enc:=n8) 1 1 0 hm fun g149 h O hm=>?_;refine gH ?_
       refine O.stC 1 (.tail _ (.tail _ (.head _))) (cy p0 (.slice (some ⟨g149,0,none⟩) p0.nodes.length p0.nodes.length) (clo 135 [(FP (az p1.line)),(pG g143)]) (clo 109 [])) fun h O=>?_;refine gH ?_
       apply Cs;conv=>whnf
       refine CodeS.pF O (.tail _ (.tail _ (.head _))) 0 rfl rfl fun h O=>?_;refine gX ?_
       refine ca (aR hm O.has) fun r151 hm=>?_;refine gH ?_
       refine jn hm 189 [0,3,4,5] (fun s=>s) (fun v152 h=>Own vars h0 [(sC g149 (flatC (v152.map n8))),(sC g143 [(clo 112 [(FP ((ag 1 n8) r6.2.1)),(pG g9)])]),(sC g9 [(i64 p1.other)]),(sC g147 [nS,nS]),(sC g1 [((ag 1 n8) r6.1.out),((ag 1 n8) r6.1.next)]),(sC g3 [nS,nS]),(sR g145 (cy p0 (.slice (some ⟨g149,0,none⟩) p0.nodes.length p0.nodes.length) (clo 135 [(FP (az p1.line)),(pG g143)]) (clo 109 [])))] h) (fun v152=>[]) (fun hm=>?_) ?_
       ·refine gX ?_
        refine ca (bG hm O.has) fun r154 hm=>?_;refine gX ?_
        refine lw 189 [0,3,4,5,41,42] (σ:=((List Nat)×Nat)) (fun s=>s) (fun (v155,v156) h=>Own vars h0 [(sC g149 (flatC (v155.map n8))),(sC g143 [(clo 112 [(FP ((ag 1 n8) r6.2.1)),(pG g9)])]),(sC g9 [(i64 p1.other)]),(sC g147 [nS,nS]),(sC g1 [((ag 1 n8) r6.1.out),((ag 1 n8) r6.1.next)]),(sC g3 [nS,nS]),(sR g145 (cy p0 (.slice (some ⟨g149,0,none⟩) p0.nodes.length p0.nodes.length) (clo 135 [(FP (az p1.line)),(pG g143)]) (clo 109 [])))] h) (fun (v155,v156)=>[(43,(i64 v156))]) ((List.replicate p0.nodes.length (0:Nat)),0) hm (O.sel [0,3,4,1,7,6,2] (by decide)) ?_
        clear hm;rintro⟨v155,v156⟩ nx157 base h hm O
        refine gX ?_
        refine br hm (fun hm=>?_) fun hm=>?_
        ·refine gX ?_
         refine atF hm fun x158 hx158 hm=>?_;refine gX ?_
         refine dF ?_
         refine gX ?_
         refine dF ?_
         refine gX ?_
         refine atF hm fun x159 hx159 hm=>?_;refine gH ?_
         refine ix 1 hm fun x160 hx160 hm=>?_;refine gH ?_
         refine O.stE 1 (.head _) hx160 x159 fun h O=>?_;refine gH ?_
         (first|refine⟨.inr (.inr (ae rfl (O.at (.head _)) rfl rfl)),?_⟩|refine⟨.inr (.inr (ae rfl (O.at (.tail _ (.head _))) rfl rfl)),?_⟩|refine⟨.inr (.inr (ae rfl (O.at (.tail _ (.tail _ (.head _)))) rfl rfl)),?_⟩|refine⟨.inr (.inr (ae rfl (O.at (.tail _ (.tail _ (.tail _ (.head _))))) rfl rfl)),?_⟩|refine⟨.inr (.inr (ae rfl (O.at (.tail _ (.tail _ (.tail _ (.tail _ (.head _)))))) rfl rfl)),?_⟩|refine⟨.inr (.inr (ae rfl (O.at (.tail _ (.tail _ (.tail _ (.tail _ (.tail _ (.head _))))))) rfl rfl)),?_⟩|refine⟨.inr (.inr (ae rfl (O.at (.tail _ (.tail _ (.tail _ (.tail _ (.tail _ (.tail _ (.head _)))))))) rfl rfl)),?_⟩|refine⟨.inl (Ext.refl _),?_⟩|refine⟨.inr (.inr rfl),?_⟩|refine⟨.inr (by kernel_rfl),?_⟩|refine⟨.inl (by kernel_rfl),?_⟩|refine id ?_);refine gH ?_
         refine gX ?_
         refine aF hm fun hm=>?_;refine gH ?_
         exact jx ((v155.set x158 x159),(v156+1)) hm O
        ·refine gX ?_
         exact jx v155 hm O
       ·clear hm;rintro v152 base h hm O
        conv=>whnf
        refine jn hm 189 [0,4,5] (fun s=>s) (fun v161 h=>Own vars h0 [(sC g149 (flatC (v161.map n8))),(sC g143 [(clo 112 [(FP ((ag 1 n8) r6.2.1)),(pG g9)])]),(sC g9 [(i64 p1.other)]),(sC g147 [nS,nS]),(sC g1 [((ag 1 n8) r6.1.out),((ag 1 n8) r6.1.next)]),(sC g3 [nS,nS]),(sR g145 (cy p0 (.slice (some ⟨g149,0,none⟩) p0.nodes.length p0.nodes.length) (clo 135 [(FP (az p1.line)),(pG g143)]) (clo 109 [])))] h) (fun v161=>[]) (fun hm=>?_) ?_
        ·refine gX ?_
         refine lw 189 [0,3,4,5,60,61] (σ:=((List Nat)×Nat)) (fun s=>s) (fun (v163,v164) h=>Own vars h0 [(sC g149 (flatC (v163.map n8))),(sC g143 [(clo 112 [(FP ((ag 1 n8) r6.2.1)),(pG g9)])]),(sC g9 [(i64 p1.other)]),(sC g147 [nS,nS]),(sC g1 [((ag 1 n8) r6.1.out),((ag 1 n8) r6.1.next)]),(sC g3 [nS,nS]),(sR g145 (cy p0 (.slice (some ⟨g149,0,none⟩) p0.nodes.length p0.nodes.length) (clo 135 [(FP (az p1.line)),(pG g143)]) (clo 109 [])))] h) (fun (v163,v164)=>[(62,(i64 v164))]) (v152,0) hm O ?_
         clear hm;rintro⟨v163,v164⟩ nx165 base h hm O
         refine gX ?_
         refine br hm (fun hm=>?_) fun hm=>?_
         ·refine gX ?_
          refine atF hm fun x166 hx166 hm=>?_;refine gX ?_
          refine dF ?_
          refine gX ?_
          refine dF ?_
          refine gX ?_
          refine atF hm fun x167 hx167 hm=>?_;refine gH ?_
          refine ix 1 hm fun x168 hx168 hm=>?_;refine gH ?_
          refine O.stE 1 (.head _) hx168 x167 fun h O=>?_;refine gH ?_
          (first|refine⟨.inr (.inr (ae rfl (O.at (.head _)) rfl rfl)),?_⟩|refine⟨.inr (.inr (ae rfl (O.at (.tail _ (.head _))) rfl rfl)),?_⟩|refine⟨.inr (.inr (ae rfl (O.at (.tail _ (.tail _ (.head _)))) rfl rfl)),?_⟩|refine⟨.inr (.inr (ae rfl (O.at (.tail _ (.tail _ (.tail _ (.head _))))) rfl rfl)),?_⟩|refine⟨.inr (.inr (ae rfl (O.at (.tail _ (.tail _ (.tail _ (.tail _ (.head _)))))) rfl rfl)),?_⟩|refine⟨.inr (.inr (ae rfl (O.at (.tail _ (.tail _ (.tail _ (.tail _ (.tail _ (.head _))))))) rfl rfl)),?_⟩|refine⟨.inr (.inr (ae rfl (O.at (.tail _ (.tail _ (.tail _ (.tail _ (.tail _ (.tail _ (.head _)))))))) rfl rfl)),?_⟩|refine⟨.inl (Ext.refl _),?_⟩|refine⟨.inr (.inr rfl),?_⟩|refine⟨.inr (by kernel_rfl),?_⟩|refine⟨.inl (by kernel_rfl),?_⟩|refine id ?_);refine gH ?_
          refine gX ?_
          refine aF hm fun hm=>?_;refine gH ?_
          exact jx ((v163.set x166 x167),(v164+1)) hm O
         ·refine gX ?_
          exact jx v163 hm O
        ·clear hm;rintro v161 base h hm O
         refine gX ?_
         refine ca (cg hm O.has) fun r169 hm=>?_;refine gH ?_
         apply Cs;conv=>whnf
         apply Cs;refine gH ?_
         refine jn hm 189 [0,4,5] (fun s=>s) (fun v170 h=>Own vars h0 [(sC g149 (flatC (v170.map n8))),(sC g143 [(clo 112 [(FP ((ag 1 n8) r6.2.1)),(pG g9)])]),(sC g9 [(i64 p1.other)]),(sC g147 [nS,nS]),(sC g1 [((ag 1 n8) r6.1.out),((ag 1 n8) r6.1.next)]),(sC g3 [nS,nS]),(sR g145 (cy p0 (.slice (some ⟨g149,0,none⟩) p0.nodes.length p0.nodes.length) (clo 135 [(FP (az p1.line)),(pG g143)]) (clo 109 [])))] h) (fun v170=>[]) (fun hm=>?_) ?_
         ·refine gX ?_
          refine lw 189 [0,4,5,12,89,90] (σ:=((List Nat)×Nat)) (fun s=>s) (fun (v172,v173) h=>Own vars h0 [(sC g149 (flatC (v172.map n8))),(sC g143 [(clo 112 [(FP ((ag 1 n8) r6.2.1)),(pG g9)])]),(sC g9 [(i64 p1.other)]),(sC g147 [nS,nS]),(sC g1 [((ag 1 n8) r6.1.out),((ag 1 n8) r6.1.next)]),(sC g3 [nS,nS]),(sR g145 (cy p0 (.slice (some ⟨g149,0,none⟩) p0.nodes.length p0.nodes.length) (clo 135 [(FP (az p1.line)),(pG g143)]) (clo 109 [])))] h) (fun (v172,v173)=>[(91,(i64 v173))]) (v161,0) hm O ?_
          clear hm;rintro⟨v172,v173⟩ nx174 base h hm O
          refine gX ?_
          refine br hm (fun hm=>?_) fun hm=>?_
          ·refine gX ?_
           refine atF hm fun x175 hx175 hm=>?_;refine gH ?_
           refine jn hm 189 [0,4,5,12,14,89,90,91] (fun s=>s) (fun v176 h=>Own vars h0 [(sC g149 (flatC (v176.map n8))),(sC g143 [(clo 112 [(FP ((ag 1 n8) r6.2.1)),(pG g9)])]),(sC g9 [(i64 p1.other)]),(sC g147 [nS,nS]),(sC g1 [((ag 1 n8) r6.1.out),((ag 1 n8) r6.1.next)]),(sC g3 [nS,nS]),(sR g145 (cy p0 (.slice (some ⟨g149,0,none⟩) p0.nodes.length p0.nodes.length) (clo 135 [(FP (az p1.line)),(pG g143)]) (clo 109 [])))] h) (fun v176=>[]) (fun hm=>?_) ?_
           ·refine gX ?_
            refine atF hm fun x178 hx178 hm=>?_;refine gH ?_
            refine jn hm 189 [0,4,5,12,14,89,90,91] (fun s=>s) (fun v179 h=>Own vars h0 [(sC g149 (flatC (v172.map n8))),(sC g143 [(clo 112 [(FP ((ag 1 n8) r6.2.1)),(pG g9)])]),(sC g9 [(i64 p1.other)]),(sC g147 [nS,nS]),(sC g1 [((ag 1 n8) r6.1.out),((ag 1 n8) r6.1.next)]),(sC g3 [nS,nS]),(sR g145 (cy p0 (.slice (some ⟨g149,0,none⟩) p0.nodes.length p0.nodes.length) (clo 135 [(FP (az p1.line)),(pG g143)]) (clo 109 [])))] h) (fun v179=>[(109,(.bool v179))]) (fun hm=>?_) ?_
            ·refine gX ?_
             refine br hm (fun hm=>?_) fun hm=>?_
             ·refine gX ?_
              exact jx (neN x178.kind 14) hm O
             ·refine gX ?_
              exact jx false hm O
            ·clear hm;rintro v179 base h hm O
             refine gX ?_
             refine br hm (fun hm=>?_) fun hm=>?_
             ·refine CodeS.jc ?_;refine gH ?_
              refine fg Tryz.func114 ?_;conv=>whnf
              apply Cs;conv=>whnf
              apply Cs;refine gH ?_
              apply Cs;conv=>whnf
              refine CodeS.jc ?_;refine gH ?_
              refine atF hm fun x181 hx181 hm=>?_;refine gH ?_
              refine fg Tryz.func115 ?_;conv=>whnf
              apply Cs;conv=>whnf
              apply Cs;refine gH ?_
              have O:=O.aG (.cells (flatC ((([]:List Nat)).map n8)) false)
              apply Cs;conv=>whnf
              apply Cs;refine gH ?_
              have O:=O.aG (.cells (flatC ((([]:List Nat)).map n8)) false)
              refine jn (σ:=(List Nat)×Option Nat) hm 42 [] (fun s=>s.1) (fun (v185,a184) h=>(a184=none->v185=[])/\Own vars h0 [(a184,.cells (flatC (v185.map n8)) false),(sC g1 [((ag 1 n8) r6.1.out),((ag 1 n8) r6.1.next)]),(sC g3 [nS,nS]),(sR g145 (cy p0 (.slice (some ⟨g149,0,none⟩) p0.nodes.length p0.nodes.length) (clo 135 [(FP (az p1.line)),(pG g143)]) (clo 109 []))),(sC g149 (flatC (v172.map n8))),(sC g143 [(clo 112 [(FP ((ag 1 n8) r6.2.1)),(pG g9)])]),(sC g9 [(i64 p1.other)]),(sC g147 [nS,nS])] h) (fun (v185,a184)=>[(5,(ah 1 a184 (v185.map n8)))]) (fun hm=>?_) ?_
              ·refine gX ?_
               refine atF hm fun x188 hx188 hm=>?_;refine gX ?_
               refine lw 42 [0,1,16,17] (σ:=((List Nat)×Nat)×Option Nat) (fun s=>s.1) (fun ((v190,v191),a189) h=>(a189=none->v190=[])/\Own vars h0 [(sC g149 (flatC (v172.map n8))),(sC g143 [(clo 112 [(FP ((ag 1 n8) r6.2.1)),(pG g9)])]),(sC g9 [(i64 p1.other)]),(a189,.cells (flatC (v190.map n8)) false),(sC g1 [((ag 1 n8) r6.1.out),((ag 1 n8) r6.1.next)]),(sC g3 [nS,nS]),(sR g145 (cy p0 (.slice (some ⟨g149,0,none⟩) p0.nodes.length p0.nodes.length) (clo 135 [(FP (az p1.line)),(pG g143)]) (clo 109 []))),(sC g147 [nS,nS])] h) (fun ((v190,v191),a189)=>[(5,(ah 1 a189 (v190.map n8))),(18,(i64 v191))]) ((([]:List Nat),0),none) hm ⟨(fun _=>rfl),(O.sel [2,3,4,0,6,7,8,5] (by decide))⟩ ?_
               clear hm;rintro⟨⟨v190,v191⟩,a189⟩ nx193 base h hm ⟨ha192,O⟩
               refine gX ?_
               refine br hm (fun hm=>?_) fun hm=>?_
               ·refine gX ?_
                refine atF hm fun x194 hx194 hm=>?_;refine gX ?_
                refine dF ?_
                refine gX ?_
                refine dF ?_
                refine gX ?_
                refine ix 1 hm fun x195 hx195 hm=>?_;refine gH ?_
                refine⟨_,ae rfl (O.at (.head _)) rfl (bd (enc:=n8) (s:=1) (k:=0) (fun _=>rfl) hx195 rfl),?_⟩;refine gH ?_
                refine fg Tryz.func109 ?_;refine gX ?_
                (first|refine⟨.inr (.inr (ae rfl (O.at (.head _)) rfl rfl)),?_⟩|refine⟨.inr (.inr (ae rfl (O.at (.tail _ (.head _))) rfl rfl)),?_⟩|refine⟨.inr (.inr (ae rfl (O.at (.tail _ (.tail _ (.head _)))) rfl rfl)),?_⟩|refine⟨.inr (.inr (ae rfl (O.at (.tail _ (.tail _ (.tail _ (.head _))))) rfl rfl)),?_⟩|refine⟨.inr (.inr (ae rfl (O.at (.tail _ (.tail _ (.tail _ (.tail _ (.head _)))))) rfl rfl)),?_⟩|refine⟨.inr (.inr (ae rfl (O.at (.tail _ (.tail _ (.tail _ (.tail _ (.tail _ (.head _))))))) rfl rfl)),?_⟩|refine⟨.inr (.inr (ae rfl (O.at (.tail _ (.tail _ (.tail _ (.tail _ (.tail _ (.tail _ (.head _)))))))) rfl rfl)),?_⟩|refine⟨.inl (Ext.refl _),?_⟩|refine⟨.inr (.inr rfl),?_⟩|refine⟨.inr (by kernel_rfl),?_⟩|refine⟨.inl (by kernel_rfl),?_⟩|refine id ?_);refine gH ?_
                refine O.bE (l:=([x195]:(List Nat))) (enc:=n8) (s:=1) (z:=(n8 0)) rfl rfl (by kernel_rfl) (by kernel_rfl) rfl rfl rfl rfl (fun _=>rfl) fun g196 h O=>?_;refine gH ?_
                refine O.bQ (enc:=n8) (l:=v190) (new:=([x195]:(List Nat))) (s:=1) (b:=1) (.tail _ (.tail _ (.tail _ (.tail _ (.head _))))) ha192 rfl rfl rfl rfl rfl rfl rfl rfl (YOk.own (O.at (.head _)) rfl (fun _=>rfl) rfl) (fun _=>rfl) (fun _=>rfl) (by decide) hm.1 fun a198 h ha199 O=>?_;refine gH ?_
                (first|refine⟨.inr (.inr (ae rfl (O.at (.head _)) rfl rfl)),?_⟩|refine⟨.inr (.inr (ae rfl (O.at (.tail _ (.head _))) rfl rfl)),?_⟩|refine⟨.inr (.inr (ae rfl (O.at (.tail _ (.tail _ (.head _)))) rfl rfl)),?_⟩|refine⟨.inr (.inr (ae rfl (O.at (.tail _ (.tail _ (.tail _ (.head _))))) rfl rfl)),?_⟩|refine⟨.inr (.inr (ae rfl (O.at (.tail _ (.tail _ (.tail _ (.tail _ (.head _)))))) rfl rfl)),?_⟩|refine⟨.inr (.inr (ae rfl (O.at (.tail _ (.tail _ (.tail _ (.tail _ (.tail _ (.head _))))))) rfl rfl)),?_⟩|refine⟨.inr (.inr (ae rfl (O.at (.tail _ (.tail _ (.tail _ (.tail _ (.tail _ (.tail _ (.head _)))))))) rfl rfl)),?_⟩|refine⟨.inl (Ext.refl _),?_⟩|refine⟨.inr (.inr rfl),?_⟩|refine⟨.inr (by kernel_rfl),?_⟩|refine⟨.inl (by kernel_rfl),?_⟩|refine id ?_);refine gH ?_
                replace hm:=hm.2
                refine gX ?_
                refine aF hm fun hm=>?_;refine gH ?_
                exact jx (((v190++([x195]:(List Nat))),(v191+1)),a198) hm ⟨ha199,(O.sel [1,2,3,4,5,6,7,8] (by decide))⟩
               ·refine gX ?_
                exact jx (v190,a189) hm ⟨ha192,(O.sel [3,4,5,6,0,1,2,7] (by decide))⟩
              ·clear hm;rintro⟨v185,a184⟩ base h hm ⟨ha186,O⟩
               refine gX ?_
               refine CallD.yX (fun _ hb=>cH hm hb) (fun _=>js rfl) oy O.has (fun h2 F=>(LLe.cons (VLe.refl _ _) (LLe.cons (O.eY F (Nat.zero_le _) (.head _) ha186 (fun _=>rfl)) (LLe.nil _)))) (by kernel_rfl) (fun r200 hm'=>?_);replace hm:=hm';refine gX ?_
               refine ix 1 hm fun x201 hx201 hm=>?_;refine gH ?_
               refine O.stE 1 (.tail _ (.tail _ (.tail _ (.tail _ (.head _))))) hx201 r200 fun h O=>?_;refine gH ?_
               exact jx (v172.set x175 r200) hm (O.sel [4,5,6,7,1,2,3] (by decide))
             ·refine gX ?_
              exact jx v172 hm O
           ·clear hm;rintro v176 base h hm O
            refine gX ?_
            refine dF ?_
            refine gX ?_
            refine dF ?_
            refine gX ?_
            refine dF ?_
            refine gX ?_
            refine ix 1 hm fun x202 hx202 hm=>?_;refine gH ?_
            refine⟨_,ae rfl (O.at (.head _)) rfl (bd (enc:=n8) (s:=1) (k:=0) (fun _=>rfl) hx202 rfl),?_⟩;refine gH ?_
            refine fg Tryz.func135 ?_;refine gX ?_
            refine br hm (fun hm=>?_) fun hm=>?_
            ·refine gX ?_
             refine fg Tryz.func112 ?_;refine gX ?_
             refine atF hm fun x203 hx203 hm=>?_;refine gX ?_
             (first|refine⟨.inr (.inr (ae rfl (O.at (.head _)) rfl rfl)),?_⟩|refine⟨.inr (.inr (ae rfl (O.at (.tail _ (.head _))) rfl rfl)),?_⟩|refine⟨.inr (.inr (ae rfl (O.at (.tail _ (.tail _ (.head _)))) rfl rfl)),?_⟩|refine⟨.inr (.inr (ae rfl (O.at (.tail _ (.tail _ (.tail _ (.head _))))) rfl rfl)),?_⟩|refine⟨.inr (.inr (ae rfl (O.at (.tail _ (.tail _ (.tail _ (.tail _ (.head _)))))) rfl rfl)),?_⟩|refine⟨.inr (.inr (ae rfl (O.at (.tail _ (.tail _ (.tail _ (.tail _ (.tail _ (.head _))))))) rfl rfl)),?_⟩|refine⟨.inr (.inr (ae rfl (O.at (.tail _ (.tail _ (.tail _ (.tail _ (.tail _ (.tail _ (.head _)))))))) rfl rfl)),?_⟩|refine⟨.inl (Ext.refl _),?_⟩|refine⟨.inr (.inr rfl),?_⟩|refine⟨.inr (by kernel_rfl),?_⟩|refine⟨.inl (by kernel_rfl),?_⟩|refine id ?_);refine gH ?_
             refine ix 1 hm fun x204 hx204 hm=>?_;refine gH ?_
             refine O.stE 1 (.head _) hx204 x203 fun h O=>?_;refine gH ?_
             (first|refine⟨.inr (.inr (ae rfl (O.at (.head _)) rfl rfl)),?_⟩|refine⟨.inr (.inr (ae rfl (O.at (.tail _ (.head _))) rfl rfl)),?_⟩|refine⟨.inr (.inr (ae rfl (O.at (.tail _ (.tail _ (.head _)))) rfl rfl)),?_⟩|refine⟨.inr (.inr (ae rfl (O.at (.tail _ (.tail _ (.tail _ (.head _))))) rfl rfl)),?_⟩|refine⟨.inr (.inr (ae rfl (O.at (.tail _ (.tail _ (.tail _ (.tail _ (.head _)))))) rfl rfl)),?_⟩|refine⟨.inr (.inr (ae rfl (O.at (.tail _ (.tail _ (.tail _ (.tail _ (.tail _ (.head _))))))) rfl rfl)),?_⟩|refine⟨.inr (.inr (ae rfl (O.at (.tail _ (.tail _ (.tail _ (.tail _ (.tail _ (.tail _ (.head _)))))))) rfl rfl)),?_⟩|refine⟨.inl (Ext.refl _),?_⟩|refine⟨.inr (.inr rfl),?_⟩|refine⟨.inr (by kernel_rfl),?_⟩|refine⟨.inl (by kernel_rfl),?_⟩|refine id ?_);refine gH ?_
             refine gX ?_
             refine aF hm fun hm=>?_;refine gH ?_
             exact jx ((v176.set x175 x203),(v173+1)) hm O
            ·refine gX ?_
             (first|refine⟨.inr (.inr (ae rfl (O.at (.head _)) rfl rfl)),?_⟩|refine⟨.inr (.inr (ae rfl (O.at (.tail _ (.head _))) rfl rfl)),?_⟩|refine⟨.inr (.inr (ae rfl (O.at (.tail _ (.tail _ (.head _)))) rfl rfl)),?_⟩|refine⟨.inr (.inr (ae rfl (O.at (.tail _ (.tail _ (.tail _ (.head _))))) rfl rfl)),?_⟩|refine⟨.inr (.inr (ae rfl (O.at (.tail _ (.tail _ (.tail _ (.tail _ (.head _)))))) rfl rfl)),?_⟩|refine⟨.inr (.inr (ae rfl (O.at (.tail _ (.tail _ (.tail _ (.tail _ (.tail _ (.head _))))))) rfl rfl)),?_⟩|refine⟨.inr (.inr (ae rfl (O.at (.tail _ (.tail _ (.tail _ (.tail _ (.tail _ (.tail _ (.head _)))))))) rfl rfl)),?_⟩|refine⟨.inl (Ext.refl _),?_⟩|refine⟨.inr (.inr rfl),?_⟩|refine⟨.inr (by kernel_rfl),?_⟩|refine⟨.inl (by kernel_rfl),?_⟩|refine id ?_);refine gH ?_
             refine ix 1 hm fun x205 hx205 hm=>?_;refine gH ?_
             refine O.stE 1 (.head _) hx205 x202 fun h O=>?_;refine gH ?_
             (first|refine⟨.inr (.inr (ae rfl (O.at (.head _)) rfl rfl)),?_⟩|refine⟨.inr (.inr (ae rfl (O.at (.tail _ (.head _))) rfl rfl)),?_⟩|refine⟨.inr (.inr (ae rfl (O.at (.tail _ (.tail _ (.head _)))) rfl rfl)),?_⟩|refine⟨.inr (.inr (ae rfl (O.at (.tail _ (.tail _ (.tail _ (.head _))))) rfl rfl)),?_⟩|refine⟨.inr (.inr (ae rfl (O.at (.tail _ (.tail _ (.tail _ (.tail _ (.head _)))))) rfl rfl)),?_⟩|refine⟨.inr (.inr (ae rfl (O.at (.tail _ (.tail _ (.tail _ (.tail _ (.tail _ (.head _))))))) rfl rfl)),?_⟩|refine⟨.inr (.inr (ae rfl (O.at (.tail _ (.tail _ (.tail _ (.tail _ (.tail _ (.tail _ (.head _)))))))) rfl rfl)),?_⟩|refine⟨.inl (Ext.refl _),?_⟩|refine⟨.inr (.inr rfl),?_⟩|refine⟨.inr (by kernel_rfl),?_⟩|refine⟨.inl (by kernel_rfl),?_⟩|refine id ?_);refine gH ?_
             refine gX ?_
             refine aF hm fun hm=>?_;refine gH ?_
             exact jx ((v176.set x175 x202),(v173+1)) hm O
          ·refine gX ?_
           exact jx v172 hm O
         ·clear hm;rintro v170 base h hm O
          refine gX ?_
          have O:=O.aG (.cells (flatC ((([]:List Nat)).map n8)) false)
          have O:=O.aG (.cells (flatC ((([]:List Nat)).map n8)) false)
          (first|refine O.new (ai (l:=[nS,nS]) rfl rfl rfl) fun g206 h O=>?_|refine O.bB (ai (l:=[nS,nS]) rfl rfl rfl) fun g206 h O=>?_);refine gH ?_
          refine jn (σ:=(List Nat)×Option Nat) hm 189 [0,4,5,16] (fun s=>s.1) (fun (v211,a210) h=>(a210=none->v211=[])/\Own vars h0 [(sC g149 (flatC (v170.map n8))),(sC g143 [(clo 112 [(FP ((ag 1 n8) r6.2.1)),(pG g9)])]),(sC g9 [(i64 p1.other)]),(sC g147 [nS,nS]),(sC g206 [(ah 1 a210 (v211.map n8)),(ah 1 none (([]:List Nat).map n8))]),(a210,.cells (flatC (v211.map n8)) false),(none,.cells (flatC (([]:List Nat).map n8)) false),(sC g1 [((ag 1 n8) r6.1.out),((ag 1 n8) r6.1.next)]),(sC g3 [nS,nS]),(sR g145 (cy p0 (.slice (some ⟨g149,0,none⟩) p0.nodes.length p0.nodes.length) (clo 135 [(FP (az p1.line)),(pG g143)]) (clo 109 [])))] h) (fun (v211,a210)=>[]) (fun hm=>?_) ?_
          ·refine gX ?_
           refine lw 189 [0,4,5,16,143,144] (σ:=((List Nat)×Nat)×Option Nat) (fun s=>s.1) (fun ((v215,v216),a214) h=>(a214=none->v215=[])/\Own vars h0 [(sC g149 (flatC (v170.map n8))),(sC g143 [(clo 112 [(FP ((ag 1 n8) r6.2.1)),(pG g9)])]),(sC g9 [(i64 p1.other)]),(sC g147 [nS,nS]),(sC g206 [(ah 1 a214 (v215.map n8)),(ah 1 none (([]:List Nat).map n8))]),(a214,.cells (flatC (v215.map n8)) false),(none,.cells (flatC (([]:List Nat).map n8)) false),(sC g1 [((ag 1 n8) r6.1.out),((ag 1 n8) r6.1.next)]),(sC g3 [nS,nS]),(sR g145 (cy p0 (.slice (some ⟨g149,0,none⟩) p0.nodes.length p0.nodes.length) (clo 135 [(FP (az p1.line)),(pG g143)]) (clo 109 [])))] h) (fun ((v215,v216),a214)=>[(145,(i64 v216))]) ((([]:List Nat),0),none) hm ⟨(fun _=>rfl),(O.sel [3,4,5,6,0,2,1,7,8,9] (by decide))⟩ ?_
           clear hm;rintro⟨⟨v215,v216⟩,a214⟩ nx218 base h hm ⟨ha217,O⟩
           refine gX ?_
           refine br hm (fun hm=>?_) fun hm=>?_
           ·refine gX ?_
            refine atF hm fun x219 hx219 hm=>?_;refine gX ?_
            refine ldO (O.at (.tail _ (.tail _ (.tail _ (.tail _ (.head _)))))) ?_;refine gH ?_
            first|refine⟨.inr (.inr (ae rfl (O.at (.tail _ (.tail _ (.tail _ (.tail _ (.head _)))))) rfl rfl)),?_⟩|refine⟨.inr (.inl (by kernel_rfl)),?_⟩
            refine gX ?_
            refine dF ?_
            refine gX ?_
            refine ix 1 hm fun x220 hx220 hm=>?_;refine gH ?_
            refine⟨_,ae rfl (O.at (.head _)) rfl (bd (enc:=n8) (s:=1) (k:=0) (fun _=>rfl) hx220 rfl),?_⟩;refine gH ?_
            refine O.bE (l:=([x220]:(List Nat))) (enc:=n8) (s:=1) (z:=(n8 0)) rfl rfl (by kernel_rfl) (by kernel_rfl) rfl rfl rfl rfl (fun _=>rfl) fun g221 h O=>?_;refine gH ?_
            refine O.bQ (enc:=n8) (l:=v215) (new:=([x220]:(List Nat))) (s:=1) (b:=1) (.tail _ (.tail _ (.tail _ (.tail _ (.tail _ (.tail _ (.head _))))))) ha217 rfl rfl rfl rfl rfl rfl rfl rfl (YOk.own (O.at (.head _)) rfl (fun _=>rfl) rfl) (fun _=>rfl) (fun _=>rfl) (by decide) hm.1 fun a223 h ha224 O=>?_;refine gH ?_
            (first|refine⟨.inr (.inr (ae rfl (O.at (.head _)) rfl rfl)),?_⟩|refine⟨.inr (.inr (ae rfl (O.at (.tail _ (.head _))) rfl rfl)),?_⟩|refine⟨.inr (.inr (ae rfl (O.at (.tail _ (.tail _ (.head _)))) rfl rfl)),?_⟩|refine⟨.inr (.inr (ae rfl (O.at (.tail _ (.tail _ (.tail _ (.head _))))) rfl rfl)),?_⟩|refine⟨.inr (.inr (ae rfl (O.at (.tail _ (.tail _ (.tail _ (.tail _ (.head _)))))) rfl rfl)),?_⟩|refine⟨.inr (.inr (ae rfl (O.at (.tail _ (.tail _ (.tail _ (.tail _ (.tail _ (.head _))))))) rfl rfl)),?_⟩|refine⟨.inr (.inr (ae rfl (O.at (.tail _ (.tail _ (.tail _ (.tail _ (.tail _ (.tail _ (.head _)))))))) rfl rfl)),?_⟩|refine⟨.inl (Ext.refl _),?_⟩|refine⟨.inr (.inr rfl),?_⟩|refine⟨.inr (by kernel_rfl),?_⟩|refine⟨.inl (by kernel_rfl),?_⟩|refine id ?_);refine gH ?_
            replace hm:=hm.2
            refine O.stC 1 (.tail _ (.tail _ (.tail _ (.tail _ (.tail _ (.head _)))))) [(ah 1 a223 ((v215++([x220]:(List Nat))).map n8)),(ah 1 none (([]:List Nat).map n8))] fun h O=>?_;refine gH ?_
            (first|refine⟨.inr (.inr (ae rfl (O.at (.head _)) rfl rfl)),?_⟩|refine⟨.inr (.inr (ae rfl (O.at (.tail _ (.head _))) rfl rfl)),?_⟩|refine⟨.inr (.inr (ae rfl (O.at (.tail _ (.tail _ (.head _)))) rfl rfl)),?_⟩|refine⟨.inr (.inr (ae rfl (O.at (.tail _ (.tail _ (.tail _ (.head _))))) rfl rfl)),?_⟩|refine⟨.inr (.inr (ae rfl (O.at (.tail _ (.tail _ (.tail _ (.tail _ (.head _)))))) rfl rfl)),?_⟩|refine⟨.inr (.inr (ae rfl (O.at (.tail _ (.tail _ (.tail _ (.tail _ (.tail _ (.head _))))))) rfl rfl)),?_⟩|refine⟨.inr (.inr (ae rfl (O.at (.tail _ (.tail _ (.tail _ (.tail _ (.tail _ (.tail _ (.head _)))))))) rfl rfl)),?_⟩|refine⟨.inl (Ext.refl _),?_⟩|refine⟨.inr (.inr rfl),?_⟩|refine⟨.inr (by kernel_rfl),?_⟩|refine⟨.inl (by kernel_rfl),?_⟩|refine id ?_);refine gH ?_
            refine gX ?_
            refine aF hm fun hm=>?_;refine gH ?_
            exact jx (((v215++([x220]:(List Nat))),(v216+1)),a223) hm ⟨ha224,(O.sel [1,2,3,4,5,6,7,8,9,10] (by decide))⟩
           ·refine gX ?_
            exact jx (v215,a214) hm ⟨ha217,O⟩
          ·clear hm;rintro⟨v211,a210⟩ base h hm ⟨ha212,O⟩
           conv=>whnf
           refine jn (σ:=(List Nat)×Option Nat) hm 189 [4,16] (fun s=>s.1) (fun (v226,a225) h=>(a210=none->v211=[])/\(a225=none->v226=[])/\Own vars h0 [(sC g147 [nS,nS]),(sC g206 [(ah 1 a210 (v211.map n8)),(ah 1 a225 (v226.map n8))]),(a210,.cells (flatC (v211.map n8)) false),(a225,.cells (flatC (v226.map n8)) false),(sC g1 [((ag 1 n8) r6.1.out),((ag 1 n8) r6.1.next)]),(sC g3 [nS,nS]),(sR g145 (cy p0 (.slice (some ⟨g149,0,none⟩) p0.nodes.length p0.nodes.length) (clo 135 [(FP (az p1.line)),(pG g143)]) (clo 109 []))),(sC g149 (flatC (v170.map n8))),(sC g143 [(clo 112 [(FP ((ag 1 n8) r6.2.1)),(pG g9)])]),(sC g9 [(i64 p1.other)])] h) (fun (v226,a225)=>[]) (fun hm=>?_) ?_
           ·refine gX ?_
            refine lw 189 [0,4,16,162,163] (σ:=((List Nat)×Nat)×Option Nat) (fun s=>s.1) (fun ((v231,v232),a230) h=>(a210=none->v211=[])/\(a230=none->v231=[])/\Own vars h0 [(sC g149 (flatC (v170.map n8))),(sC g143 [(clo 112 [(FP ((ag 1 n8) r6.2.1)),(pG g9)])]),(sC g9 [(i64 p1.other)]),(sC g147 [nS,nS]),(sC g206 [(ah 1 a210 (v211.map n8)),(ah 1 a230 (v231.map n8))]),(a210,.cells (flatC (v211.map n8)) false),(a230,.cells (flatC (v231.map n8)) false),(sC g1 [((ag 1 n8) r6.1.out),((ag 1 n8) r6.1.next)]),(sC g3 [nS,nS]),(sR g145 (cy p0 (.slice (some ⟨g149,0,none⟩) p0.nodes.length p0.nodes.length) (clo 135 [(FP (az p1.line)),(pG g143)]) (clo 109 [])))] h) (fun ((v231,v232),a230)=>[(164,(i64 v232))]) ((([]:List Nat),0),none) hm ⟨ha212,(fun _=>rfl),O⟩ ?_
            clear hm;rintro⟨⟨v231,v232⟩,a230⟩ nx235 base h hm ⟨ha233,ha234,O⟩
            refine gX ?_
            refine br hm (fun hm=>?_) fun hm=>?_
            ·refine gX ?_
             refine atF hm fun x236 hx236 hm=>?_;refine gX ?_
             refine fg Tryz.func115 ?_;conv=>whnf
             apply Cs;conv=>whnf
             apply Cs;refine gH ?_
             have O:=O.aG (.cells (flatC ((([]:List Nat)).map n8)) false)
             apply Cs;conv=>whnf
             apply Cs;refine gH ?_
             have O:=O.aG (.cells (flatC ((([]:List Nat)).map n8)) false)
             refine jn (σ:=(List Nat)×Option Nat) hm 42 [] (fun s=>s.1) (fun (v240,a239) h=>(a239=none->v240=[])/\(a210=none->v211=[])/\(a230=none->v231=[])/\Own vars h0 [(a239,.cells (flatC (v240.map n8)) false),(sC g1 [((ag 1 n8) r6.1.out),((ag 1 n8) r6.1.next)]),(sC g3 [nS,nS]),(sR g145 (cy p0 (.slice (some ⟨g149,0,none⟩) p0.nodes.length p0.nodes.length) (clo 135 [(FP (az p1.line)),(pG g143)]) (clo 109 []))),(sC g149 (flatC (v170.map n8))),(sC g143 [(clo 112 [(FP ((ag 1 n8) r6.2.1)),(pG g9)])]),(sC g9 [(i64 p1.other)]),(sC g147 [nS,nS]),(sC g206 [(ah 1 a210 (v211.map n8)),(ah 1 a230 (v231.map n8))]),(a210,.cells (flatC (v211.map n8)) false),(a230,.cells (flatC (v231.map n8)) false)] h) (fun (v240,a239)=>[(5,(ah 1 a239 (v240.map n8)))]) (fun hm=>?_) ?_
             ·refine gX ?_
              refine atF hm fun x245 hx245 hm=>?_;refine gX ?_
              refine lw 42 [0,1,16,17] (σ:=((List Nat)×Nat)×Option Nat) (fun s=>s.1) (fun ((v247,v248),a246) h=>(a246=none->v247=[])/\(a210=none->v211=[])/\(a230=none->v231=[])/\Own vars h0 [(sC g149 (flatC (v170.map n8))),(sC g143 [(clo 112 [(FP ((ag 1 n8) r6.2.1)),(pG g9)])]),(sC g9 [(i64 p1.other)]),(a246,.cells (flatC (v247.map n8)) false),(sC g1 [((ag 1 n8) r6.1.out),((ag 1 n8) r6.1.next)]),(sC g3 [nS,nS]),(sR g145 (cy p0 (.slice (some ⟨g149,0,none⟩) p0.nodes.length p0.nodes.length) (clo 135 [(FP (az p1.line)),(pG g143)]) (clo 109 []))),(sC g147 [nS,nS]),(sC g206 [(ah 1 a210 (v211.map n8)),(ah 1 a230 (v231.map n8))]),(a210,.cells (flatC (v211.map n8)) false),(a230,.cells (flatC (v231.map n8)) false)] h) (fun ((v247,v248),a246)=>[(5,(ah 1 a246 (v247.map n8))),(18,(i64 v248))]) ((([]:List Nat),0),none) hm ⟨(fun _=>rfl),ha233,ha234,(O.sel [2,3,4,0,9,10,11,5,6,7,8] (by decide))⟩ ?_
              clear hm;rintro⟨⟨v247,v248⟩,a246⟩ nx252 base h hm ⟨ha249,ha250,ha251,O⟩
              refine gX ?_
              refine br hm (fun hm=>?_) fun hm=>?_
              ·refine gX ?_
               refine atF hm fun x253 hx253 hm=>?_;refine gX ?_
               refine dF ?_
               refine gX ?_
               refine dF ?_
               refine gX ?_
               refine ix 1 hm fun x254 hx254 hm=>?_;refine gH ?_
               refine⟨_,ae rfl (O.at (.head _)) rfl (bd (enc:=n8) (s:=1) (k:=0) (fun _=>rfl) hx254 rfl),?_⟩;refine gH ?_
               refine fg Tryz.func109 ?_;refine gX ?_
               (first|refine⟨.inr (.inr (ae rfl (O.at (.head _)) rfl rfl)),?_⟩|refine⟨.inr (.inr (ae rfl (O.at (.tail _ (.head _))) rfl rfl)),?_⟩|refine⟨.inr (.inr (ae rfl (O.at (.tail _ (.tail _ (.head _)))) rfl rfl)),?_⟩|refine⟨.inr (.inr (ae rfl (O.at (.tail _ (.tail _ (.tail _ (.head _))))) rfl rfl)),?_⟩|refine⟨.inr (.inr (ae rfl (O.at (.tail _ (.tail _ (.tail _ (.tail _ (.head _)))))) rfl rfl)),?_⟩|refine⟨.inr (.inr (ae rfl (O.at (.tail _ (.tail _ (.tail _ (.tail _ (.tail _ (.head _))))))) rfl rfl)),?_⟩|refine⟨.inr (.inr (ae rfl (O.at (.tail _ (.tail _ (.tail _ (.tail _ (.tail _ (.tail _ (.head _)))))))) rfl rfl)),?_⟩|refine⟨.inl (Ext.refl _),?_⟩|refine⟨.inr (.inr rfl),?_⟩|refine⟨.inr (by kernel_rfl),?_⟩|refine⟨.inl (by kernel_rfl),?_⟩|refine id ?_);refine gH ?_
               refine O.bE (l:=([x254]:(List Nat))) (enc:=n8) (s:=1) (z:=(n8 0)) rfl rfl (by kernel_rfl) (by kernel_rfl) rfl rfl rfl rfl (fun _=>rfl) fun g255 h O=>?_;refine gH ?_
               refine O.bQ (enc:=n8) (l:=v247) (new:=([x254]:(List Nat))) (s:=1) (b:=1) (.tail _ (.tail _ (.tail _ (.tail _ (.head _))))) ha249 rfl rfl rfl rfl rfl rfl rfl rfl (YOk.own (O.at (.head _)) rfl (fun _=>rfl) rfl) (fun _=>rfl) (fun _=>rfl) (by decide) hm.1 fun a257 h ha258 O=>?_;refine gH ?_
               (first|refine⟨.inr (.inr (ae rfl (O.at (.head _)) rfl rfl)),?_⟩|refine⟨.inr (.inr (ae rfl (O.at (.tail _ (.head _))) rfl rfl)),?_⟩|refine⟨.inr (.inr (ae rfl (O.at (.tail _ (.tail _ (.head _)))) rfl rfl)),?_⟩|refine⟨.inr (.inr (ae rfl (O.at (.tail _ (.tail _ (.tail _ (.head _))))) rfl rfl)),?_⟩|refine⟨.inr (.inr (ae rfl (O.at (.tail _ (.tail _ (.tail _ (.tail _ (.head _)))))) rfl rfl)),?_⟩|refine⟨.inr (.inr (ae rfl (O.at (.tail _ (.tail _ (.tail _ (.tail _ (.tail _ (.head _))))))) rfl rfl)),?_⟩|refine⟨.inr (.inr (ae rfl (O.at (.tail _ (.tail _ (.tail _ (.tail _ (.tail _ (.tail _ (.head _)))))))) rfl rfl)),?_⟩|refine⟨.inl (Ext.refl _),?_⟩|refine⟨.inr (.inr rfl),?_⟩|refine⟨.inr (by kernel_rfl),?_⟩|refine⟨.inl (by kernel_rfl),?_⟩|refine id ?_);refine gH ?_
               replace hm:=hm.2
               refine gX ?_
               refine aF hm fun hm=>?_;refine gH ?_
               exact jx (((v247++([x254]:(List Nat))),(v248+1)),a257) hm ⟨ha258,ha250,ha251,(O.sel [1,2,3,4,5,6,7,8,9,10,11] (by decide))⟩
              ·refine gX ?_
               exact jx (v247,a246) hm ⟨ha249,ha250,ha251,(O.sel [3,4,5,6,0,1,2,7,8,9,10] (by decide))⟩
             ·clear hm;rintro⟨v240,a239⟩ base h hm ⟨ha241,ha242,ha243,O⟩
              refine gX ?_
              obtain⟨x259,hx259,hm⟩:=hm
              have h9:=hm
              obtain⟨g260,rfl⟩:=ee ha241 hx259
              replace hm:=h9
              refine cU (s:=1) (j:=0) rfl rfl rfl rfl (by rw[List.length_map];exact ak hx259) ?_;refine gH ?_
              refine ldE (s:=1) (i:=0) (O.at (.head _)) hx259 ?_;refine gH ?_
              refine jn hm 189 [0,4,16,162,163,164] (fun s=>s) (fun v261 h=>(a210=none->v211=[])/\(a230=none->v231=[])/\Own vars h0 [(sC g149 (flatC (v170.map n8))),(sC g143 [(clo 112 [(FP ((ag 1 n8) r6.2.1)),(pG g9)])]),(sC g9 [(i64 p1.other)]),(sC g147 [nS,nS]),(sC g206 [(ah 1 a210 (v211.map n8)),(ah 1 a230 (v231.map n8))]),(a210,.cells (flatC (v211.map n8)) false),(a230,.cells (flatC (v231.map n8)) false),(sC g1 [((ag 1 n8) r6.1.out),((ag 1 n8) r6.1.next)]),(sC g3 [nS,nS]),(sR g145 (cy p0 (.slice (some ⟨g149,0,none⟩) p0.nodes.length p0.nodes.length) (clo 135 [(FP (az p1.line)),(pG g143)]) (clo 109 [])))] h) (fun v261=>[(21,(n8 v261))]) (fun hm=>?_) ?_
              ·refine gX ?_
               refine br hm (fun hm=>?_) fun hm=>?_
               ·refine gX ?_
                exact jx 2 hm ⟨ha242,ha243,(O.sel [4,5,6,7,8,9,10,1,2,3] (by decide))⟩
               ·refine gX ?_
                exact jx x259 hm ⟨ha242,ha243,(O.sel [4,5,6,7,8,9,10,1,2,3] (by decide))⟩
              ·clear hm;rintro v261 base h hm ⟨ha262,ha263,O⟩
               refine gX ?_
               refine ldO (O.at (.tail _ (.tail _ (.tail _ (.tail _ (.head _)))))) ?_;refine gH ?_
               refine fz ?_;refine gH ?_
               refine O.apL (enc:=n8) (l:=v231) (new:=([v261]:(List Nat))) 1 (.tail _ (.tail _ (.tail _ (.tail _ (.tail _ (.tail _ (.head _))))))) ha263 hm fun a265 h ha266 O hm=>?_;refine gH ?_
               refine O.stC 1 (.tail _ (.tail _ (.tail _ (.tail _ (.head _))))) [(ah 1 a210 (v211.map n8)),(ah 1 a265 ((v231++([v261]:(List Nat))).map n8))] fun h O=>?_;refine gX ?_
               refine aF hm fun hm=>?_;refine gH ?_
               exact jx (((v231++([v261]:(List Nat))),(v232+1)),a265) hm ⟨ha262,ha266,O⟩
            ·refine gX ?_
             exact jx (v231,a230) hm ⟨ha233,ha234,(O.sel [3,4,5,6,7,8,9,0,1,2] (by decide))⟩
           ·clear hm;rintro⟨v226,a225⟩ base h hm ⟨ha227,ha228,O⟩
            refine gX ?_
            first|refine⟨.inr (.inr (ae rfl (O.at (.tail _ (.head _))) rfl rfl)),?_⟩|refine⟨.inr (.inl (by kernel_rfl)),?_⟩
            refine gX ?_
            refine fg Tryz.func73 ?_;refine gX ?_
            refine gK (s:=1) (enc:=n8) (l:=v211) (n:=v211.length) (m:=v211.length) rfl rfl rfl rfl rfl rfl rfl ?_;refine gX ?_
            (first|refine⟨.inr (.inr (ae rfl (O.at (.head _)) rfl rfl)),?_⟩|refine⟨.inr (.inr (ae rfl (O.at (.tail _ (.head _))) rfl rfl)),?_⟩|refine⟨.inr (.inr (ae rfl (O.at (.tail _ (.tail _ (.head _)))) rfl rfl)),?_⟩|refine⟨.inr (.inr (ae rfl (O.at (.tail _ (.tail _ (.tail _ (.head _))))) rfl rfl)),?_⟩|refine⟨.inr (.inr (ae rfl (O.at (.tail _ (.tail _ (.tail _ (.tail _ (.head _)))))) rfl rfl)),?_⟩|refine⟨.inr (.inr (ae rfl (O.at (.tail _ (.tail _ (.tail _ (.tail _ (.tail _ (.head _))))))) rfl rfl)),?_⟩|refine⟨.inr (.inr (ae rfl (O.at (.tail _ (.tail _ (.tail _ (.tail _ (.tail _ (.tail _ (.head _)))))))) rfl rfl)),?_⟩|refine⟨.inl (Ext.refl _),?_⟩|refine⟨.inr (.inr rfl),?_⟩|refine⟨.inr (by kernel_rfl),?_⟩|refine⟨.inl (by kernel_rfl),?_⟩|refine id ?_);refine gH ?_
            first|refine⟨.inr (.inr (ae rfl (O.at (.tail _ (.head _))) rfl rfl)),?_⟩|refine⟨.inr (.inl (by kernel_rfl)),?_⟩
            refine gX ?_
            refine fg Tryz.func73 ?_;refine gX ?_
            refine gK (s:=1) (enc:=n8) (l:=v226) (n:=v226.length) (m:=v226.length) rfl rfl rfl rfl rfl rfl rfl ?_;refine gX ?_
            (first|refine⟨.inr (.inr (ae rfl (O.at (.head _)) rfl rfl)),?_⟩|refine⟨.inr (.inr (ae rfl (O.at (.tail _ (.head _))) rfl rfl)),?_⟩|refine⟨.inr (.inr (ae rfl (O.at (.tail _ (.tail _ (.head _)))) rfl rfl)),?_⟩|refine⟨.inr (.inr (ae rfl (O.at (.tail _ (.tail _ (.tail _ (.head _))))) rfl rfl)),?_⟩|refine⟨.inr (.inr (ae rfl (O.at (.tail _ (.tail _ (.tail _ (.tail _ (.head _)))))) rfl rfl)),?_⟩|refine⟨.inr (.inr (ae rfl (O.at (.tail _ (.tail _ (.tail _ (.tail _ (.tail _ (.head _))))))) rfl rfl)),?_⟩|refine⟨.inr (.inr (ae rfl (O.at (.tail _ (.tail _ (.tail _ (.tail _ (.tail _ (.tail _ (.head _)))))))) rfl rfl)),?_⟩|refine⟨.inl (Ext.refl _),?_⟩|refine⟨.inr (.inr rfl),?_⟩|refine⟨.inr (by kernel_rfl),?_⟩|refine⟨.inl (by kernel_rfl),?_⟩|refine id ?_);refine gH ?_
            refine O.stC 2 (.head _) [(bN a210 (v211.map n8)),(bN a225 (v226.map n8))] fun h O=>?_;refine gH ?_
            (first|refine⟨.inr (.inr (ae rfl (O.at (.head _)) rfl rfl)),?_⟩|refine⟨.inr (.inr (ae rfl (O.at (.tail _ (.head _))) rfl rfl)),?_⟩|refine⟨.inr (.inr (ae rfl (O.at (.tail _ (.tail _ (.head _)))) rfl rfl)),?_⟩|refine⟨.inr (.inr (ae rfl (O.at (.tail _ (.tail _ (.tail _ (.head _))))) rfl rfl)),?_⟩|refine⟨.inr (.inr (ae rfl (O.at (.tail _ (.tail _ (.tail _ (.tail _ (.head _)))))) rfl rfl)),?_⟩|refine⟨.inr (.inr (ae rfl (O.at (.tail _ (.tail _ (.tail _ (.tail _ (.tail _ (.head _))))))) rfl rfl)),?_⟩|refine⟨.inr (.inr (ae rfl (O.at (.tail _ (.tail _ (.tail _ (.tail _ (.tail _ (.tail _ (.head _)))))))) rfl rfl)),?_⟩|refine⟨.inl (Ext.refl _),?_⟩|refine⟨.inr (.inr rfl),?_⟩|refine⟨.inr (by kernel_rfl),?_⟩|refine⟨.inl (by kernel_rfl),?_⟩|refine id ?_);refine gH ?_
            refine gX ?_
            refine⟨_,aD rfl rfl (O.at (.head _)) rfl rfl (lbE rfl) rfl,?_⟩;refine gX ?_
            refine O.stC 2 (.tail _ (.tail _ (.tail _ (.tail _ (.tail _ (.head _)))))) [(bN a210 (v211.map n8)),(bN a225 (v226.map n8))] fun h O=>?_;refine gX ?_
            refine ldA (O.at (.tail _ (.tail _ (.tail _ (.tail _ (.head _)))))) ?_;refine gH ?_
            first|refine⟨.inr (.inr (bg rfl (O.at (.tail _ (.tail _ (.tail _ (.tail _ (.head _)))))) rfl rfl (lbE rfl) rfl)),?_⟩|refine⟨.inr (.inl (by kernel_rfl)),?_⟩
            refine gX ?_
            refine ldA (O.at (.tail _ (.tail _ (.tail _ (.tail _ (.tail _ (.head _))))))) ?_;refine gH ?_
            first|refine⟨.inr (.inr (bg rfl (O.at (.tail _ (.tail _ (.tail _ (.tail _ (.tail _ (.head _))))))) rfl rfl (lbE rfl) rfl)),?_⟩|refine⟨.inr (.inl (by kernel_rfl)),?_⟩
            refine gX ?_
            refine ldO (O.at (.tail _ (.tail _ (.tail _ (.tail _ (.tail _ (.tail _ (.head _)))))))) ?_;refine gH ?_
            first|refine⟨.inr (.inr (ae rfl (O.at (.tail _ (.tail _ (.tail _ (.tail _ (.tail _ (.tail _ (.head _)))))))) rfl rfl)),?_⟩|refine⟨.inr (.inl (by kernel_rfl)),?_⟩
            refine gX ?_
            refine O.gN 2 (.tail _ (.tail _ (.tail _ (.tail _ (.head _))))) fun h hext O=>?_;conv=>whnf
            refine⟨.inr hext,?_⟩;refine gH ?_
            refine O.gN 2 (.tail _ (.tail _ (.tail _ (.tail _ (.tail _ (.head _)))))) fun h hext O=>?_;conv=>whnf
            refine⟨.inr hext,?_⟩;refine gX ?_
            refine⟨_,aD rfl rfl (O.at (.tail _ (.tail _ (.tail _ (.tail _ (.head _)))))) rfl rfl (lbE rfl) rfl,?_⟩;conv=>whnf
            refine⟨_,aD rfl rfl (O.at (.tail _ (.tail _ (.tail _ (.tail _ (.tail _ (.head _))))))) rfl rfl (lbE rfl) rfl,?_⟩;conv=>whnf
            obtain⟨hn267,hm⟩:=hm
            exact⟨(r6.1,(⟨v211,v226⟩:Rsp),v170,0),hm,O.ext,fun h2 F=>VLe.tup (LLe.cons (VLe.refl _ _) (LLe.cons (VLe.agg (LLe.cons (O.iH F (Nat.le_refl _) (.tail _ (.tail _ (.head _))) ha227 (fun _=>rfl)) (LLe.cons (O.iH F (Nat.le_refl _) (.tail _ (.tail _ (.tail _ (.head _)))) ha228 (fun _=>rfl)) (LLe.nil _)))) (LLe.cons (O.fY F (Nat.le_refl _) (.tail _ (.tail _ (.tail _ (.tail _ (.tail _ (.tail _ (.tail _ (.head _)))))))) (fun _=>rfl) hn267) (LLe.cons (VLe.refl _ _) (LLe.nil _)))))⟩
      ·refine gX ?_
       exact False.elim hm
     ·refine gX ?_
      refine fg Tryz.func111 ?_;refine gX ?_
      refine fz ?_;refine gH ?_
      refine fz ?_;refine gH ?_
      (first|refine O.new (lH rfl) fun g268 h O=>?_|refine O.bB (lH rfl) fun g268 h O=>?_);refine gH ?_
      refine gX ?_
      (first|refine O.new (lH rfl) fun g270 h O=>?_|refine O.bB (lH rfl) fun g270 h O=>?_);refine gH ?_
      refine gX ?_
      refine br hm (fun hm=>?_) fun hm=>?_
      ·refine gX ?_
       refine O.stC 1 (.head _) (cy p0 nS (clo 135 [(FP (az p1.line)),(pG g268)]) (clo 109 [])) fun h O=>?_;refine gX ?_
       refine fg Tryz.func75 ?_;refine gX ?_
       refine fz ?_;refine gH ?_
       (first|refine O.new (ai (l:=[nS,nS]) rfl rfl rfl) fun g272 h O=>?_|refine O.bB (ai (l:=[nS,nS]) rfl rfl rfl) fun g272 h O=>?_);refine gH ?_
       refine gX ?_
       refine O.mkL (enc:=n8) 1 1 0 hm fun g274 h O hm=>?_;refine gH ?_
       refine O.stC 1 (.tail _ (.tail _ (.head _))) (cy p0 (.slice (some ⟨g274,0,none⟩) p0.nodes.length p0.nodes.length) (clo 135 [(FP (az p1.line)),(pG g268)]) (clo 109 [])) fun h O=>?_;refine gH ?_
       apply Cs;conv=>whnf
       refine CodeS.pF O (.tail _ (.tail _ (.head _))) 0 rfl rfl fun h O=>?_;refine gX ?_
       refine ca (aR hm O.has) fun r276 hm=>?_;refine gH ?_
       refine jn hm 189 [0,3,4,5] (fun s=>s) (fun v277 h=>Own vars h0 [(sC g274 (flatC (v277.map n8))),(sC g268 [(clo 113 [(FP (aC p1))])]),(sC g272 [nS,nS]),(sC g1 [((ag 1 n8) r6.1.out),((ag 1 n8) r6.1.next)]),(sC g3 [nS,nS]),(sR g270 (cy p0 (.slice (some ⟨g274,0,none⟩) p0.nodes.length p0.nodes.length) (clo 135 [(FP (az p1.line)),(pG g268)]) (clo 109 [])))] h) (fun v277=>[]) (fun hm=>?_) ?_
       ·refine gX ?_
        refine ca (bG hm O.has) fun r279 hm=>?_;refine gX ?_
        refine lw 189 [0,3,4,5,41,42] (σ:=((List Nat)×Nat)) (fun s=>s) (fun (v280,v281) h=>Own vars h0 [(sC g274 (flatC (v280.map n8))),(sC g268 [(clo 113 [(FP (aC p1))])]),(sC g272 [nS,nS]),(sC g1 [((ag 1 n8) r6.1.out),((ag 1 n8) r6.1.next)]),(sC g3 [nS,nS]),(sR g270 (cy p0 (.slice (some ⟨g274,0,none⟩) p0.nodes.length p0.nodes.length) (clo 135 [(FP (az p1.line)),(pG g268)]) (clo 109 [])))] h) (fun (v280,v281)=>[(43,(i64 v281))]) ((List.replicate p0.nodes.length (0:Nat)),0) hm (O.sel [0,3,1,7,6,2] (by decide)) ?_
        clear hm;rintro⟨v280,v281⟩ nx282 base h hm O
        refine gX ?_
        refine br hm (fun hm=>?_) fun hm=>?_
        ·refine gX ?_
         refine atF hm fun x283 hx283 hm=>?_;refine gX ?_
         refine dF ?_
         refine gX ?_
         refine dF ?_
         refine gX ?_
         refine atF hm fun x284 hx284 hm=>?_;refine gH ?_
         refine ix 1 hm fun x285 hx285 hm=>?_;refine gH ?_
         refine O.stE 1 (.head _) hx285 x284 fun h O=>?_;refine gH ?_
         (first|refine⟨.inr (.inr (ae rfl (O.at (.head _)) rfl rfl)),?_⟩|refine⟨.inr (.inr (ae rfl (O.at (.tail _ (.head _))) rfl rfl)),?_⟩|refine⟨.inr (.inr (ae rfl (O.at (.tail _ (.tail _ (.head _)))) rfl rfl)),?_⟩|refine⟨.inr (.inr (ae rfl (O.at (.tail _ (.tail _ (.tail _ (.head _))))) rfl rfl)),?_⟩|refine⟨.inr (.inr (ae rfl (O.at (.tail _ (.tail _ (.tail _ (.tail _ (.head _)))))) rfl rfl)),?_⟩|refine⟨.inr (.inr (ae rfl (O.at (.tail _ (.tail _ (.tail _ (.tail _ (.tail _ (.head _))))))) rfl rfl)),?_⟩|refine⟨.inr (.inr (ae rfl (O.at (.tail _ (.tail _ (.tail _ (.tail _ (.tail _ (.tail _ (.head _)))))))) rfl rfl)),?_⟩|refine⟨.inl (Ext.refl _),?_⟩|refine⟨.inr (.inr rfl),?_⟩|refine⟨.inr (by kernel_rfl),?_⟩|refine⟨.inl (by kernel_rfl),?_⟩|refine id ?_);refine gH ?_
         refine gX ?_
         refine aF hm fun hm=>?_;refine gH ?_
         exact jx ((v280.set x283 x284),(v281+1)) hm O
        ·refine gX ?_
         exact jx v280 hm O
       ·clear hm;rintro v277 base h hm O
        conv=>whnf
        refine jn hm 189 [0,4,5] (fun s=>s) (fun v286 h=>Own vars h0 [(sC g274 (flatC (v286.map n8))),(sC g268 [(clo 113 [(FP (aC p1))])]),(sC g272 [nS,nS]),(sC g1 [((ag 1 n8) r6.1.out),((ag 1 n8) r6.1.next)]),(sC g3 [nS,nS]),(sR g270 (cy p0 (.slice (some ⟨g274,0,none⟩) p0.nodes.length p0.nodes.length) (clo 135 [(FP (az p1.line)),(pG g268)]) (clo 109 [])))] h) (fun v286=>[]) (fun hm=>?_) ?_
        ·refine gX ?_
         refine lw 189 [0,3,4,5,60,61] (σ:=((List Nat)×Nat)) (fun s=>s) (fun (v288,v289) h=>Own vars h0 [(sC g274 (flatC (v288.map n8))),(sC g268 [(clo 113 [(FP (aC p1))])]),(sC g272 [nS,nS]),(sC g1 [((ag 1 n8) r6.1.out),((ag 1 n8) r6.1.next)]),(sC g3 [nS,nS]),(sR g270 (cy p0 (.slice (some ⟨g274,0,none⟩) p0.nodes.length p0.nodes.length) (clo 135 [(FP (az p1.line)),(pG g268)]) (clo 109 [])))] h) (fun (v288,v289)=>[(62,(i64 v289))]) (v277,0) hm O ?_
         clear hm;rintro⟨v288,v289⟩ nx290 base h hm O
         refine gX ?_
         refine br hm (fun hm=>?_) fun hm=>?_
         ·refine gX ?_
          refine atF hm fun x291 hx291 hm=>?_;refine gX ?_
          refine dF ?_
          refine gX ?_
          refine dF ?_
          refine gX ?_
          refine atF hm fun x292 hx292 hm=>?_;refine gH ?_
          refine ix 1 hm fun x293 hx293 hm=>?_;refine gH ?_
          refine O.stE 1 (.head _) hx293 x292 fun h O=>?_;refine gH ?_
          (first|refine⟨.inr (.inr (ae rfl (O.at (.head _)) rfl rfl)),?_⟩|refine⟨.inr (.inr (ae rfl (O.at (.tail _ (.head _))) rfl rfl)),?_⟩|refine⟨.inr (.inr (ae rfl (O.at (.tail _ (.tail _ (.head _)))) rfl rfl)),?_⟩|refine⟨.inr (.inr (ae rfl (O.at (.tail _ (.tail _ (.tail _ (.head _))))) rfl rfl)),?_⟩|refine⟨.inr (.inr (ae rfl (O.at (.tail _ (.tail _ (.tail _ (.tail _ (.head _)))))) rfl rfl)),?_⟩|refine⟨.inr (.inr (ae rfl (O.at (.tail _ (.tail _ (.tail _ (.tail _ (.tail _ (.head _))))))) rfl rfl)),?_⟩|refine⟨.inr (.inr (ae rfl (O.at (.tail _ (.tail _ (.tail _ (.tail _ (.tail _ (.tail _ (.head _)))))))) rfl rfl)),?_⟩|refine⟨.inl (Ext.refl _),?_⟩|refine⟨.inr (.inr rfl),?_⟩|refine⟨.inr (by kernel_rfl),?_⟩|refine⟨.inl (by kernel_rfl),?_⟩|refine id ?_);refine gH ?_
          refine gX ?_
          refine aF hm fun hm=>?_;refine gH ?_
          exact jx ((v288.set x291 x292),(v289+1)) hm O
         ·refine gX ?_
          exact jx v288 hm O
        ·clear hm;rintro v286 base h hm O
         refine gX ?_
         refine ca (cg hm O.has) fun r294 hm=>?_;refine gH ?_
         apply Cs;conv=>whnf
         apply Cs;refine gH ?_
         refine jn hm 189 [0,4,5] (fun s=>s) (fun v295 h=>Own vars h0 [(sC g274 (flatC (v295.map n8))),(sC g268 [(clo 113 [(FP (aC p1))])]),(sC g272 [nS,nS]),(sC g1 [((ag 1 n8) r6.1.out),((ag 1 n8) r6.1.next)]),(sC g3 [nS,nS]),(sR g270 (cy p0 (.slice (some ⟨g274,0,none⟩) p0.nodes.length p0.nodes.length) (clo 135 [(FP (az p1.line)),(pG g268)]) (clo 109 [])))] h) (fun v295=>[]) (fun hm=>?_) ?_
         ·refine gX ?_
          refine lw 189 [0,4,5,12,89,90] (σ:=((List Nat)×Nat)) (fun s=>s) (fun (v297,v298) h=>Own vars h0 [(sC g274 (flatC (v297.map n8))),(sC g268 [(clo 113 [(FP (aC p1))])]),(sC g272 [nS,nS]),(sC g1 [((ag 1 n8) r6.1.out),((ag 1 n8) r6.1.next)]),(sC g3 [nS,nS]),(sR g270 (cy p0 (.slice (some ⟨g274,0,none⟩) p0.nodes.length p0.nodes.length) (clo 135 [(FP (az p1.line)),(pG g268)]) (clo 109 [])))] h) (fun (v297,v298)=>[(91,(i64 v298))]) (v286,0) hm O ?_
          clear hm;rintro⟨v297,v298⟩ nx299 base h hm O
          refine gX ?_
          refine br hm (fun hm=>?_) fun hm=>?_
          ·refine gX ?_
           refine atF hm fun x300 hx300 hm=>?_;refine gH ?_
           refine jn hm 189 [0,4,5,12,14,89,90,91] (fun s=>s) (fun v301 h=>Own vars h0 [(sC g274 (flatC (v301.map n8))),(sC g268 [(clo 113 [(FP (aC p1))])]),(sC g272 [nS,nS]),(sC g1 [((ag 1 n8) r6.1.out),((ag 1 n8) r6.1.next)]),(sC g3 [nS,nS]),(sR g270 (cy p0 (.slice (some ⟨g274,0,none⟩) p0.nodes.length p0.nodes.length) (clo 135 [(FP (az p1.line)),(pG g268)]) (clo 109 [])))] h) (fun v301=>[]) (fun hm=>?_) ?_
           ·refine gX ?_
            refine atF hm fun x303 hx303 hm=>?_;refine gH ?_
            refine jn hm 189 [0,4,5,12,14,89,90,91] (fun s=>s) (fun v304 h=>Own vars h0 [(sC g274 (flatC (v297.map n8))),(sC g268 [(clo 113 [(FP (aC p1))])]),(sC g272 [nS,nS]),(sC g1 [((ag 1 n8) r6.1.out),((ag 1 n8) r6.1.next)]),(sC g3 [nS,nS]),(sR g270 (cy p0 (.slice (some ⟨g274,0,none⟩) p0.nodes.length p0.nodes.length) (clo 135 [(FP (az p1.line)),(pG g268)]) (clo 109 [])))] h) (fun v304=>[(109,(.bool v304))]) (fun hm=>?_) ?_
            ·refine gX ?_
             refine br hm (fun hm=>?_) fun hm=>?_
             ·refine gX ?_
              exact jx (neN x303.kind 14) hm O
             ·refine gX ?_
              exact jx false hm O
            ·clear hm;rintro v304 base h hm O
             refine gX ?_
             refine br hm (fun hm=>?_) fun hm=>?_
             ·refine CodeS.jc ?_;refine gH ?_
              refine fg Tryz.func114 ?_;conv=>whnf
              apply Cs;conv=>whnf
              apply Cs;refine gH ?_
              apply Cs;conv=>whnf
              refine CodeS.jc ?_;refine gH ?_
              refine atF hm fun x306 hx306 hm=>?_;refine gH ?_
              refine fg Tryz.func115 ?_;conv=>whnf
              apply Cs;conv=>whnf
              apply Cs;refine gH ?_
              have O:=O.aG (.cells (flatC ((([]:List Nat)).map n8)) false)
              apply Cs;conv=>whnf
              apply Cs;refine gH ?_
              have O:=O.aG (.cells (flatC ((([]:List Nat)).map n8)) false)
              refine jn (σ:=(List Nat)×Option Nat) hm 42 [] (fun s=>s.1) (fun (v310,a309) h=>(a309=none->v310=[])/\Own vars h0 [(a309,.cells (flatC (v310.map n8)) false),(sC g1 [((ag 1 n8) r6.1.out),((ag 1 n8) r6.1.next)]),(sC g3 [nS,nS]),(sR g270 (cy p0 (.slice (some ⟨g274,0,none⟩) p0.nodes.length p0.nodes.length) (clo 135 [(FP (az p1.line)),(pG g268)]) (clo 109 []))),(sC g274 (flatC (v297.map n8))),(sC g268 [(clo 113 [(FP (aC p1))])]),(sC g272 [nS,nS])] h) (fun (v310,a309)=>[(5,(ah 1 a309 (v310.map n8)))]) (fun hm=>?_) ?_
              ·refine gX ?_
               refine atF hm fun x313 hx313 hm=>?_;refine gX ?_
               refine lw 42 [0,1,16,17] (σ:=((List Nat)×Nat)×Option Nat) (fun s=>s.1) (fun ((v315,v316),a314) h=>(a314=none->v315=[])/\Own vars h0 [(sC g274 (flatC (v297.map n8))),(sC g268 [(clo 113 [(FP (aC p1))])]),(a314,.cells (flatC (v315.map n8)) false),(sC g1 [((ag 1 n8) r6.1.out),((ag 1 n8) r6.1.next)]),(sC g3 [nS,nS]),(sR g270 (cy p0 (.slice (some ⟨g274,0,none⟩) p0.nodes.length p0.nodes.length) (clo 135 [(FP (az p1.line)),(pG g268)]) (clo 109 []))),(sC g272 [nS,nS])] h) (fun ((v315,v316),a314)=>[(5,(ah 1 a314 (v315.map n8))),(18,(i64 v316))]) ((([]:List Nat),0),none) hm ⟨(fun _=>rfl),(O.sel [2,3,0,5,6,7,4] (by decide))⟩ ?_
               clear hm;rintro⟨⟨v315,v316⟩,a314⟩ nx318 base h hm ⟨ha317,O⟩
               refine gX ?_
               refine br hm (fun hm=>?_) fun hm=>?_
               ·refine gX ?_
                refine atF hm fun x319 hx319 hm=>?_;refine gX ?_
                refine dF ?_
                refine gX ?_
                refine dF ?_
                refine gX ?_
                refine ix 1 hm fun x320 hx320 hm=>?_;refine gH ?_
                refine⟨_,ae rfl (O.at (.head _)) rfl (bd (enc:=n8) (s:=1) (k:=0) (fun _=>rfl) hx320 rfl),?_⟩;refine gH ?_
                refine fg Tryz.func109 ?_;refine gX ?_
                (first|refine⟨.inr (.inr (ae rfl (O.at (.head _)) rfl rfl)),?_⟩|refine⟨.inr (.inr (ae rfl (O.at (.tail _ (.head _))) rfl rfl)),?_⟩|refine⟨.inr (.inr (ae rfl (O.at (.tail _ (.tail _ (.head _)))) rfl rfl)),?_⟩|refine⟨.inr (.inr (ae rfl (O.at (.tail _ (.tail _ (.tail _ (.head _))))) rfl rfl)),?_⟩|refine⟨.inr (.inr (ae rfl (O.at (.tail _ (.tail _ (.tail _ (.tail _ (.head _)))))) rfl rfl)),?_⟩|refine⟨.inr (.inr (ae rfl (O.at (.tail _ (.tail _ (.tail _ (.tail _ (.tail _ (.head _))))))) rfl rfl)),?_⟩|refine⟨.inr (.inr (ae rfl (O.at (.tail _ (.tail _ (.tail _ (.tail _ (.tail _ (.tail _ (.head _)))))))) rfl rfl)),?_⟩|refine⟨.inl (Ext.refl _),?_⟩|refine⟨.inr (.inr rfl),?_⟩|refine⟨.inr (by kernel_rfl),?_⟩|refine⟨.inl (by kernel_rfl),?_⟩|refine id ?_);refine gH ?_
                refine O.bE (l:=([x320]:(List Nat))) (enc:=n8) (s:=1) (z:=(n8 0)) rfl rfl (by kernel_rfl) (by kernel_rfl) rfl rfl rfl rfl (fun _=>rfl) fun g321 h O=>?_;refine gH ?_
                refine O.bQ (enc:=n8) (l:=v315) (new:=([x320]:(List Nat))) (s:=1) (b:=1) (.tail _ (.tail _ (.tail _ (.head _)))) ha317 rfl rfl rfl rfl rfl rfl rfl rfl (YOk.own (O.at (.head _)) rfl (fun _=>rfl) rfl) (fun _=>rfl) (fun _=>rfl) (by decide) hm.1 fun a323 h ha324 O=>?_;refine gH ?_
                (first|refine⟨.inr (.inr (ae rfl (O.at (.head _)) rfl rfl)),?_⟩|refine⟨.inr (.inr (ae rfl (O.at (.tail _ (.head _))) rfl rfl)),?_⟩|refine⟨.inr (.inr (ae rfl (O.at (.tail _ (.tail _ (.head _)))) rfl rfl)),?_⟩|refine⟨.inr (.inr (ae rfl (O.at (.tail _ (.tail _ (.tail _ (.head _))))) rfl rfl)),?_⟩|refine⟨.inr (.inr (ae rfl (O.at (.tail _ (.tail _ (.tail _ (.tail _ (.head _)))))) rfl rfl)),?_⟩|refine⟨.inr (.inr (ae rfl (O.at (.tail _ (.tail _ (.tail _ (.tail _ (.tail _ (.head _))))))) rfl rfl)),?_⟩|refine⟨.inr (.inr (ae rfl (O.at (.tail _ (.tail _ (.tail _ (.tail _ (.tail _ (.tail _ (.head _)))))))) rfl rfl)),?_⟩|refine⟨.inl (Ext.refl _),?_⟩|refine⟨.inr (.inr rfl),?_⟩|refine⟨.inr (by kernel_rfl),?_⟩|refine⟨.inl (by kernel_rfl),?_⟩|refine id ?_);refine gH ?_
                replace hm:=hm.2
                refine gX ?_
                refine aF hm fun hm=>?_;refine gH ?_
                exact jx (((v315++([x320]:(List Nat))),(v316+1)),a323) hm ⟨ha324,(O.sel [1,2,3,4,5,6,7] (by decide))⟩
               ·refine gX ?_
                exact jx (v315,a314) hm ⟨ha317,(O.sel [2,3,4,5,0,1,6] (by decide))⟩
              ·clear hm;rintro⟨v310,a309⟩ base h hm ⟨ha311,O⟩
               refine gX ?_
               refine CallD.yX (fun _ hb=>cH hm hb) (fun _=>js rfl) oy O.has (fun h2 F=>(LLe.cons (VLe.refl _ _) (LLe.cons (O.eY F (Nat.zero_le _) (.head _) ha311 (fun _=>rfl)) (LLe.nil _)))) (by kernel_rfl) (fun r325 hm'=>?_);replace hm:=hm';refine gX ?_
               refine ix 1 hm fun x326 hx326 hm=>?_;refine gH ?_
               refine O.stE 1 (.tail _ (.tail _ (.tail _ (.tail _ (.head _))))) hx326 r325 fun h O=>?_;refine gH ?_
               exact jx (v297.set x300 r325) hm (O.sel [4,5,6,1,2,3] (by decide))
             ·refine gX ?_
              exact jx v297 hm O
           ·clear hm;rintro v301 base h hm O
            refine gX ?_
            refine dF ?_
            refine gX ?_
            refine dF ?_
            refine gX ?_
            refine dF ?_
            refine gX ?_
            refine ix 1 hm fun x327 hx327 hm=>?_;refine gH ?_
            refine⟨_,ae rfl (O.at (.head _)) rfl (bd (enc:=n8) (s:=1) (k:=0) (fun _=>rfl) hx327 rfl),?_⟩;refine gH ?_
            refine fg Tryz.func135 ?_;refine gX ?_
            refine br hm (fun hm=>?_) fun hm=>?_
            ·refine gX ?_
             refine fg Tryz.func113 ?_;refine gX ?_
             (first|refine⟨.inr (.inr (ae rfl (O.at (.head _)) rfl rfl)),?_⟩|refine⟨.inr (.inr (ae rfl (O.at (.tail _ (.head _))) rfl rfl)),?_⟩|refine⟨.inr (.inr (ae rfl (O.at (.tail _ (.tail _ (.head _)))) rfl rfl)),?_⟩|refine⟨.inr (.inr (ae rfl (O.at (.tail _ (.tail _ (.tail _ (.head _))))) rfl rfl)),?_⟩|refine⟨.inr (.inr (ae rfl (O.at (.tail _ (.tail _ (.tail _ (.tail _ (.head _)))))) rfl rfl)),?_⟩|refine⟨.inr (.inr (ae rfl (O.at (.tail _ (.tail _ (.tail _ (.tail _ (.tail _ (.head _))))))) rfl rfl)),?_⟩|refine⟨.inr (.inr (ae rfl (O.at (.tail _ (.tail _ (.tail _ (.tail _ (.tail _ (.tail _ (.head _)))))))) rfl rfl)),?_⟩|refine⟨.inl (Ext.refl _),?_⟩|refine⟨.inr (.inr rfl),?_⟩|refine⟨.inr (by kernel_rfl),?_⟩|refine⟨.inl (by kernel_rfl),?_⟩|refine id ?_);refine gH ?_
             refine ix 1 hm fun x328 hx328 hm=>?_;refine gH ?_
             refine O.stE 1 (.head _) hx328 p1.value fun h O=>?_;refine gH ?_
             (first|refine⟨.inr (.inr (ae rfl (O.at (.head _)) rfl rfl)),?_⟩|refine⟨.inr (.inr (ae rfl (O.at (.tail _ (.head _))) rfl rfl)),?_⟩|refine⟨.inr (.inr (ae rfl (O.at (.tail _ (.tail _ (.head _)))) rfl rfl)),?_⟩|refine⟨.inr (.inr (ae rfl (O.at (.tail _ (.tail _ (.tail _ (.head _))))) rfl rfl)),?_⟩|refine⟨.inr (.inr (ae rfl (O.at (.tail _ (.tail _ (.tail _ (.tail _ (.head _)))))) rfl rfl)),?_⟩|refine⟨.inr (.inr (ae rfl (O.at (.tail _ (.tail _ (.tail _ (.tail _ (.tail _ (.head _))))))) rfl rfl)),?_⟩|refine⟨.inr (.inr (ae rfl (O.at (.tail _ (.tail _ (.tail _ (.tail _ (.tail _ (.tail _ (.head _)))))))) rfl rfl)),?_⟩|refine⟨.inl (Ext.refl _),?_⟩|refine⟨.inr (.inr rfl),?_⟩|refine⟨.inr (by kernel_rfl),?_⟩|refine⟨.inl (by kernel_rfl),?_⟩|refine id ?_);refine gH ?_
             refine gX ?_
             refine aF hm fun hm=>?_;refine gH ?_
             exact jx ((v301.set x300 p1.value),(v298+1)) hm O
            ·refine gX ?_
             (first|refine⟨.inr (.inr (ae rfl (O.at (.head _)) rfl rfl)),?_⟩|refine⟨.inr (.inr (ae rfl (O.at (.tail _ (.head _))) rfl rfl)),?_⟩|refine⟨.inr (.inr (ae rfl (O.at (.tail _ (.tail _ (.head _)))) rfl rfl)),?_⟩|refine⟨.inr (.inr (ae rfl (O.at (.tail _ (.tail _ (.tail _ (.head _))))) rfl rfl)),?_⟩|refine⟨.inr (.inr (ae rfl (O.at (.tail _ (.tail _ (.tail _ (.tail _ (.head _)))))) rfl rfl)),?_⟩|refine⟨.inr (.inr (ae rfl (O.at (.tail _ (.tail _ (.tail _ (.tail _ (.tail _ (.head _))))))) rfl rfl)),?_⟩|refine⟨.inr (.inr (ae rfl (O.at (.tail _ (.tail _ (.tail _ (.tail _ (.tail _ (.tail _ (.head _)))))))) rfl rfl)),?_⟩|refine⟨.inl (Ext.refl _),?_⟩|refine⟨.inr (.inr rfl),?_⟩|refine⟨.inr (by kernel_rfl),?_⟩|refine⟨.inl (by kernel_rfl),?_⟩|refine id ?_);refine gH ?_
             refine ix 1 hm fun x329 hx329 hm=>?_;refine gH ?_
             refine O.stE 1 (.head _) hx329 x327 fun h O=>?_;refine gH ?_
             (first|refine⟨.inr (.inr (ae rfl (O.at (.head _)) rfl rfl)),?_⟩|refine⟨.inr (.inr (ae rfl (O.at (.tail _ (.head _))) rfl rfl)),?_⟩|refine⟨.inr (.inr (ae rfl (O.at (.tail _ (.tail _ (.head _)))) rfl rfl)),?_⟩|refine⟨.inr (.inr (ae rfl (O.at (.tail _ (.tail _ (.tail _ (.head _))))) rfl rfl)),?_⟩|refine⟨.inr (.inr (ae rfl (O.at (.tail _ (.tail _ (.tail _ (.tail _ (.head _)))))) rfl rfl)),?_⟩|refine⟨.inr (.inr (ae rfl (O.at (.tail _ (.tail _ (.tail _ (.tail _ (.tail _ (.head _))))))) rfl rfl)),?_⟩|refine⟨.inr (.inr (ae rfl (O.at (.tail _ (.tail _ (.tail _ (.tail _ (.tail _ (.tail _ (.head _)))))))) rfl rfl)),?_⟩|refine⟨.inl (Ext.refl _),?_⟩|refine⟨.inr (.inr rfl),?_⟩|refine⟨.inr (by kernel_rfl),?_⟩|refine⟨.inl (by kernel_rfl),?_⟩|refine id ?_);refine gH ?_
             refine gX ?_
             refine aF hm fun hm=>?_;refine gH ?_
             exact jx ((v301.set x300 x327),(v298+1)) hm O
          ·refine gX ?_
           exact jx v297 hm O
         ·clear hm;rintro v295 base h hm O
          refine gX ?_
          have O:=O.aG (.cells (flatC ((([]:List Nat)).map n8)) false)
          have O:=O.aG (.cells (flatC ((([]:List Nat)).map n8)) false)
          (first|refine O.new (ai (l:=[nS,nS]) rfl rfl rfl) fun g330 h O=>?_|refine O.bB (ai (l:=[nS,nS]) rfl rfl rfl) fun g330 h O=>?_);refine gH ?_
          refine jn (σ:=(List Nat)×Option Nat) hm 189 [0,4,5,16] (fun s=>s.1) (fun (v335,a334) h=>(a334=none->v335=[])/\Own vars h0 [(sC g274 (flatC (v295.map n8))),(sC g268 [(clo 113 [(FP (aC p1))])]),(sC g272 [nS,nS]),(sC g330 [(ah 1 a334 (v335.map n8)),(ah 1 none (([]:List Nat).map n8))]),(a334,.cells (flatC (v335.map n8)) false),(none,.cells (flatC (([]:List Nat).map n8)) false),(sC g1 [((ag 1 n8) r6.1.out),((ag 1 n8) r6.1.next)]),(sC g3 [nS,nS]),(sR g270 (cy p0 (.slice (some ⟨g274,0,none⟩) p0.nodes.length p0.nodes.length) (clo 135 [(FP (az p1.line)),(pG g268)]) (clo 109 [])))] h) (fun (v335,a334)=>[]) (fun hm=>?_) ?_
          ·refine gX ?_
           refine lw 189 [0,4,5,16,143,144] (σ:=((List Nat)×Nat)×Option Nat) (fun s=>s.1) (fun ((v339,v340),a338) h=>(a338=none->v339=[])/\Own vars h0 [(sC g274 (flatC (v295.map n8))),(sC g268 [(clo 113 [(FP (aC p1))])]),(sC g272 [nS,nS]),(sC g330 [(ah 1 a338 (v339.map n8)),(ah 1 none (([]:List Nat).map n8))]),(a338,.cells (flatC (v339.map n8)) false),(none,.cells (flatC (([]:List Nat).map n8)) false),(sC g1 [((ag 1 n8) r6.1.out),((ag 1 n8) r6.1.next)]),(sC g3 [nS,nS]),(sR g270 (cy p0 (.slice (some ⟨g274,0,none⟩) p0.nodes.length p0.nodes.length) (clo 135 [(FP (az p1.line)),(pG g268)]) (clo 109 [])))] h) (fun ((v339,v340),a338)=>[(145,(i64 v340))]) ((([]:List Nat),0),none) hm ⟨(fun _=>rfl),(O.sel [3,4,5,0,2,1,6,7,8] (by decide))⟩ ?_
           clear hm;rintro⟨⟨v339,v340⟩,a338⟩ nx342 base h hm ⟨ha341,O⟩
           refine gX ?_
           refine br hm (fun hm=>?_) fun hm=>?_
           ·refine gX ?_
            refine atF hm fun x343 hx343 hm=>?_;refine gX ?_
            refine ldO (O.at (.tail _ (.tail _ (.tail _ (.head _))))) ?_;refine gH ?_
            first|refine⟨.inr (.inr (ae rfl (O.at (.tail _ (.tail _ (.tail _ (.head _))))) rfl rfl)),?_⟩|refine⟨.inr (.inl (by kernel_rfl)),?_⟩
            refine gX ?_
            refine dF ?_
            refine gX ?_
            refine ix 1 hm fun x344 hx344 hm=>?_;refine gH ?_
            refine⟨_,ae rfl (O.at (.head _)) rfl (bd (enc:=n8) (s:=1) (k:=0) (fun _=>rfl) hx344 rfl),?_⟩;refine gH ?_
            refine O.bE (l:=([x344]:(List Nat))) (enc:=n8) (s:=1) (z:=(n8 0)) rfl rfl (by kernel_rfl) (by kernel_rfl) rfl rfl rfl rfl (fun _=>rfl) fun g345 h O=>?_;refine gH ?_
            refine O.bQ (enc:=n8) (l:=v339) (new:=([x344]:(List Nat))) (s:=1) (b:=1) (.tail _ (.tail _ (.tail _ (.tail _ (.tail _ (.head _)))))) ha341 rfl rfl rfl rfl rfl rfl rfl rfl (YOk.own (O.at (.head _)) rfl (fun _=>rfl) rfl) (fun _=>rfl) (fun _=>rfl) (by decide) hm.1 fun a347 h ha348 O=>?_;refine gH ?_
            (first|refine⟨.inr (.inr (ae rfl (O.at (.head _)) rfl rfl)),?_⟩|refine⟨.inr (.inr (ae rfl (O.at (.tail _ (.head _))) rfl rfl)),?_⟩|refine⟨.inr (.inr (ae rfl (O.at (.tail _ (.tail _ (.head _)))) rfl rfl)),?_⟩|refine⟨.inr (.inr (ae rfl (O.at (.tail _ (.tail _ (.tail _ (.head _))))) rfl rfl)),?_⟩|refine⟨.inr (.inr (ae rfl (O.at (.tail _ (.tail _ (.tail _ (.tail _ (.head _)))))) rfl rfl)),?_⟩|refine⟨.inr (.inr (ae rfl (O.at (.tail _ (.tail _ (.tail _ (.tail _ (.tail _ (.head _))))))) rfl rfl)),?_⟩|refine⟨.inr (.inr (ae rfl (O.at (.tail _ (.tail _ (.tail _ (.tail _ (.tail _ (.tail _ (.head _)))))))) rfl rfl)),?_⟩|refine⟨.inl (Ext.refl _),?_⟩|refine⟨.inr (.inr rfl),?_⟩|refine⟨.inr (by kernel_rfl),?_⟩|refine⟨.inl (by kernel_rfl),?_⟩|refine id ?_);refine gH ?_
            replace hm:=hm.2
            refine O.stC 1 (.tail _ (.tail _ (.tail _ (.tail _ (.head _))))) [(ah 1 a347 ((v339++([x344]:(List Nat))).map n8)),(ah 1 none (([]:List Nat).map n8))] fun h O=>?_;refine gH ?_
            (first|refine⟨.inr (.inr (ae rfl (O.at (.head _)) rfl rfl)),?_⟩|refine⟨.inr (.inr (ae rfl (O.at (.tail _ (.head _))) rfl rfl)),?_⟩|refine⟨.inr (.inr (ae rfl (O.at (.tail _ (.tail _ (.head _)))) rfl rfl)),?_⟩|refine⟨.inr (.inr (ae rfl (O.at (.tail _ (.tail _ (.tail _ (.head _))))) rfl rfl)),?_⟩|refine⟨.inr (.inr (ae rfl (O.at (.tail _ (.tail _ (.tail _ (.tail _ (.head _)))))) rfl rfl)),?_⟩|refine⟨.inr (.inr (ae rfl (O.at (.tail _ (.tail _ (.tail _ (.tail _ (.tail _ (.head _))))))) rfl rfl)),?_⟩|refine⟨.inr (.inr (ae rfl (O.at (.tail _ (.tail _ (.tail _ (.tail _ (.tail _ (.tail _ (.head _)))))))) rfl rfl)),?_⟩|refine⟨.inl (Ext.refl _),?_⟩|refine⟨.inr (.inr rfl),?_⟩|refine⟨.inr (by kernel_rfl),?_⟩|refine⟨.inl (by kernel_rfl),?_⟩|refine id ?_);refine gH ?_
            refine gX ?_
            refine aF hm fun hm=>?_;refine gH ?_
            exact jx (((v339++([x344]:(List Nat))),(v340+1)),a347) hm ⟨ha348,(O.sel [1,2,3,4,5,6,7,8,9] (by decide))⟩
           ·refine gX ?_
            exact jx (v339,a338) hm ⟨ha341,O⟩
          ·clear hm;rintro⟨v335,a334⟩ base h hm ⟨ha336,O⟩
           conv=>whnf
           refine jn (σ:=(List Nat)×Option Nat) hm 189 [4,16] (fun s=>s.1) (fun (v350,a349) h=>(a334=none->v335=[])/\(a349=none->v350=[])/\Own vars h0 [(sC g272 [nS,nS]),(sC g330 [(ah 1 a334 (v335.map n8)),(ah 1 a349 (v350.map n8))]),(a334,.cells (flatC (v335.map n8)) false),(a349,.cells (flatC (v350.map n8)) false),(sC g1 [((ag 1 n8) r6.1.out),((ag 1 n8) r6.1.next)]),(sC g3 [nS,nS]),(sR g270 (cy p0 (.slice (some ⟨g274,0,none⟩) p0.nodes.length p0.nodes.length) (clo 135 [(FP (az p1.line)),(pG g268)]) (clo 109 []))),(sC g274 (flatC (v295.map n8))),(sC g268 [(clo 113 [(FP (aC p1))])])] h) (fun (v350,a349)=>[]) (fun hm=>?_) ?_
           ·refine gX ?_
            refine lw 189 [0,4,16,162,163] (σ:=((List Nat)×Nat)×Option Nat) (fun s=>s.1) (fun ((v355,v356),a354) h=>(a334=none->v335=[])/\(a354=none->v355=[])/\Own vars h0 [(sC g274 (flatC (v295.map n8))),(sC g268 [(clo 113 [(FP (aC p1))])]),(sC g272 [nS,nS]),(sC g330 [(ah 1 a334 (v335.map n8)),(ah 1 a354 (v355.map n8))]),(a334,.cells (flatC (v335.map n8)) false),(a354,.cells (flatC (v355.map n8)) false),(sC g1 [((ag 1 n8) r6.1.out),((ag 1 n8) r6.1.next)]),(sC g3 [nS,nS]),(sR g270 (cy p0 (.slice (some ⟨g274,0,none⟩) p0.nodes.length p0.nodes.length) (clo 135 [(FP (az p1.line)),(pG g268)]) (clo 109 [])))] h) (fun ((v355,v356),a354)=>[(164,(i64 v356))]) ((([]:List Nat),0),none) hm ⟨ha336,(fun _=>rfl),O⟩ ?_
            clear hm;rintro⟨⟨v355,v356⟩,a354⟩ nx359 base h hm ⟨ha357,ha358,O⟩
            refine gX ?_
            refine br hm (fun hm=>?_) fun hm=>?_
            ·refine gX ?_
             refine atF hm fun x360 hx360 hm=>?_;refine gX ?_
             refine fg Tryz.func115 ?_;conv=>whnf
             apply Cs;conv=>whnf
             apply Cs;refine gH ?_
             have O:=O.aG (.cells (flatC ((([]:List Nat)).map n8)) false)
             apply Cs;conv=>whnf
             apply Cs;refine gH ?_
             have O:=O.aG (.cells (flatC ((([]:List Nat)).map n8)) false)
             refine jn (σ:=(List Nat)×Option Nat) hm 42 [] (fun s=>s.1) (fun (v364,a363) h=>(a363=none->v364=[])/\(a334=none->v335=[])/\(a354=none->v355=[])/\Own vars h0 [(a363,.cells (flatC (v364.map n8)) false),(sC g1 [((ag 1 n8) r6.1.out),((ag 1 n8) r6.1.next)]),(sC g3 [nS,nS]),(sR g270 (cy p0 (.slice (some ⟨g274,0,none⟩) p0.nodes.length p0.nodes.length) (clo 135 [(FP (az p1.line)),(pG g268)]) (clo 109 []))),(sC g274 (flatC (v295.map n8))),(sC g268 [(clo 113 [(FP (aC p1))])]),(sC g272 [nS,nS]),(sC g330 [(ah 1 a334 (v335.map n8)),(ah 1 a354 (v355.map n8))]),(a334,.cells (flatC (v335.map n8)) false),(a354,.cells (flatC (v355.map n8)) false)] h) (fun (v364,a363)=>[(5,(ah 1 a363 (v364.map n8)))]) (fun hm=>?_) ?_
             ·refine gX ?_
              refine atF hm fun x369 hx369 hm=>?_;refine gX ?_
              refine lw 42 [0,1,16,17] (σ:=((List Nat)×Nat)×Option Nat) (fun s=>s.1) (fun ((v371,v372),a370) h=>(a370=none->v371=[])/\(a334=none->v335=[])/\(a354=none->v355=[])/\Own vars h0 [(sC g274 (flatC (v295.map n8))),(sC g268 [(clo 113 [(FP (aC p1))])]),(a370,.cells (flatC (v371.map n8)) false),(sC g1 [((ag 1 n8) r6.1.out),((ag 1 n8) r6.1.next)]),(sC g3 [nS,nS]),(sR g270 (cy p0 (.slice (some ⟨g274,0,none⟩) p0.nodes.length p0.nodes.length) (clo 135 [(FP (az p1.line)),(pG g268)]) (clo 109 []))),(sC g272 [nS,nS]),(sC g330 [(ah 1 a334 (v335.map n8)),(ah 1 a354 (v355.map n8))]),(a334,.cells (flatC (v335.map n8)) false),(a354,.cells (flatC (v355.map n8)) false)] h) (fun ((v371,v372),a370)=>[(5,(ah 1 a370 (v371.map n8))),(18,(i64 v372))]) ((([]:List Nat),0),none) hm ⟨(fun _=>rfl),ha357,ha358,(O.sel [2,3,0,8,9,10,4,5,6,7] (by decide))⟩ ?_
              clear hm;rintro⟨⟨v371,v372⟩,a370⟩ nx376 base h hm ⟨ha373,ha374,ha375,O⟩
              refine gX ?_
              refine br hm (fun hm=>?_) fun hm=>?_
              ·refine gX ?_
               refine atF hm fun x377 hx377 hm=>?_;refine gX ?_
               refine dF ?_
               refine gX ?_
               refine dF ?_
               refine gX ?_
               refine ix 1 hm fun x378 hx378 hm=>?_;refine gH ?_
               refine⟨_,ae rfl (O.at (.head _)) rfl (bd (enc:=n8) (s:=1) (k:=0) (fun _=>rfl) hx378 rfl),?_⟩;refine gH ?_
               refine fg Tryz.func109 ?_;refine gX ?_
               (first|refine⟨.inr (.inr (ae rfl (O.at (.head _)) rfl rfl)),?_⟩|refine⟨.inr (.inr (ae rfl (O.at (.tail _ (.head _))) rfl rfl)),?_⟩|refine⟨.inr (.inr (ae rfl (O.at (.tail _ (.tail _ (.head _)))) rfl rfl)),?_⟩|refine⟨.inr (.inr (ae rfl (O.at (.tail _ (.tail _ (.tail _ (.head _))))) rfl rfl)),?_⟩|refine⟨.inr (.inr (ae rfl (O.at (.tail _ (.tail _ (.tail _ (.tail _ (.head _)))))) rfl rfl)),?_⟩|refine⟨.inr (.inr (ae rfl (O.at (.tail _ (.tail _ (.tail _ (.tail _ (.tail _ (.head _))))))) rfl rfl)),?_⟩|refine⟨.inr (.inr (ae rfl (O.at (.tail _ (.tail _ (.tail _ (.tail _ (.tail _ (.tail _ (.head _)))))))) rfl rfl)),?_⟩|refine⟨.inl (Ext.refl _),?_⟩|refine⟨.inr (.inr rfl),?_⟩|refine⟨.inr (by kernel_rfl),?_⟩|refine⟨.inl (by kernel_rfl),?_⟩|refine id ?_);refine gH ?_
               refine O.bE (l:=([x378]:(List Nat))) (enc:=n8) (s:=1) (z:=(n8 0)) rfl rfl (by kernel_rfl) (by kernel_rfl) rfl rfl rfl rfl (fun _=>rfl) fun g379 h O=>?_;refine gH ?_
               refine O.bQ (enc:=n8) (l:=v371) (new:=([x378]:(List Nat))) (s:=1) (b:=1) (.tail _ (.tail _ (.tail _ (.head _)))) ha373 rfl rfl rfl rfl rfl rfl rfl rfl (YOk.own (O.at (.head _)) rfl (fun _=>rfl) rfl) (fun _=>rfl) (fun _=>rfl) (by decide) hm.1 fun a381 h ha382 O=>?_;refine gH ?_
               (first|refine⟨.inr (.inr (ae rfl (O.at (.head _)) rfl rfl)),?_⟩|refine⟨.inr (.inr (ae rfl (O.at (.tail _ (.head _))) rfl rfl)),?_⟩|refine⟨.inr (.inr (ae rfl (O.at (.tail _ (.tail _ (.head _)))) rfl rfl)),?_⟩|refine⟨.inr (.inr (ae rfl (O.at (.tail _ (.tail _ (.tail _ (.head _))))) rfl rfl)),?_⟩|refine⟨.inr (.inr (ae rfl (O.at (.tail _ (.tail _ (.tail _ (.tail _ (.head _)))))) rfl rfl)),?_⟩|refine⟨.inr (.inr (ae rfl (O.at (.tail _ (.tail _ (.tail _ (.tail _ (.tail _ (.head _))))))) rfl rfl)),?_⟩|refine⟨.inr (.inr (ae rfl (O.at (.tail _ (.tail _ (.tail _ (.tail _ (.tail _ (.tail _ (.head _)))))))) rfl rfl)),?_⟩|refine⟨.inl (Ext.refl _),?_⟩|refine⟨.inr (.inr rfl),?_⟩|refine⟨.inr (by kernel_rfl),?_⟩|refine⟨.inl (by kernel_rfl),?_⟩|refine id ?_);refine gH ?_
               replace hm:=hm.2
               refine gX ?_
               refine aF hm fun hm=>?_;refine gH ?_
               exact jx (((v371++([x378]:(List Nat))),(v372+1)),a381) hm ⟨ha382,ha374,ha375,(O.sel [1,2,3,4,5,6,7,8,9,10] (by decide))⟩
              ·refine gX ?_
               exact jx (v371,a370) hm ⟨ha373,ha374,ha375,(O.sel [2,3,4,5,0,1,6,7,8,9] (by decide))⟩
             ·clear hm;rintro⟨v364,a363⟩ base h hm ⟨ha365,ha366,ha367,O⟩
              refine gX ?_
              obtain⟨x383,hx383,hm⟩:=hm
              have h9:=hm
              obtain⟨g384,rfl⟩:=ee ha365 hx383
              replace hm:=h9
              refine cU (s:=1) (j:=0) rfl rfl rfl rfl (by rw[List.length_map];exact ak hx383) ?_;refine gH ?_
              refine ldE (s:=1) (i:=0) (O.at (.head _)) hx383 ?_;refine gH ?_
              refine jn hm 189 [0,4,16,162,163,164] (fun s=>s) (fun v385 h=>(a334=none->v335=[])/\(a354=none->v355=[])/\Own vars h0 [(sC g274 (flatC (v295.map n8))),(sC g268 [(clo 113 [(FP (aC p1))])]),(sC g272 [nS,nS]),(sC g330 [(ah 1 a334 (v335.map n8)),(ah 1 a354 (v355.map n8))]),(a334,.cells (flatC (v335.map n8)) false),(a354,.cells (flatC (v355.map n8)) false),(sC g1 [((ag 1 n8) r6.1.out),((ag 1 n8) r6.1.next)]),(sC g3 [nS,nS]),(sR g270 (cy p0 (.slice (some ⟨g274,0,none⟩) p0.nodes.length p0.nodes.length) (clo 135 [(FP (az p1.line)),(pG g268)]) (clo 109 [])))] h) (fun v385=>[(21,(n8 v385))]) (fun hm=>?_) ?_
              ·refine gX ?_
               refine br hm (fun hm=>?_) fun hm=>?_
               ·refine gX ?_
                exact jx 2 hm ⟨ha366,ha367,(O.sel [4,5,6,7,8,9,1,2,3] (by decide))⟩
               ·refine gX ?_
                exact jx x383 hm ⟨ha366,ha367,(O.sel [4,5,6,7,8,9,1,2,3] (by decide))⟩
              ·clear hm;rintro v385 base h hm ⟨ha386,ha387,O⟩
               refine gX ?_
               refine ldO (O.at (.tail _ (.tail _ (.tail _ (.head _))))) ?_;refine gH ?_
               refine fz ?_;refine gH ?_
               refine O.apL (enc:=n8) (l:=v355) (new:=([v385]:(List Nat))) 1 (.tail _ (.tail _ (.tail _ (.tail _ (.tail _ (.head _)))))) ha387 hm fun a389 h ha390 O hm=>?_;refine gH ?_
               refine O.stC 1 (.tail _ (.tail _ (.tail _ (.head _)))) [(ah 1 a334 (v335.map n8)),(ah 1 a389 ((v355++([v385]:(List Nat))).map n8))] fun h O=>?_;refine gX ?_
               refine aF hm fun hm=>?_;refine gH ?_
               exact jx (((v355++([v385]:(List Nat))),(v356+1)),a389) hm ⟨ha386,ha390,O⟩
            ·refine gX ?_
             exact jx (v355,a354) hm ⟨ha357,ha358,(O.sel [2,3,4,5,6,7,8,0,1] (by decide))⟩
           ·clear hm;rintro⟨v350,a349⟩ base h hm ⟨ha351,ha352,O⟩
            refine gX ?_
            first|refine⟨.inr (.inr (ae rfl (O.at (.tail _ (.head _))) rfl rfl)),?_⟩|refine⟨.inr (.inl (by kernel_rfl)),?_⟩
            refine gX ?_
            refine fg Tryz.func73 ?_;refine gX ?_
            refine gK (s:=1) (enc:=n8) (l:=v335) (n:=v335.length) (m:=v335.length) rfl rfl rfl rfl rfl rfl rfl ?_;refine gX ?_
            (first|refine⟨.inr (.inr (ae rfl (O.at (.head _)) rfl rfl)),?_⟩|refine⟨.inr (.inr (ae rfl (O.at (.tail _ (.head _))) rfl rfl)),?_⟩|refine⟨.inr (.inr (ae rfl (O.at (.tail _ (.tail _ (.head _)))) rfl rfl)),?_⟩|refine⟨.inr (.inr (ae rfl (O.at (.tail _ (.tail _ (.tail _ (.head _))))) rfl rfl)),?_⟩|refine⟨.inr (.inr (ae rfl (O.at (.tail _ (.tail _ (.tail _ (.tail _ (.head _)))))) rfl rfl)),?_⟩|refine⟨.inr (.inr (ae rfl (O.at (.tail _ (.tail _ (.tail _ (.tail _ (.tail _ (.head _))))))) rfl rfl)),?_⟩|refine⟨.inr (.inr (ae rfl (O.at (.tail _ (.tail _ (.tail _ (.tail _ (.tail _ (.tail _ (.head _)))))))) rfl rfl)),?_⟩|refine⟨.inl (Ext.refl _),?_⟩|refine⟨.inr (.inr rfl),?_⟩|refine⟨.inr (by kernel_rfl),?_⟩|refine⟨.inl (by kernel_rfl),?_⟩|refine id ?_);refine gH ?_
            first|refine⟨.inr (.inr (ae rfl (O.at (.tail _ (.head _))) rfl rfl)),?_⟩|refine⟨.inr (.inl (by kernel_rfl)),?_⟩
            refine gX ?_
            refine fg Tryz.func73 ?_;refine gX ?_
            refine gK (s:=1) (enc:=n8) (l:=v350) (n:=v350.length) (m:=v350.length) rfl rfl rfl rfl rfl rfl rfl ?_;refine gX ?_
            (first|refine⟨.inr (.inr (ae rfl (O.at (.head _)) rfl rfl)),?_⟩|refine⟨.inr (.inr (ae rfl (O.at (.tail _ (.head _))) rfl rfl)),?_⟩|refine⟨.inr (.inr (ae rfl (O.at (.tail _ (.tail _ (.head _)))) rfl rfl)),?_⟩|refine⟨.inr (.inr (ae rfl (O.at (.tail _ (.tail _ (.tail _ (.head _))))) rfl rfl)),?_⟩|refine⟨.inr (.inr (ae rfl (O.at (.tail _ (.tail _ (.tail _ (.tail _ (.head _)))))) rfl rfl)),?_⟩|refine⟨.inr (.inr (ae rfl (O.at (.tail _ (.tail _ (.tail _ (.tail _ (.tail _ (.head _))))))) rfl rfl)),?_⟩|refine⟨.inr (.inr (ae rfl (O.at (.tail _ (.tail _ (.tail _ (.tail _ (.tail _ (.tail _ (.head _)))))))) rfl rfl)),?_⟩|refine⟨.inl (Ext.refl _),?_⟩|refine⟨.inr (.inr rfl),?_⟩|refine⟨.inr (by kernel_rfl),?_⟩|refine⟨.inl (by kernel_rfl),?_⟩|refine id ?_);refine gH ?_
            refine O.stC 2 (.head _) [(bN a334 (v335.map n8)),(bN a349 (v350.map n8))] fun h O=>?_;refine gH ?_
            (first|refine⟨.inr (.inr (ae rfl (O.at (.head _)) rfl rfl)),?_⟩|refine⟨.inr (.inr (ae rfl (O.at (.tail _ (.head _))) rfl rfl)),?_⟩|refine⟨.inr (.inr (ae rfl (O.at (.tail _ (.tail _ (.head _)))) rfl rfl)),?_⟩|refine⟨.inr (.inr (ae rfl (O.at (.tail _ (.tail _ (.tail _ (.head _))))) rfl rfl)),?_⟩|refine⟨.inr (.inr (ae rfl (O.at (.tail _ (.tail _ (.tail _ (.tail _ (.head _)))))) rfl rfl)),?_⟩|refine⟨.inr (.inr (ae rfl (O.at (.tail _ (.tail _ (.tail _ (.tail _ (.tail _ (.head _))))))) rfl rfl)),?_⟩|refine⟨.inr (.inr (ae rfl (O.at (.tail _ (.tail _ (.tail _ (.tail _ (.tail _ (.tail _ (.head _)))))))) rfl rfl)),?_⟩|refine⟨.inl (Ext.refl _),?_⟩|refine⟨.inr (.inr rfl),?_⟩|refine⟨.inr (by kernel_rfl),?_⟩|refine⟨.inl (by kernel_rfl),?_⟩|refine id ?_);refine gH ?_
            refine gX ?_
            refine⟨_,aD rfl rfl (O.at (.head _)) rfl rfl (lbE rfl) rfl,?_⟩;refine gX ?_
            refine O.stC 2 (.tail _ (.tail _ (.tail _ (.tail _ (.tail _ (.head _)))))) [(bN a334 (v335.map n8)),(bN a349 (v350.map n8))] fun h O=>?_;refine gX ?_
            refine ldA (O.at (.tail _ (.tail _ (.tail _ (.tail _ (.head _)))))) ?_;refine gH ?_
            first|refine⟨.inr (.inr (bg rfl (O.at (.tail _ (.tail _ (.tail _ (.tail _ (.head _)))))) rfl rfl (lbE rfl) rfl)),?_⟩|refine⟨.inr (.inl (by kernel_rfl)),?_⟩
            refine gX ?_
            refine ldA (O.at (.tail _ (.tail _ (.tail _ (.tail _ (.tail _ (.head _))))))) ?_;refine gH ?_
            first|refine⟨.inr (.inr (bg rfl (O.at (.tail _ (.tail _ (.tail _ (.tail _ (.tail _ (.head _))))))) rfl rfl (lbE rfl) rfl)),?_⟩|refine⟨.inr (.inl (by kernel_rfl)),?_⟩
            refine gX ?_
            refine ldO (O.at (.tail _ (.tail _ (.tail _ (.tail _ (.tail _ (.tail _ (.head _)))))))) ?_;refine gH ?_
            first|refine⟨.inr (.inr (ae rfl (O.at (.tail _ (.tail _ (.tail _ (.tail _ (.tail _ (.tail _ (.head _)))))))) rfl rfl)),?_⟩|refine⟨.inr (.inl (by kernel_rfl)),?_⟩
            refine gX ?_
            refine O.gN 2 (.tail _ (.tail _ (.tail _ (.tail _ (.head _))))) fun h hext O=>?_;conv=>whnf
            refine⟨.inr hext,?_⟩;refine gH ?_
            refine O.gN 2 (.tail _ (.tail _ (.tail _ (.tail _ (.tail _ (.head _)))))) fun h hext O=>?_;conv=>whnf
            refine⟨.inr hext,?_⟩;refine gX ?_
            refine⟨_,aD rfl rfl (O.at (.tail _ (.tail _ (.tail _ (.tail _ (.head _)))))) rfl rfl (lbE rfl) rfl,?_⟩;conv=>whnf
            refine⟨_,aD rfl rfl (O.at (.tail _ (.tail _ (.tail _ (.tail _ (.tail _ (.head _))))))) rfl rfl (lbE rfl) rfl,?_⟩;conv=>whnf
            obtain⟨hn391,hm⟩:=hm
            exact⟨(r6.1,(⟨v335,v350⟩:Rsp),v295,0),hm,O.ext,fun h2 F=>VLe.tup (LLe.cons (VLe.refl _ _) (LLe.cons (VLe.agg (LLe.cons (O.iH F (Nat.le_refl _) (.tail _ (.tail _ (.head _))) ha351 (fun _=>rfl)) (LLe.cons (O.iH F (Nat.le_refl _) (.tail _ (.tail _ (.tail _ (.head _)))) ha352 (fun _=>rfl)) (LLe.nil _)))) (LLe.cons (O.fY F (Nat.le_refl _) (.tail _ (.tail _ (.tail _ (.tail _ (.tail _ (.tail _ (.tail _ (.head _)))))))) (fun _=>rfl) hn391) (LLe.cons (VLe.refl _ _) (LLe.nil _)))))⟩
      ·refine gX ?_
       refine O.stC 1 (.head _) (cy p0 nS (clo 134 []) (clo 136 [(FP (az p1.line)),(pG g268)])) fun h O=>?_;refine gX ?_
       refine fg Tryz.func75 ?_;refine gX ?_
       refine fz ?_;refine gH ?_
       (first|refine O.new (ai (l:=[nS,nS]) rfl rfl rfl) fun g392 h O=>?_|refine O.bB (ai (l:=[nS,nS]) rfl rfl rfl) fun g392 h O=>?_);refine gH ?_
       refine gX ?_
       refine O.mkL (enc:=n8) 1 1 0 hm fun g394 h O hm=>?_;refine gH ?_
       refine O.stC 1 (.tail _ (.tail _ (.head _))) (cy p0 (.slice (some ⟨g394,0,none⟩) p0.nodes.length p0.nodes.length) (clo 134 []) (clo 136 [(FP (az p1.line)),(pG g268)])) fun h O=>?_;refine gH ?_
       apply Cs;conv=>whnf
       refine CodeS.pF O (.tail _ (.tail _ (.head _))) 0 rfl rfl fun h O=>?_;refine gX ?_
       refine ca (aR hm O.has) fun r396 hm=>?_;refine gH ?_
       refine jn hm 189 [0,3,4,5] (fun s=>s) (fun v397 h=>Own vars h0 [(sC g394 (flatC (v397.map n8))),(sC g268 [(clo 113 [(FP (aC p1))])]),(sC g392 [nS,nS]),(sC g1 [((ag 1 n8) r6.1.out),((ag 1 n8) r6.1.next)]),(sC g3 [nS,nS]),(sR g270 (cy p0 (.slice (some ⟨g394,0,none⟩) p0.nodes.length p0.nodes.length) (clo 134 []) (clo 136 [(FP (az p1.line)),(pG g268)])))] h) (fun v397=>[]) (fun hm=>?_) ?_
       ·refine gX ?_
        refine ca (bG hm O.has) fun r399 hm=>?_;refine gX ?_
        refine lw 189 [0,3,4,5,41,42] (σ:=((List Nat)×Nat)) (fun s=>s) (fun (v400,v401) h=>Own vars h0 [(sC g394 (flatC (v400.map n8))),(sC g268 [(clo 113 [(FP (aC p1))])]),(sC g392 [nS,nS]),(sC g1 [((ag 1 n8) r6.1.out),((ag 1 n8) r6.1.next)]),(sC g3 [nS,nS]),(sR g270 (cy p0 (.slice (some ⟨g394,0,none⟩) p0.nodes.length p0.nodes.length) (clo 134 []) (clo 136 [(FP (az p1.line)),(pG g268)])))] h) (fun (v400,v401)=>[(43,(i64 v401))]) ((List.replicate p0.nodes.length (0:Nat)),0) hm (O.sel [0,3,1,7,6,2] (by decide)) ?_
        clear hm;rintro⟨v400,v401⟩ nx402 base h hm O
        refine gX ?_
        refine br hm (fun hm=>?_) fun hm=>?_
        ·refine gX ?_
         refine atF hm fun x403 hx403 hm=>?_;refine gX ?_
         refine dF ?_
         refine gX ?_
         refine dF ?_
         refine gX ?_
         refine atF hm fun x404 hx404 hm=>?_;refine gH ?_
         refine ix 1 hm fun x405 hx405 hm=>?_;refine gH ?_
         refine O.stE 1 (.head _) hx405 x404 fun h O=>?_;refine gH ?_
         (first|refine⟨.inr (.inr (ae rfl (O.at (.head _)) rfl rfl)),?_⟩|refine⟨.inr (.inr (ae rfl (O.at (.tail _ (.head _))) rfl rfl)),?_⟩|refine⟨.inr (.inr (ae rfl (O.at (.tail _ (.tail _ (.head _)))) rfl rfl)),?_⟩|refine⟨.inr (.inr (ae rfl (O.at (.tail _ (.tail _ (.tail _ (.head _))))) rfl rfl)),?_⟩|refine⟨.inr (.inr (ae rfl (O.at (.tail _ (.tail _ (.tail _ (.tail _ (.head _)))))) rfl rfl)),?_⟩|refine⟨.inr (.inr (ae rfl (O.at (.tail _ (.tail _ (.tail _ (.tail _ (.tail _ (.head _))))))) rfl rfl)),?_⟩|refine⟨.inr (.inr (ae rfl (O.at (.tail _ (.tail _ (.tail _ (.tail _ (.tail _ (.tail _ (.head _)))))))) rfl rfl)),?_⟩|refine⟨.inl (Ext.refl _),?_⟩|refine⟨.inr (.inr rfl),?_⟩|refine⟨.inr (by kernel_rfl),?_⟩|refine⟨.inl (by kernel_rfl),?_⟩|refine id ?_);refine gH ?_
         refine gX ?_
         refine aF hm fun hm=>?_;refine gH ?_
         exact jx ((v400.set x403 x404),(v401+1)) hm O
        ·refine gX ?_
         exact jx v400 hm O
       ·clear hm;rintro v397 base h hm O
        conv=>whnf
        refine jn hm 189 [0,4,5] (fun s=>s) (fun v406 h=>Own vars h0 [(sC g394 (flatC (v406.map n8))),(sC g268 [(clo 113 [(FP (aC p1))])]),(sC g392 [nS,nS]),(sC g1 [((ag 1 n8) r6.1.out),((ag 1 n8) r6.1.next)]),(sC g3 [nS,nS]),(sR g270 (cy p0 (.slice (some ⟨g394,0,none⟩) p0.nodes.length p0.nodes.length) (clo 134 []) (clo 136 [(FP (az p1.line)),(pG g268)])))] h) (fun v406=>[]) (fun hm=>?_) ?_
        ·refine gX ?_
         refine lw 189 [0,3,4,5,60,61] (σ:=((List Nat)×Nat)) (fun s=>s) (fun (v408,v409) h=>Own vars h0 [(sC g394 (flatC (v408.map n8))),(sC g268 [(clo 113 [(FP (aC p1))])]),(sC g392 [nS,nS]),(sC g1 [((ag 1 n8) r6.1.out),((ag 1 n8) r6.1.next)]),(sC g3 [nS,nS]),(sR g270 (cy p0 (.slice (some ⟨g394,0,none⟩) p0.nodes.length p0.nodes.length) (clo 134 []) (clo 136 [(FP (az p1.line)),(pG g268)])))] h) (fun (v408,v409)=>[(62,(i64 v409))]) (v397,0) hm O ?_
         clear hm;rintro⟨v408,v409⟩ nx410 base h hm O
         refine gX ?_
         refine br hm (fun hm=>?_) fun hm=>?_
         ·refine gX ?_
          refine atF hm fun x411 hx411 hm=>?_;refine gX ?_
          refine dF ?_
          refine gX ?_
          refine dF ?_
          refine gX ?_
          refine atF hm fun x412 hx412 hm=>?_;refine gH ?_
          refine ix 1 hm fun x413 hx413 hm=>?_;refine gH ?_
          refine O.stE 1 (.head _) hx413 x412 fun h O=>?_;refine gH ?_
          (first|refine⟨.inr (.inr (ae rfl (O.at (.head _)) rfl rfl)),?_⟩|refine⟨.inr (.inr (ae rfl (O.at (.tail _ (.head _))) rfl rfl)),?_⟩|refine⟨.inr (.inr (ae rfl (O.at (.tail _ (.tail _ (.head _)))) rfl rfl)),?_⟩|refine⟨.inr (.inr (ae rfl (O.at (.tail _ (.tail _ (.tail _ (.head _))))) rfl rfl)),?_⟩|refine⟨.inr (.inr (ae rfl (O.at (.tail _ (.tail _ (.tail _ (.tail _ (.head _)))))) rfl rfl)),?_⟩|refine⟨.inr (.inr (ae rfl (O.at (.tail _ (.tail _ (.tail _ (.tail _ (.tail _ (.head _))))))) rfl rfl)),?_⟩|refine⟨.inr (.inr (ae rfl (O.at (.tail _ (.tail _ (.tail _ (.tail _ (.tail _ (.tail _ (.head _)))))))) rfl rfl)),?_⟩|refine⟨.inl (Ext.refl _),?_⟩|refine⟨.inr (.inr rfl),?_⟩|refine⟨.inr (by kernel_rfl),?_⟩|refine⟨.inl (by kernel_rfl),?_⟩|refine id ?_);refine gH ?_
          refine gX ?_
          refine aF hm fun hm=>?_;refine gH ?_
          exact jx ((v408.set x411 x412),(v409+1)) hm O
         ·refine gX ?_
          exact jx v408 hm O
        ·clear hm;rintro v406 base h hm O
         refine gX ?_
         refine ca (cg hm O.has) fun r414 hm=>?_;refine gH ?_
         apply Cs;conv=>whnf
         apply Cs;refine gH ?_
         refine jn hm 189 [0,4,5] (fun s=>s) (fun v415 h=>Own vars h0 [(sC g394 (flatC (v415.map n8))),(sC g268 [(clo 113 [(FP (aC p1))])]),(sC g392 [nS,nS]),(sC g1 [((ag 1 n8) r6.1.out),((ag 1 n8) r6.1.next)]),(sC g3 [nS,nS]),(sR g270 (cy p0 (.slice (some ⟨g394,0,none⟩) p0.nodes.length p0.nodes.length) (clo 134 []) (clo 136 [(FP (az p1.line)),(pG g268)])))] h) (fun v415=>[]) (fun hm=>?_) ?_
         ·refine gX ?_
          refine lw 189 [0,4,5,12,89,90] (σ:=((List Nat)×Nat)) (fun s=>s) (fun (v417,v418) h=>Own vars h0 [(sC g394 (flatC (v417.map n8))),(sC g268 [(clo 113 [(FP (aC p1))])]),(sC g392 [nS,nS]),(sC g1 [((ag 1 n8) r6.1.out),((ag 1 n8) r6.1.next)]),(sC g3 [nS,nS]),(sR g270 (cy p0 (.slice (some ⟨g394,0,none⟩) p0.nodes.length p0.nodes.length) (clo 134 []) (clo 136 [(FP (az p1.line)),(pG g268)])))] h) (fun (v417,v418)=>[(91,(i64 v418))]) (v406,0) hm O ?_
          clear hm;rintro⟨v417,v418⟩ nx419 base h hm O
          refine gX ?_
          refine br hm (fun hm=>?_) fun hm=>?_
          ·refine gX ?_
           refine atF hm fun x420 hx420 hm=>?_;refine gH ?_
           refine jn hm 189 [0,4,5,12,14,89,90,91] (fun s=>s) (fun v421 h=>Own vars h0 [(sC g394 (flatC (v421.map n8))),(sC g268 [(clo 113 [(FP (aC p1))])]),(sC g392 [nS,nS]),(sC g1 [((ag 1 n8) r6.1.out),((ag 1 n8) r6.1.next)]),(sC g3 [nS,nS]),(sR g270 (cy p0 (.slice (some ⟨g394,0,none⟩) p0.nodes.length p0.nodes.length) (clo 134 []) (clo 136 [(FP (az p1.line)),(pG g268)])))] h) (fun v421=>[]) (fun hm=>?_) ?_
           ·refine gX ?_
            refine atF hm fun x423 hx423 hm=>?_;refine gH ?_
            refine jn hm 189 [0,4,5,12,14,89,90,91] (fun s=>s) (fun v424 h=>Own vars h0 [(sC g394 (flatC (v417.map n8))),(sC g268 [(clo 113 [(FP (aC p1))])]),(sC g392 [nS,nS]),(sC g1 [((ag 1 n8) r6.1.out),((ag 1 n8) r6.1.next)]),(sC g3 [nS,nS]),(sR g270 (cy p0 (.slice (some ⟨g394,0,none⟩) p0.nodes.length p0.nodes.length) (clo 134 []) (clo 136 [(FP (az p1.line)),(pG g268)])))] h) (fun v424=>[(109,(.bool v424))]) (fun hm=>?_) ?_
            ·refine gX ?_
             refine br hm (fun hm=>?_) fun hm=>?_
             ·refine gX ?_
              exact jx (neN x423.kind 14) hm O
             ·refine gX ?_
              exact jx false hm O
            ·clear hm;rintro v424 base h hm O
             refine gX ?_
             refine br hm (fun hm=>?_) fun hm=>?_
             ·refine CodeS.jc ?_;refine gH ?_
              refine fg Tryz.func114 ?_;conv=>whnf
              apply Cs;conv=>whnf
              apply Cs;refine gH ?_
              apply Cs;conv=>whnf
              refine CodeS.jc ?_;refine gH ?_
              refine atF hm fun x426 hx426 hm=>?_;refine gH ?_
              refine fg Tryz.func115 ?_;conv=>whnf
              apply Cs;conv=>whnf
              apply Cs;refine gH ?_
              have O:=O.aG (.cells (flatC ((([]:List Nat)).map n8)) false)
              apply Cs;conv=>whnf
              apply Cs;refine gH ?_
              have O:=O.aG (.cells (flatC ((([]:List Nat)).map n8)) false)
              refine jn (σ:=(List Nat)×Option Nat) hm 42 [] (fun s=>s.1) (fun (v430,a429) h=>(a429=none->v430=[])/\Own vars h0 [(a429,.cells (flatC (v430.map n8)) false),(sC g1 [((ag 1 n8) r6.1.out),((ag 1 n8) r6.1.next)]),(sC g3 [nS,nS]),(sR g270 (cy p0 (.slice (some ⟨g394,0,none⟩) p0.nodes.length p0.nodes.length) (clo 134 []) (clo 136 [(FP (az p1.line)),(pG g268)]))),(sC g394 (flatC (v417.map n8))),(sC g268 [(clo 113 [(FP (aC p1))])]),(sC g392 [nS,nS])] h) (fun (v430,a429)=>[(5,(ah 1 a429 (v430.map n8)))]) (fun hm=>?_) ?_
              ·refine gX ?_
               refine atF hm fun x433 hx433 hm=>?_;refine gX ?_
               refine lw 42 [0,1,16,17] (σ:=((List Nat)×Nat)×Option Nat) (fun s=>s.1) (fun ((v435,v436),a434) h=>(a434=none->v435=[])/\Own vars h0 [(sC g394 (flatC (v417.map n8))),(sC g268 [(clo 113 [(FP (aC p1))])]),(a434,.cells (flatC (v435.map n8)) false),(sC g1 [((ag 1 n8) r6.1.out),((ag 1 n8) r6.1.next)]),(sC g3 [nS,nS]),(sR g270 (cy p0 (.slice (some ⟨g394,0,none⟩) p0.nodes.length p0.nodes.length) (clo 134 []) (clo 136 [(FP (az p1.line)),(pG g268)]))),(sC g392 [nS,nS])] h) (fun ((v435,v436),a434)=>[(5,(ah 1 a434 (v435.map n8))),(18,(i64 v436))]) ((([]:List Nat),0),none) hm ⟨(fun _=>rfl),(O.sel [2,3,0,5,6,7,4] (by decide))⟩ ?_
               clear hm;rintro⟨⟨v435,v436⟩,a434⟩ nx438 base h hm ⟨ha437,O⟩
               refine gX ?_
               refine br hm (fun hm=>?_) fun hm=>?_
               ·refine gX ?_
                refine atF hm fun x439 hx439 hm=>?_;refine gX ?_
                refine dF ?_
                refine gX ?_
                refine dF ?_
                refine gX ?_
                refine ix 1 hm fun x440 hx440 hm=>?_;refine gH ?_
                refine⟨_,ae rfl (O.at (.head _)) rfl (bd (enc:=n8) (s:=1) (k:=0) (fun _=>rfl) hx440 rfl),?_⟩;refine gH ?_
                refine fg Tryz.func136 ?_;conv=>whnf
                apply Cs;conv=>whnf
                apply Cs;refine gH ?_
                apply Cs;conv=>whnf
                refine jn hm 23 [2,4] (fun s=>s) (fun v441 h=>(a434=none->v435=[])/\Own vars h0 [(sC g268 [(clo 113 [(FP (aC p1))])]),(sC g1 [((ag 1 n8) r6.1.out),((ag 1 n8) r6.1.next)]),(sC g3 [nS,nS]),(sR g270 (cy p0 (.slice (some ⟨g394,0,none⟩) p0.nodes.length p0.nodes.length) (clo 134 []) (clo 136 [(FP (az p1.line)),(pG g268)]))),(sC g394 (flatC (v417.map n8))),(sC g392 [nS,nS]),(a434,.cells (flatC (v435.map n8)) false)] h) (fun v441=>[(18,(.bool v441))]) (fun hm=>?_) ?_
                ·refine gX ?_
                 refine br hm (fun hm=>?_) fun hm=>?_
                 ·refine gX ?_
                  exact jx (eqZ (Int.ofNat v436) p1.line.pin) hm ⟨ha437,(O.sel [1,3,4,5,0,6,2] (by decide))⟩
                 ·refine gX ?_
                  exact jx false hm ⟨ha437,(O.sel [1,3,4,5,0,6,2] (by decide))⟩
                ·clear hm;rintro v441 base h hm ⟨ha442,O⟩
                 refine gX ?_
                 refine br hm (fun hm=>?_) fun hm=>?_
                 ·refine gX ?_
                  refine fg Tryz.func113 ?_;refine gX ?_
                  (first|refine⟨.inr (.inr (ae rfl (O.at (.head _)) rfl rfl)),?_⟩|refine⟨.inr (.inr (ae rfl (O.at (.tail _ (.head _))) rfl rfl)),?_⟩|refine⟨.inr (.inr (ae rfl (O.at (.tail _ (.tail _ (.head _)))) rfl rfl)),?_⟩|refine⟨.inr (.inr (ae rfl (O.at (.tail _ (.tail _ (.tail _ (.head _))))) rfl rfl)),?_⟩|refine⟨.inr (.inr (ae rfl (O.at (.tail _ (.tail _ (.tail _ (.tail _ (.head _)))))) rfl rfl)),?_⟩|refine⟨.inr (.inr (ae rfl (O.at (.tail _ (.tail _ (.tail _ (.tail _ (.tail _ (.head _))))))) rfl rfl)),?_⟩|refine⟨.inr (.inr (ae rfl (O.at (.tail _ (.tail _ (.tail _ (.tail _ (.tail _ (.tail _ (.head _)))))))) rfl rfl)),?_⟩|refine⟨.inl (Ext.refl _),?_⟩|refine⟨.inr (.inr rfl),?_⟩|refine⟨.inr (by kernel_rfl),?_⟩|refine⟨.inl (by kernel_rfl),?_⟩|refine id ?_);refine gH ?_
                  refine O.bE (l:=([p1.value]:(List Nat))) (enc:=n8) (s:=1) (z:=(n8 0)) rfl rfl (by kernel_rfl) (by kernel_rfl) rfl rfl rfl rfl (fun _=>rfl) fun g444 h O=>?_;refine gH ?_
                  refine O.bQ (enc:=n8) (l:=v435) (new:=([p1.value]:(List Nat))) (s:=1) (b:=1) (.tail _ (.tail _ (.tail _ (.tail _ (.tail _ (.tail _ (.tail _ (.head _)))))))) ha442 rfl rfl rfl rfl rfl rfl rfl rfl (YOk.own (O.at (.head _)) rfl (fun _=>rfl) rfl) (fun _=>rfl) (fun _=>rfl) (by decide) hm.1 fun a446 h ha447 O=>?_;refine gH ?_
                  (first|refine⟨.inr (.inr (ae rfl (O.at (.head _)) rfl rfl)),?_⟩|refine⟨.inr (.inr (ae rfl (O.at (.tail _ (.head _))) rfl rfl)),?_⟩|refine⟨.inr (.inr (ae rfl (O.at (.tail _ (.tail _ (.head _)))) rfl rfl)),?_⟩|refine⟨.inr (.inr (ae rfl (O.at (.tail _ (.tail _ (.tail _ (.head _))))) rfl rfl)),?_⟩|refine⟨.inr (.inr (ae rfl (O.at (.tail _ (.tail _ (.tail _ (.tail _ (.head _)))))) rfl rfl)),?_⟩|refine⟨.inr (.inr (ae rfl (O.at (.tail _ (.tail _ (.tail _ (.tail _ (.tail _ (.head _))))))) rfl rfl)),?_⟩|refine⟨.inr (.inr (ae rfl (O.at (.tail _ (.tail _ (.tail _ (.tail _ (.tail _ (.tail _ (.head _)))))))) rfl rfl)),?_⟩|refine⟨.inl (Ext.refl _),?_⟩|refine⟨.inr (.inr rfl),?_⟩|refine⟨.inr (by kernel_rfl),?_⟩|refine⟨.inl (by kernel_rfl),?_⟩|refine id ?_);refine gH ?_
                  replace hm:=hm.2
                  refine gX ?_
                  refine aF hm fun hm=>?_;refine gH ?_
                  exact jx (((v435++([p1.value]:(List Nat))),(v436+1)),a446) hm ⟨ha447,(O.sel [5,1,7,2,3,4,6] (by decide))⟩
                 ·refine gX ?_
                  (first|refine⟨.inr (.inr (ae rfl (O.at (.head _)) rfl rfl)),?_⟩|refine⟨.inr (.inr (ae rfl (O.at (.tail _ (.head _))) rfl rfl)),?_⟩|refine⟨.inr (.inr (ae rfl (O.at (.tail _ (.tail _ (.head _)))) rfl rfl)),?_⟩|refine⟨.inr (.inr (ae rfl (O.at (.tail _ (.tail _ (.tail _ (.head _))))) rfl rfl)),?_⟩|refine⟨.inr (.inr (ae rfl (O.at (.tail _ (.tail _ (.tail _ (.tail _ (.head _)))))) rfl rfl)),?_⟩|refine⟨.inr (.inr (ae rfl (O.at (.tail _ (.tail _ (.tail _ (.tail _ (.tail _ (.head _))))))) rfl rfl)),?_⟩|refine⟨.inr (.inr (ae rfl (O.at (.tail _ (.tail _ (.tail _ (.tail _ (.tail _ (.tail _ (.head _)))))))) rfl rfl)),?_⟩|refine⟨.inl (Ext.refl _),?_⟩|refine⟨.inr (.inr rfl),?_⟩|refine⟨.inr (by kernel_rfl),?_⟩|refine⟨.inl (by kernel_rfl),?_⟩|refine id ?_);refine gH ?_
                  refine O.bE (l:=([x440]:(List Nat))) (enc:=n8) (s:=1) (z:=(n8 0)) rfl rfl (by kernel_rfl) (by kernel_rfl) rfl rfl rfl rfl (fun _=>rfl) fun g448 h O=>?_;refine gH ?_
                  refine O.bQ (enc:=n8) (l:=v435) (new:=([x440]:(List Nat))) (s:=1) (b:=1) (.tail _ (.tail _ (.tail _ (.tail _ (.tail _ (.tail _ (.tail _ (.head _)))))))) ha442 rfl rfl rfl rfl rfl rfl rfl rfl (YOk.own (O.at (.head _)) rfl (fun _=>rfl) rfl) (fun _=>rfl) (fun _=>rfl) (by decide) hm.1 fun a450 h ha451 O=>?_;refine gH ?_
                  (first|refine⟨.inr (.inr (ae rfl (O.at (.head _)) rfl rfl)),?_⟩|refine⟨.inr (.inr (ae rfl (O.at (.tail _ (.head _))) rfl rfl)),?_⟩|refine⟨.inr (.inr (ae rfl (O.at (.tail _ (.tail _ (.head _)))) rfl rfl)),?_⟩|refine⟨.inr (.inr (ae rfl (O.at (.tail _ (.tail _ (.tail _ (.head _))))) rfl rfl)),?_⟩|refine⟨.inr (.inr (ae rfl (O.at (.tail _ (.tail _ (.tail _ (.tail _ (.head _)))))) rfl rfl)),?_⟩|refine⟨.inr (.inr (ae rfl (O.at (.tail _ (.tail _ (.tail _ (.tail _ (.tail _ (.head _))))))) rfl rfl)),?_⟩|refine⟨.inr (.inr (ae rfl (O.at (.tail _ (.tail _ (.tail _ (.tail _ (.tail _ (.tail _ (.head _)))))))) rfl rfl)),?_⟩|refine⟨.inl (Ext.refl _),?_⟩|refine⟨.inr (.inr rfl),?_⟩|refine⟨.inr (by kernel_rfl),?_⟩|refine⟨.inl (by kernel_rfl),?_⟩|refine id ?_);refine gH ?_
                  replace hm:=hm.2
                  refine gX ?_
                  refine aF hm fun hm=>?_;refine gH ?_
                  exact jx (((v435++([x440]:(List Nat))),(v436+1)),a450) hm ⟨ha451,(O.sel [5,1,7,2,3,4,6] (by decide))⟩
               ·refine gX ?_
                exact jx (v435,a434) hm ⟨ha437,(O.sel [2,3,4,5,0,1,6] (by decide))⟩
              ·clear hm;rintro⟨v430,a429⟩ base h hm ⟨ha431,O⟩
               refine gX ?_
               refine CallD.yX (fun _ hb=>cH hm hb) (fun _=>js rfl) oy O.has (fun h2 F=>(LLe.cons (VLe.refl _ _) (LLe.cons (O.eY F (Nat.zero_le _) (.head _) ha431 (fun _=>rfl)) (LLe.nil _)))) (by kernel_rfl) (fun r452 hm'=>?_);replace hm:=hm';refine gX ?_
               refine ix 1 hm fun x453 hx453 hm=>?_;refine gH ?_
               refine O.stE 1 (.tail _ (.tail _ (.tail _ (.tail _ (.head _))))) hx453 r452 fun h O=>?_;refine gH ?_
               exact jx (v417.set x420 r452) hm (O.sel [4,5,6,1,2,3] (by decide))
             ·refine gX ?_
              exact jx v417 hm O
           ·clear hm;rintro v421 base h hm O
            refine gX ?_
            refine dF ?_
            refine gX ?_
            refine dF ?_
            refine gX ?_
            refine dF ?_
            refine gX ?_
            refine ix 1 hm fun x454 hx454 hm=>?_;refine gH ?_
            refine⟨_,ae rfl (O.at (.head _)) rfl (bd (enc:=n8) (s:=1) (k:=0) (fun _=>rfl) hx454 rfl),?_⟩;refine gH ?_
            refine fg Tryz.func134 ?_;refine gX ?_
            (first|refine⟨.inr (.inr (ae rfl (O.at (.head _)) rfl rfl)),?_⟩|refine⟨.inr (.inr (ae rfl (O.at (.tail _ (.head _))) rfl rfl)),?_⟩|refine⟨.inr (.inr (ae rfl (O.at (.tail _ (.tail _ (.head _)))) rfl rfl)),?_⟩|refine⟨.inr (.inr (ae rfl (O.at (.tail _ (.tail _ (.tail _ (.head _))))) rfl rfl)),?_⟩|refine⟨.inr (.inr (ae rfl (O.at (.tail _ (.tail _ (.tail _ (.tail _ (.head _)))))) rfl rfl)),?_⟩|refine⟨.inr (.inr (ae rfl (O.at (.tail _ (.tail _ (.tail _ (.tail _ (.tail _ (.head _))))))) rfl rfl)),?_⟩|refine⟨.inr (.inr (ae rfl (O.at (.tail _ (.tail _ (.tail _ (.tail _ (.tail _ (.tail _ (.head _)))))))) rfl rfl)),?_⟩|refine⟨.inl (Ext.refl _),?_⟩|refine⟨.inr (.inr rfl),?_⟩|refine⟨.inr (by kernel_rfl),?_⟩|refine⟨.inl (by kernel_rfl),?_⟩|refine id ?_);refine gH ?_
            refine ix 1 hm fun x455 hx455 hm=>?_;refine gH ?_
            refine O.stE 1 (.head _) hx455 x454 fun h O=>?_;refine gH ?_
            (first|refine⟨.inr (.inr (ae rfl (O.at (.head _)) rfl rfl)),?_⟩|refine⟨.inr (.inr (ae rfl (O.at (.tail _ (.head _))) rfl rfl)),?_⟩|refine⟨.inr (.inr (ae rfl (O.at (.tail _ (.tail _ (.head _)))) rfl rfl)),?_⟩|refine⟨.inr (.inr (ae rfl (O.at (.tail _ (.tail _ (.tail _ (.head _))))) rfl rfl)),?_⟩|refine⟨.inr (.inr (ae rfl (O.at (.tail _ (.tail _ (.tail _ (.tail _ (.head _)))))) rfl rfl)),?_⟩|refine⟨.inr (.inr (ae rfl (O.at (.tail _ (.tail _ (.tail _ (.tail _ (.tail _ (.head _))))))) rfl rfl)),?_⟩|refine⟨.inr (.inr (ae rfl (O.at (.tail _ (.tail _ (.tail _ (.tail _ (.tail _ (.tail _ (.head _)))))))) rfl rfl)),?_⟩|refine⟨.inl (Ext.refl _),?_⟩|refine⟨.inr (.inr rfl),?_⟩|refine⟨.inr (by kernel_rfl),?_⟩|refine⟨.inl (by kernel_rfl),?_⟩|refine id ?_);refine gH ?_
            refine gX ?_
            refine aF hm fun hm=>?_;refine gH ?_
            exact jx ((v421.set x420 x454),(v418+1)) hm O
          ·refine gX ?_
           exact jx v417 hm O
         ·clear hm;rintro v415 base h hm O
          refine gX ?_
          have O:=O.aG (.cells (flatC ((([]:List Nat)).map n8)) false)
          have O:=O.aG (.cells (flatC ((([]:List Nat)).map n8)) false)
          (first|refine O.new (ai (l:=[nS,nS]) rfl rfl rfl) fun g456 h O=>?_|refine O.bB (ai (l:=[nS,nS]) rfl rfl rfl) fun g456 h O=>?_);refine gH ?_
          refine jn (σ:=(List Nat)×Option Nat) hm 189 [0,4,5,16] (fun s=>s.1) (fun (v461,a460) h=>(a460=none->v461=[])/\Own vars h0 [(sC g394 (flatC (v415.map n8))),(sC g268 [(clo 113 [(FP (aC p1))])]),(sC g392 [nS,nS]),(sC g456 [(ah 1 a460 (v461.map n8)),(ah 1 none (([]:List Nat).map n8))]),(a460,.cells (flatC (v461.map n8)) false),(none,.cells (flatC (([]:List Nat).map n8)) false),(sC g1 [((ag 1 n8) r6.1.out),((ag 1 n8) r6.1.next)]),(sC g3 [nS,nS]),(sR g270 (cy p0 (.slice (some ⟨g394,0,none⟩) p0.nodes.length p0.nodes.length) (clo 134 []) (clo 136 [(FP (az p1.line)),(pG g268)])))] h) (fun (v461,a460)=>[]) (fun hm=>?_) ?_
          ·refine gX ?_
           refine lw 189 [0,4,5,16,143,144] (σ:=((List Nat)×Nat)×Option Nat) (fun s=>s.1) (fun ((v465,v466),a464) h=>(a464=none->v465=[])/\Own vars h0 [(sC g394 (flatC (v415.map n8))),(sC g268 [(clo 113 [(FP (aC p1))])]),(sC g392 [nS,nS]),(sC g456 [(ah 1 a464 (v465.map n8)),(ah 1 none (([]:List Nat).map n8))]),(a464,.cells (flatC (v465.map n8)) false),(none,.cells (flatC (([]:List Nat).map n8)) false),(sC g1 [((ag 1 n8) r6.1.out),((ag 1 n8) r6.1.next)]),(sC g3 [nS,nS]),(sR g270 (cy p0 (.slice (some ⟨g394,0,none⟩) p0.nodes.length p0.nodes.length) (clo 134 []) (clo 136 [(FP (az p1.line)),(pG g268)])))] h) (fun ((v465,v466),a464)=>[(145,(i64 v466))]) ((([]:List Nat),0),none) hm ⟨(fun _=>rfl),(O.sel [3,4,5,0,2,1,6,7,8] (by decide))⟩ ?_
           clear hm;rintro⟨⟨v465,v466⟩,a464⟩ nx468 base h hm ⟨ha467,O⟩
           refine gX ?_
           refine br hm (fun hm=>?_) fun hm=>?_
           ·refine gX ?_
            refine atF hm fun x469 hx469 hm=>?_;refine gX ?_
            refine ldO (O.at (.tail _ (.tail _ (.tail _ (.head _))))) ?_;refine gH ?_
            first|refine⟨.inr (.inr (ae rfl (O.at (.tail _ (.tail _ (.tail _ (.head _))))) rfl rfl)),?_⟩|refine⟨.inr (.inl (by kernel_rfl)),?_⟩
            refine gX ?_
            refine dF ?_
            refine gX ?_
            refine ix 1 hm fun x470 hx470 hm=>?_;refine gH ?_
            refine⟨_,ae rfl (O.at (.head _)) rfl (bd (enc:=n8) (s:=1) (k:=0) (fun _=>rfl) hx470 rfl),?_⟩;refine gH ?_
            refine O.bE (l:=([x470]:(List Nat))) (enc:=n8) (s:=1) (z:=(n8 0)) rfl rfl (by kernel_rfl) (by kernel_rfl) rfl rfl rfl rfl (fun _=>rfl) fun g471 h O=>?_;refine gH ?_
            refine O.bQ (enc:=n8) (l:=v465) (new:=([x470]:(List Nat))) (s:=1) (b:=1) (.tail _ (.tail _ (.tail _ (.tail _ (.tail _ (.head _)))))) ha467 rfl rfl rfl rfl rfl rfl rfl rfl (YOk.own (O.at (.head _)) rfl (fun _=>rfl) rfl) (fun _=>rfl) (fun _=>rfl) (by decide) hm.1 fun a473 h ha474 O=>?_;refine gH ?_
            (first|refine⟨.inr (.inr (ae rfl (O.at (.head _)) rfl rfl)),?_⟩|refine⟨.inr (.inr (ae rfl (O.at (.tail _ (.head _))) rfl rfl)),?_⟩|refine⟨.inr (.inr (ae rfl (O.at (.tail _ (.tail _ (.head _)))) rfl rfl)),?_⟩|refine⟨.inr (.inr (ae rfl (O.at (.tail _ (.tail _ (.tail _ (.head _))))) rfl rfl)),?_⟩|refine⟨.inr (.inr (ae rfl (O.at (.tail _ (.tail _ (.tail _ (.tail _ (.head _)))))) rfl rfl)),?_⟩|refine⟨.inr (.inr (ae rfl (O.at (.tail _ (.tail _ (.tail _ (.tail _ (.tail _ (.head _))))))) rfl rfl)),?_⟩|refine⟨.inr (.inr (ae rfl (O.at (.tail _ (.tail _ (.tail _ (.tail _ (.tail _ (.tail _ (.head _)))))))) rfl rfl)),?_⟩|refine⟨.inl (Ext.refl _),?_⟩|refine⟨.inr (.inr rfl),?_⟩|refine⟨.inr (by kernel_rfl),?_⟩|refine⟨.inl (by kernel_rfl),?_⟩|refine id ?_);refine gH ?_
            replace hm:=hm.2
            refine O.stC 1 (.tail _ (.tail _ (.tail _ (.tail _ (.head _))))) [(ah 1 a473 ((v465++([x470]:(List Nat))).map n8)),(ah 1 none (([]:List Nat).map n8))] fun h O=>?_;refine gH ?_
            (first|refine⟨.inr (.inr (ae rfl (O.at (.head _)) rfl rfl)),?_⟩|refine⟨.inr (.inr (ae rfl (O.at (.tail _ (.head _))) rfl rfl)),?_⟩|refine⟨.inr (.inr (ae rfl (O.at (.tail _ (.tail _ (.head _)))) rfl rfl)),?_⟩|refine⟨.inr (.inr (ae rfl (O.at (.tail _ (.tail _ (.tail _ (.head _))))) rfl rfl)),?_⟩|refine⟨.inr (.inr (ae rfl (O.at (.tail _ (.tail _ (.tail _ (.tail _ (.head _)))))) rfl rfl)),?_⟩|refine⟨.inr (.inr (ae rfl (O.at (.tail _ (.tail _ (.tail _ (.tail _ (.tail _ (.head _))))))) rfl rfl)),?_⟩|refine⟨.inr (.inr (ae rfl (O.at (.tail _ (.tail _ (.tail _ (.tail _ (.tail _ (.tail _ (.head _)))))))) rfl rfl)),?_⟩|refine⟨.inl (Ext.refl _),?_⟩|refine⟨.inr (.inr rfl),?_⟩|refine⟨.inr (by kernel_rfl),?_⟩|refine⟨.inl (by kernel_rfl),?_⟩|refine id ?_);refine gH ?_
            refine gX ?_
            refine aF hm fun hm=>?_;refine gH ?_
            exact jx (((v465++([x470]:(List Nat))),(v466+1)),a473) hm ⟨ha474,(O.sel [1,2,3,4,5,6,7,8,9] (by decide))⟩
           ·refine gX ?_
            exact jx (v465,a464) hm ⟨ha467,O⟩
          ·clear hm;rintro⟨v461,a460⟩ base h hm ⟨ha462,O⟩
           conv=>whnf
           refine jn (σ:=(List Nat)×Option Nat) hm 189 [4,16] (fun s=>s.1) (fun (v476,a475) h=>(a460=none->v461=[])/\(a475=none->v476=[])/\Own vars h0 [(sC g392 [nS,nS]),(sC g456 [(ah 1 a460 (v461.map n8)),(ah 1 a475 (v476.map n8))]),(a460,.cells (flatC (v461.map n8)) false),(a475,.cells (flatC (v476.map n8)) false),(sC g1 [((ag 1 n8) r6.1.out),((ag 1 n8) r6.1.next)]),(sC g3 [nS,nS]),(sR g270 (cy p0 (.slice (some ⟨g394,0,none⟩) p0.nodes.length p0.nodes.length) (clo 134 []) (clo 136 [(FP (az p1.line)),(pG g268)]))),(sC g394 (flatC (v415.map n8))),(sC g268 [(clo 113 [(FP (aC p1))])])] h) (fun (v476,a475)=>[]) (fun hm=>?_) ?_
           ·refine gX ?_
            refine lw 189 [0,4,16,162,163] (σ:=((List Nat)×Nat)×Option Nat) (fun s=>s.1) (fun ((v481,v482),a480) h=>(a460=none->v461=[])/\(a480=none->v481=[])/\Own vars h0 [(sC g394 (flatC (v415.map n8))),(sC g268 [(clo 113 [(FP (aC p1))])]),(sC g392 [nS,nS]),(sC g456 [(ah 1 a460 (v461.map n8)),(ah 1 a480 (v481.map n8))]),(a460,.cells (flatC (v461.map n8)) false),(a480,.cells (flatC (v481.map n8)) false),(sC g1 [((ag 1 n8) r6.1.out),((ag 1 n8) r6.1.next)]),(sC g3 [nS,nS]),(sR g270 (cy p0 (.slice (some ⟨g394,0,none⟩) p0.nodes.length p0.nodes.length) (clo 134 []) (clo 136 [(FP (az p1.line)),(pG g268)])))] h) (fun ((v481,v482),a480)=>[(164,(i64 v482))]) ((([]:List Nat),0),none) hm ⟨ha462,(fun _=>rfl),O⟩ ?_
            clear hm;rintro⟨⟨v481,v482⟩,a480⟩ nx485 base h hm ⟨ha483,ha484,O⟩
            refine gX ?_
            refine br hm (fun hm=>?_) fun hm=>?_
            ·refine gX ?_
             refine atF hm fun x486 hx486 hm=>?_;refine gX ?_
             refine fg Tryz.func115 ?_;conv=>whnf
             apply Cs;conv=>whnf
             apply Cs;refine gH ?_
             have O:=O.aG (.cells (flatC ((([]:List Nat)).map n8)) false)
             apply Cs;conv=>whnf
             apply Cs;refine gH ?_
             have O:=O.aG (.cells (flatC ((([]:List Nat)).map n8)) false)
             refine jn (σ:=(List Nat)×Option Nat) hm 42 [] (fun s=>s.1) (fun (v490,a489) h=>(a489=none->v490=[])/\(a460=none->v461=[])/\(a480=none->v481=[])/\Own vars h0 [(a489,.cells (flatC (v490.map n8)) false),(sC g1 [((ag 1 n8) r6.1.out),((ag 1 n8) r6.1.next)]),(sC g3 [nS,nS]),(sR g270 (cy p0 (.slice (some ⟨g394,0,none⟩) p0.nodes.length p0.nodes.length) (clo 134 []) (clo 136 [(FP (az p1.line)),(pG g268)]))),(sC g394 (flatC (v415.map n8))),(sC g268 [(clo 113 [(FP (aC p1))])]),(sC g392 [nS,nS]),(sC g456 [(ah 1 a460 (v461.map n8)),(ah 1 a480 (v481.map n8))]),(a460,.cells (flatC (v461.map n8)) false),(a480,.cells (flatC (v481.map n8)) false)] h) (fun (v490,a489)=>[(5,(ah 1 a489 (v490.map n8)))]) (fun hm=>?_) ?_
             ·refine gX ?_
              refine atF hm fun x495 hx495 hm=>?_;refine gX ?_
              refine lw 42 [0,1,16,17] (σ:=((List Nat)×Nat)×Option Nat) (fun s=>s.1) (fun ((v497,v498),a496) h=>(a496=none->v497=[])/\(a460=none->v461=[])/\(a480=none->v481=[])/\Own vars h0 [(sC g394 (flatC (v415.map n8))),(sC g268 [(clo 113 [(FP (aC p1))])]),(a496,.cells (flatC (v497.map n8)) false),(sC g1 [((ag 1 n8) r6.1.out),((ag 1 n8) r6.1.next)]),(sC g3 [nS,nS]),(sR g270 (cy p0 (.slice (some ⟨g394,0,none⟩) p0.nodes.length p0.nodes.length) (clo 134 []) (clo 136 [(FP (az p1.line)),(pG g268)]))),(sC g392 [nS,nS]),(sC g456 [(ah 1 a460 (v461.map n8)),(ah 1 a480 (v481.map n8))]),(a460,.cells (flatC (v461.map n8)) false),(a480,.cells (flatC (v481.map n8)) false)] h) (fun ((v497,v498),a496)=>[(5,(ah 1 a496 (v497.map n8))),(18,(i64 v498))]) ((([]:List Nat),0),none) hm ⟨(fun _=>rfl),ha483,ha484,(O.sel [2,3,0,8,9,10,4,5,6,7] (by decide))⟩ ?_
              clear hm;rintro⟨⟨v497,v498⟩,a496⟩ nx502 base h hm ⟨ha499,ha500,ha501,O⟩
              refine gX ?_
              refine br hm (fun hm=>?_) fun hm=>?_
              ·refine gX ?_
               refine atF hm fun x503 hx503 hm=>?_;refine gX ?_
               refine dF ?_
               refine gX ?_
               refine dF ?_
               refine gX ?_
               refine ix 1 hm fun x504 hx504 hm=>?_;refine gH ?_
               refine⟨_,ae rfl (O.at (.head _)) rfl (bd (enc:=n8) (s:=1) (k:=0) (fun _=>rfl) hx504 rfl),?_⟩;refine gH ?_
               refine fg Tryz.func136 ?_;conv=>whnf
               apply Cs;conv=>whnf
               apply Cs;refine gH ?_
               apply Cs;conv=>whnf
               refine jn hm 23 [2,4] (fun s=>s) (fun v505 h=>(a460=none->v461=[])/\(a480=none->v481=[])/\(a496=none->v497=[])/\Own vars h0 [(sC g268 [(clo 113 [(FP (aC p1))])]),(sC g1 [((ag 1 n8) r6.1.out),((ag 1 n8) r6.1.next)]),(sC g3 [nS,nS]),(sR g270 (cy p0 (.slice (some ⟨g394,0,none⟩) p0.nodes.length p0.nodes.length) (clo 134 []) (clo 136 [(FP (az p1.line)),(pG g268)]))),(sC g394 (flatC (v415.map n8))),(sC g392 [nS,nS]),(sC g456 [(ah 1 a460 (v461.map n8)),(ah 1 a480 (v481.map n8))]),(a460,.cells (flatC (v461.map n8)) false),(a480,.cells (flatC (v481.map n8)) false),(a496,.cells (flatC (v497.map n8)) false)] h) (fun v505=>[(18,(.bool v505))]) (fun hm=>?_) ?_
               ·refine gX ?_
                refine br hm (fun hm=>?_) fun hm=>?_
                ·refine gX ?_
                 exact jx (eqZ (Int.ofNat v498) p1.line.pin) hm ⟨ha500,ha501,ha499,(O.sel [1,3,4,5,0,6,7,8,9,2] (by decide))⟩
                ·refine gX ?_
                 exact jx false hm ⟨ha500,ha501,ha499,(O.sel [1,3,4,5,0,6,7,8,9,2] (by decide))⟩
               ·clear hm;rintro v505 base h hm ⟨ha506,ha507,ha508,O⟩
                refine gX ?_
                refine br hm (fun hm=>?_) fun hm=>?_
                ·refine gX ?_
                 refine fg Tryz.func113 ?_;refine gX ?_
                 (first|refine⟨.inr (.inr (ae rfl (O.at (.head _)) rfl rfl)),?_⟩|refine⟨.inr (.inr (ae rfl (O.at (.tail _ (.head _))) rfl rfl)),?_⟩|refine⟨.inr (.inr (ae rfl (O.at (.tail _ (.tail _ (.head _)))) rfl rfl)),?_⟩|refine⟨.inr (.inr (ae rfl (O.at (.tail _ (.tail _ (.tail _ (.head _))))) rfl rfl)),?_⟩|refine⟨.inr (.inr (ae rfl (O.at (.tail _ (.tail _ (.tail _ (.tail _ (.head _)))))) rfl rfl)),?_⟩|refine⟨.inr (.inr (ae rfl (O.at (.tail _ (.tail _ (.tail _ (.tail _ (.tail _ (.head _))))))) rfl rfl)),?_⟩|refine⟨.inr (.inr (ae rfl (O.at (.tail _ (.tail _ (.tail _ (.tail _ (.tail _ (.tail _ (.head _)))))))) rfl rfl)),?_⟩|refine⟨.inl (Ext.refl _),?_⟩|refine⟨.inr (.inr rfl),?_⟩|refine⟨.inr (by kernel_rfl),?_⟩|refine⟨.inl (by kernel_rfl),?_⟩|refine id ?_);refine gH ?_
                 refine O.bE (l:=([p1.value]:(List Nat))) (enc:=n8) (s:=1) (z:=(n8 0)) rfl rfl (by kernel_rfl) (by kernel_rfl) rfl rfl rfl rfl (fun _=>rfl) fun g510 h O=>?_;refine gH ?_
                 refine O.bQ (enc:=n8) (l:=v497) (new:=([p1.value]:(List Nat))) (s:=1) (b:=1) (.tail _ (.tail _ (.tail _ (.tail _ (.tail _ (.tail _ (.tail _ (.tail _ (.tail _ (.tail _ (.head _))))))))))) ha508 rfl rfl rfl rfl rfl rfl rfl rfl (YOk.own (O.at (.head _)) rfl (fun _=>rfl) rfl) (fun _=>rfl) (fun _=>rfl) (by decide) hm.1 fun a512 h ha513 O=>?_;refine gH ?_
                 (first|refine⟨.inr (.inr (ae rfl (O.at (.head _)) rfl rfl)),?_⟩|refine⟨.inr (.inr (ae rfl (O.at (.tail _ (.head _))) rfl rfl)),?_⟩|refine⟨.inr (.inr (ae rfl (O.at (.tail _ (.tail _ (.head _)))) rfl rfl)),?_⟩|refine⟨.inr (.inr (ae rfl (O.at (.tail _ (.tail _ (.tail _ (.head _))))) rfl rfl)),?_⟩|refine⟨.inr (.inr (ae rfl (O.at (.tail _ (.tail _ (.tail _ (.tail _ (.head _)))))) rfl rfl)),?_⟩|refine⟨.inr (.inr (ae rfl (O.at (.tail _ (.tail _ (.tail _ (.tail _ (.tail _ (.head _))))))) rfl rfl)),?_⟩|refine⟨.inr (.inr (ae rfl (O.at (.tail _ (.tail _ (.tail _ (.tail _ (.tail _ (.tail _ (.head _)))))))) rfl rfl)),?_⟩|refine⟨.inl (Ext.refl _),?_⟩|refine⟨.inr (.inr rfl),?_⟩|refine⟨.inr (by kernel_rfl),?_⟩|refine⟨.inl (by kernel_rfl),?_⟩|refine id ?_);refine gH ?_
                 replace hm:=hm.2
                 refine gX ?_
                 refine aF hm fun hm=>?_;refine gH ?_
                 exact jx (((v497++([p1.value]:(List Nat))),(v498+1)),a512) hm ⟨ha513,ha506,ha507,(O.sel [5,1,10,2,3,4,6,7,8,9] (by decide))⟩
                ·refine gX ?_
                 (first|refine⟨.inr (.inr (ae rfl (O.at (.head _)) rfl rfl)),?_⟩|refine⟨.inr (.inr (ae rfl (O.at (.tail _ (.head _))) rfl rfl)),?_⟩|refine⟨.inr (.inr (ae rfl (O.at (.tail _ (.tail _ (.head _)))) rfl rfl)),?_⟩|refine⟨.inr (.inr (ae rfl (O.at (.tail _ (.tail _ (.tail _ (.head _))))) rfl rfl)),?_⟩|refine⟨.inr (.inr (ae rfl (O.at (.tail _ (.tail _ (.tail _ (.tail _ (.head _)))))) rfl rfl)),?_⟩|refine⟨.inr (.inr (ae rfl (O.at (.tail _ (.tail _ (.tail _ (.tail _ (.tail _ (.head _))))))) rfl rfl)),?_⟩|refine⟨.inr (.inr (ae rfl (O.at (.tail _ (.tail _ (.tail _ (.tail _ (.tail _ (.tail _ (.head _)))))))) rfl rfl)),?_⟩|refine⟨.inl (Ext.refl _),?_⟩|refine⟨.inr (.inr rfl),?_⟩|refine⟨.inr (by kernel_rfl),?_⟩|refine⟨.inl (by kernel_rfl),?_⟩|refine id ?_);refine gH ?_
                 refine O.bE (l:=([x504]:(List Nat))) (enc:=n8) (s:=1) (z:=(n8 0)) rfl rfl (by kernel_rfl) (by kernel_rfl) rfl rfl rfl rfl (fun _=>rfl) fun g514 h O=>?_;refine gH ?_
                 refine O.bQ (enc:=n8) (l:=v497) (new:=([x504]:(List Nat))) (s:=1) (b:=1) (.tail _ (.tail _ (.tail _ (.tail _ (.tail _ (.tail _ (.tail _ (.tail _ (.tail _ (.tail _ (.head _))))))))))) ha508 rfl rfl rfl rfl rfl rfl rfl rfl (YOk.own (O.at (.head _)) rfl (fun _=>rfl) rfl) (fun _=>rfl) (fun _=>rfl) (by decide) hm.1 fun a516 h ha517 O=>?_;refine gH ?_
                 (first|refine⟨.inr (.inr (ae rfl (O.at (.head _)) rfl rfl)),?_⟩|refine⟨.inr (.inr (ae rfl (O.at (.tail _ (.head _))) rfl rfl)),?_⟩|refine⟨.inr (.inr (ae rfl (O.at (.tail _ (.tail _ (.head _)))) rfl rfl)),?_⟩|refine⟨.inr (.inr (ae rfl (O.at (.tail _ (.tail _ (.tail _ (.head _))))) rfl rfl)),?_⟩|refine⟨.inr (.inr (ae rfl (O.at (.tail _ (.tail _ (.tail _ (.tail _ (.head _)))))) rfl rfl)),?_⟩|refine⟨.inr (.inr (ae rfl (O.at (.tail _ (.tail _ (.tail _ (.tail _ (.tail _ (.head _))))))) rfl rfl)),?_⟩|refine⟨.inr (.inr (ae rfl (O.at (.tail _ (.tail _ (.tail _ (.tail _ (.tail _ (.tail _ (.head _)))))))) rfl rfl)),?_⟩|refine⟨.inl (Ext.refl _),?_⟩|refine⟨.inr (.inr rfl),?_⟩|refine⟨.inr (by kernel_rfl),?_⟩|refine⟨.inl (by kernel_rfl),?_⟩|refine id ?_);refine gH ?_
                 replace hm:=hm.2
                 refine gX ?_
                 refine aF hm fun hm=>?_;refine gH ?_
                 exact jx (((v497++([x504]:(List Nat))),(v498+1)),a516) hm ⟨ha517,ha506,ha507,(O.sel [5,1,10,2,3,4,6,7,8,9] (by decide))⟩
              ·refine gX ?_
               exact jx (v497,a496) hm ⟨ha499,ha500,ha501,(O.sel [2,3,4,5,0,1,6,7,8,9] (by decide))⟩
             ·clear hm;rintro⟨v490,a489⟩ base h hm ⟨ha491,ha492,ha493,O⟩
              refine gX ?_
              obtain⟨x518,hx518,hm⟩:=hm
              have h9:=hm
              obtain⟨g519,rfl⟩:=ee ha491 hx518
              replace hm:=h9
              refine cU (s:=1) (j:=0) rfl rfl rfl rfl (by rw[List.length_map];exact ak hx518) ?_;refine gH ?_
              refine ldE (s:=1) (i:=0) (O.at (.head _)) hx518 ?_;refine gH ?_
              refine jn hm 189 [0,4,16,162,163,164] (fun s=>s) (fun v520 h=>(a460=none->v461=[])/\(a480=none->v481=[])/\Own vars h0 [(sC g394 (flatC (v415.map n8))),(sC g268 [(clo 113 [(FP (aC p1))])]),(sC g392 [nS,nS]),(sC g456 [(ah 1 a460 (v461.map n8)),(ah 1 a480 (v481.map n8))]),(a460,.cells (flatC (v461.map n8)) false),(a480,.cells (flatC (v481.map n8)) false),(sC g1 [((ag 1 n8) r6.1.out),((ag 1 n8) r6.1.next)]),(sC g3 [nS,nS]),(sR g270 (cy p0 (.slice (some ⟨g394,0,none⟩) p0.nodes.length p0.nodes.length) (clo 134 []) (clo 136 [(FP (az p1.line)),(pG g268)])))] h) (fun v520=>[(21,(n8 v520))]) (fun hm=>?_) ?_
              ·refine gX ?_
               refine br hm (fun hm=>?_) fun hm=>?_
               ·refine gX ?_
                exact jx 2 hm ⟨ha492,ha493,(O.sel [4,5,6,7,8,9,1,2,3] (by decide))⟩
               ·refine gX ?_
                exact jx x518 hm ⟨ha492,ha493,(O.sel [4,5,6,7,8,9,1,2,3] (by decide))⟩
              ·clear hm;rintro v520 base h hm ⟨ha521,ha522,O⟩
               refine gX ?_
               refine ldO (O.at (.tail _ (.tail _ (.tail _ (.head _))))) ?_;refine gH ?_
               refine fz ?_;refine gH ?_
               refine O.apL (enc:=n8) (l:=v481) (new:=([v520]:(List Nat))) 1 (.tail _ (.tail _ (.tail _ (.tail _ (.tail _ (.head _)))))) ha522 hm fun a524 h ha525 O hm=>?_;refine gH ?_
               refine O.stC 1 (.tail _ (.tail _ (.tail _ (.head _)))) [(ah 1 a460 (v461.map n8)),(ah 1 a524 ((v481++([v520]:(List Nat))).map n8))] fun h O=>?_;refine gX ?_
               refine aF hm fun hm=>?_;refine gH ?_
               exact jx (((v481++([v520]:(List Nat))),(v482+1)),a524) hm ⟨ha521,ha525,O⟩
            ·refine gX ?_
             exact jx (v481,a480) hm ⟨ha483,ha484,(O.sel [2,3,4,5,6,7,8,0,1] (by decide))⟩
           ·clear hm;rintro⟨v476,a475⟩ base h hm ⟨ha477,ha478,O⟩
            refine gX ?_
            first|refine⟨.inr (.inr (ae rfl (O.at (.tail _ (.head _))) rfl rfl)),?_⟩|refine⟨.inr (.inl (by kernel_rfl)),?_⟩
            refine gX ?_
            refine fg Tryz.func73 ?_;refine gX ?_
            refine gK (s:=1) (enc:=n8) (l:=v461) (n:=v461.length) (m:=v461.length) rfl rfl rfl rfl rfl rfl rfl ?_;refine gX ?_
            (first|refine⟨.inr (.inr (ae rfl (O.at (.head _)) rfl rfl)),?_⟩|refine⟨.inr (.inr (ae rfl (O.at (.tail _ (.head _))) rfl rfl)),?_⟩|refine⟨.inr (.inr (ae rfl (O.at (.tail _ (.tail _ (.head _)))) rfl rfl)),?_⟩|refine⟨.inr (.inr (ae rfl (O.at (.tail _ (.tail _ (.tail _ (.head _))))) rfl rfl)),?_⟩|refine⟨.inr (.inr (ae rfl (O.at (.tail _ (.tail _ (.tail _ (.tail _ (.head _)))))) rfl rfl)),?_⟩|refine⟨.inr (.inr (ae rfl (O.at (.tail _ (.tail _ (.tail _ (.tail _ (.tail _ (.head _))))))) rfl rfl)),?_⟩|refine⟨.inr (.inr (ae rfl (O.at (.tail _ (.tail _ (.tail _ (.tail _ (.tail _ (.tail _ (.head _)))))))) rfl rfl)),?_⟩|refine⟨.inl (Ext.refl _),?_⟩|refine⟨.inr (.inr rfl),?_⟩|refine⟨.inr (by kernel_rfl),?_⟩|refine⟨.inl (by kernel_rfl),?_⟩|refine id ?_);refine gH ?_
            first|refine⟨.inr (.inr (ae rfl (O.at (.tail _ (.head _))) rfl rfl)),?_⟩|refine⟨.inr (.inl (by kernel_rfl)),?_⟩
            refine gX ?_
            refine fg Tryz.func73 ?_;refine gX ?_
            refine gK (s:=1) (enc:=n8) (l:=v476) (n:=v476.length) (m:=v476.length) rfl rfl rfl rfl rfl rfl rfl ?_;refine gX ?_
            (first|refine⟨.inr (.inr (ae rfl (O.at (.head _)) rfl rfl)),?_⟩|refine⟨.inr (.inr (ae rfl (O.at (.tail _ (.head _))) rfl rfl)),?_⟩|refine⟨.inr (.inr (ae rfl (O.at (.tail _ (.tail _ (.head _)))) rfl rfl)),?_⟩|refine⟨.inr (.inr (ae rfl (O.at (.tail _ (.tail _ (.tail _ (.head _))))) rfl rfl)),?_⟩|refine⟨.inr (.inr (ae rfl (O.at (.tail _ (.tail _ (.tail _ (.tail _ (.head _)))))) rfl rfl)),?_⟩|refine⟨.inr (.inr (ae rfl (O.at (.tail _ (.tail _ (.tail _ (.tail _ (.tail _ (.head _))))))) rfl rfl)),?_⟩|refine⟨.inr (.inr (ae rfl (O.at (.tail _ (.tail _ (.tail _ (.tail _ (.tail _ (.tail _ (.head _)))))))) rfl rfl)),?_⟩|refine⟨.inl (Ext.refl _),?_⟩|refine⟨.inr (.inr rfl),?_⟩|refine⟨.inr (by kernel_rfl),?_⟩|refine⟨.inl (by kernel_rfl),?_⟩|refine id ?_);refine gH ?_
            refine O.stC 2 (.head _) [(bN a460 (v461.map n8)),(bN a475 (v476.map n8))] fun h O=>?_;refine gH ?_
            (first|refine⟨.inr (.inr (ae rfl (O.at (.head _)) rfl rfl)),?_⟩|refine⟨.inr (.inr (ae rfl (O.at (.tail _ (.head _))) rfl rfl)),?_⟩|refine⟨.inr (.inr (ae rfl (O.at (.tail _ (.tail _ (.head _)))) rfl rfl)),?_⟩|refine⟨.inr (.inr (ae rfl (O.at (.tail _ (.tail _ (.tail _ (.head _))))) rfl rfl)),?_⟩|refine⟨.inr (.inr (ae rfl (O.at (.tail _ (.tail _ (.tail _ (.tail _ (.head _)))))) rfl rfl)),?_⟩|refine⟨.inr (.inr (ae rfl (O.at (.tail _ (.tail _ (.tail _ (.tail _ (.tail _ (.head _))))))) rfl rfl)),?_⟩|refine⟨.inr (.inr (ae rfl (O.at (.tail _ (.tail _ (.tail _ (.tail _ (.tail _ (.tail _ (.head _)))))))) rfl rfl)),?_⟩|refine⟨.inl (Ext.refl _),?_⟩|refine⟨.inr (.inr rfl),?_⟩|refine⟨.inr (by kernel_rfl),?_⟩|refine⟨.inl (by kernel_rfl),?_⟩|refine id ?_);refine gH ?_
            refine gX ?_
            refine⟨_,aD rfl rfl (O.at (.head _)) rfl rfl (lbE rfl) rfl,?_⟩;refine gX ?_
            refine O.stC 2 (.tail _ (.tail _ (.tail _ (.tail _ (.tail _ (.head _)))))) [(bN a460 (v461.map n8)),(bN a475 (v476.map n8))] fun h O=>?_;refine gX ?_
            refine ldA (O.at (.tail _ (.tail _ (.tail _ (.tail _ (.head _)))))) ?_;refine gH ?_
            first|refine⟨.inr (.inr (bg rfl (O.at (.tail _ (.tail _ (.tail _ (.tail _ (.head _)))))) rfl rfl (lbE rfl) rfl)),?_⟩|refine⟨.inr (.inl (by kernel_rfl)),?_⟩
            refine gX ?_
            refine ldA (O.at (.tail _ (.tail _ (.tail _ (.tail _ (.tail _ (.head _))))))) ?_;refine gH ?_
            first|refine⟨.inr (.inr (bg rfl (O.at (.tail _ (.tail _ (.tail _ (.tail _ (.tail _ (.head _))))))) rfl rfl (lbE rfl) rfl)),?_⟩|refine⟨.inr (.inl (by kernel_rfl)),?_⟩
            refine gX ?_
            refine ldO (O.at (.tail _ (.tail _ (.tail _ (.tail _ (.tail _ (.tail _ (.head _)))))))) ?_;refine gH ?_
            first|refine⟨.inr (.inr (ae rfl (O.at (.tail _ (.tail _ (.tail _ (.tail _ (.tail _ (.tail _ (.head _)))))))) rfl rfl)),?_⟩|refine⟨.inr (.inl (by kernel_rfl)),?_⟩
            refine gX ?_
            refine O.gN 2 (.tail _ (.tail _ (.tail _ (.tail _ (.head _))))) fun h hext O=>?_;conv=>whnf
            refine⟨.inr hext,?_⟩;refine gH ?_
            refine O.gN 2 (.tail _ (.tail _ (.tail _ (.tail _ (.tail _ (.head _)))))) fun h hext O=>?_;conv=>whnf
            refine⟨.inr hext,?_⟩;refine gX ?_
            refine⟨_,aD rfl rfl (O.at (.tail _ (.tail _ (.tail _ (.tail _ (.head _)))))) rfl rfl (lbE rfl) rfl,?_⟩;conv=>whnf
            refine⟨_,aD rfl rfl (O.at (.tail _ (.tail _ (.tail _ (.tail _ (.tail _ (.head _))))))) rfl rfl (lbE rfl) rfl,?_⟩;conv=>whnf
            obtain⟨hn526,hm⟩:=hm
            exact⟨(r6.1,(⟨v461,v476⟩:Rsp),v415,0),hm,O.ext,fun h2 F=>VLe.tup (LLe.cons (VLe.refl _ _) (LLe.cons (VLe.agg (LLe.cons (O.iH F (Nat.le_refl _) (.tail _ (.tail _ (.head _))) ha477 (fun _=>rfl)) (LLe.cons (O.iH F (Nat.le_refl _) (.tail _ (.tail _ (.tail _ (.head _)))) ha478 (fun _=>rfl)) (LLe.nil _)))) (LLe.cons (O.fY F (Nat.le_refl _) (.tail _ (.tail _ (.tail _ (.tail _ (.tail _ (.tail _ (.tail _ (.head _)))))))) (fun _=>rfl) hn526) (LLe.cons (VLe.refl _ _) (LLe.nil _)))))⟩
def inject_Run_wp (p0:Circ) (p1:Flt) (p2:Pat) (K:(Rsp×(List Nat)×Nat)->Prop):Prop :=
 cv p0 p1 p2 (fun r3=>K (r3.2.1,r3.2.2.1,r3.2.2.2))
theorem pC {p0:Circ}{p1:Flt}{p2:Pat}{K:(Rsp×(List Nat)×Nat)->Prop} (hm:inject_Run_wp p0 p1 p2 K) {h0:Heap} (hB:HasB vars h0):∃ r,K r/\CallD Tryz.prog NG 17 ⟨[aA p0,aC p1,bZ p2]⟩ h0 ((fun (r:(Rsp×(List Nat)×Nat))=>Value.tuple ⟨[cT (r.1),(ag 1 n8) (r.2.1),i64 (r.2.2)]⟩) r) h0:=by
 unfold inject_Run_wp at hm
 refine fw Tryz.func17 hB (enc:=(fun (r:(Rsp×(List Nat)×Nat))=>Value.tuple ⟨[cT (r.1),(ag 1 n8) (r.2.1),i64 (r.2.2)]⟩)) (fun r=>PureV.tup (aj.cons (kH _) (aj.cons (dg (fun _=>aj.cons (PureV.flat rfl) aj.nil)) (aj.cons (PureV.flat rfl) (aj.nil))))) fun O=>?_;conv=>whnf
 refine gX ?_
 refine fz ?_;refine gH ?_
 refine fz ?_;refine gH ?_
 refine fz ?_;refine gH ?_
 (first|refine O.new (ai (l:=[(.slice none 0 0),(.slice none 0 0)]) rfl rfl rfl) fun g1 h O=>?_|refine O.bB (ai (l:=[(.slice none 0 0),(.slice none 0 0)]) rfl rfl rfl) fun g1 h O=>?_);refine gH ?_
 refine gX ?_
 refine ca (om hm O.has) fun r3 hm=>?_;refine gH ?_
 (first|refine O.new (ai (l:=[(.slice none 0 0),(.slice none 0 0)]) rfl rfl rfl) fun g4 h O=>?_|refine O.bB (ai (l:=[(.slice none 0 0),(.slice none 0 0)]) rfl rfl rfl) fun g4 h O=>?_);refine gH ?_
 (first|refine O.new (ai (l:=[(.slice none 0 0),(.slice none 0 0)]) rfl rfl rfl) fun g6 h O=>?_|refine O.bB (ai (l:=[(.slice none 0 0),(.slice none 0 0)]) rfl rfl rfl) fun g6 h O=>?_);refine gH ?_
 refine O.stC 2 (.tail _ (.head _)) [((ag 1 n8) r3.1.out),((ag 1 n8) r3.1.next)] fun h O=>?_;refine gH ?_
 refine O.stC 2 (.head _) [((ag 1 n8) r3.2.1.out),((ag 1 n8) r3.2.1.next)] fun h O=>?_;refine gX ?_
 refine ldA (O.at (.head _)) ?_;refine gH ?_
 refine O.stC 2 (.tail _ (.tail _ (.head _))) [((ag 1 n8) r3.2.1.out),((ag 1 n8) r3.2.1.next)] fun h O=>?_;refine gX ?_
 refine⟨_,aD rfl rfl (O.at (.tail _ (.tail _ (.head _)))) rfl rfl (lbE rfl) rfl,?_⟩;conv=>whnf
 exact⟨(r3.2.1,r3.2.2.1,r3.2.2.2),hm,O.ext,fun h2 F=>VLe.tup (LLe.cons (VLe.refl _ _) (LLe.cons (VLe.refl _ _) (LLe.cons (VLe.refl _ _) (LLe.nil _))))⟩
end Go.Proofs.YteceaohcjmbfbaaGreatDoor
