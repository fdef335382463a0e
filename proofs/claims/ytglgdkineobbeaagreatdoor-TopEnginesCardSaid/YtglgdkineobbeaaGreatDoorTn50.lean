/- Parts of the proof. -/
import Derived.Test.YtglgdkineobbeaaGreatDoorTn49
open False renaming elim->Nn
open Go.Value renaming bool->L0,string->L5,tuple->MD
open Int renaming negSucc->Mj,ofNat->LQ
open List renaming getD->Mh,range->Ma,replicate->LY
open Prod renaming fst->P6
namespace Go.Proofs.YtglgdkineobbeaaGreatDoor
open Go.Abs
set_option maxRecDepth 100000
set_option maxHeartbeats 8000000
abbrev clo(f:FuncId)(l:List Value):Value:=.func (.func f) ⟨[]⟩ ⟨l⟩
abbrev cy(c:Circ)(s f g:Value):List Value:=[(ae 4 au) c.nodes,(ae 1 L5) c.names,(ae 3 bc) c.mems,(ae 1 i64) c.outs,s,f,g]
def cR(p0:(List Nat))(p1:(List Nat))(K:(List Nat)->Prop):Prop :=
 aw (α:=(List Nat)) (λk5=>aF (S:=((List Nat)×Nat)) (λ(v7,v8) nx10=>((ltN v8 (min p0.length p1.length))=true->aw (α:=(List Nat)) (λk14=>aw (α:=Bool) (λk17=>∃x18,p0[v8]?=some x18/\((!ltN 1 x18)=true->∃x19,p1[v8]?=some x19/\((!ltN 1 x19)=true->∃x20,p0[v8]?=some x20/\∃x21,p1[v8]?=some x21/\k17 (neN x20 x21))/\((!ltN 1 x19)=false->k17 false))/\((!ltN 1 x18)=false->k17 false)) (λv15=>(v15=true->(v7.length+([v8]:(List Nat)).length)*8<=2^47/\k14 (v7++([v8]:(List Nat))))/\(v15=false->k14 v7))) (λv12=>v8+1<2^63/\nx10 (v12,(v8+1))))/\((ltN v8 (min p0.length p1.length))=false->k5 v7)) (([]:List Nat),0)) (λv3=>K v3)
theorem kq{p0:(List Nat)}{p1:(List Nat)}{K:(List Nat)->Prop}(hm:cR p0 p1 K){h0:Heap}(hB:aH vars h0):∃r,K r/\al Tryz.prog NG 168 ⟨[(ae 1 n8) p0,(ae 1 n8) p1]⟩ h0 ((ae 1 i64) r) h0:=by
 unfold cR at hm
 refine fw Tryz.func168 hB (enc:=(ae 1 i64)) (λr=>cg (λ_=>ag.cons (aq.flat rfl) ag.nil)) λO=>?_;conv=>whnf
 apply Cs;conv=>whnf
 apply Cs;refine gH ?_
 apply Cs;conv=>whnf
 apply Cs;refine gH ?_;have O:=O.aZ (.cells (ah ((([]:List Nat)).map i64)) false);refine jn (σ:=(List Nat)×Option Nat) hm 45 [] (λs=>s.1) (λ(v3,a2) h=>(a2=none->v3=[])/\Own vars h0 [(sM a2 i64 v3)] h) (λ(v3,a2)=>[(5,(ak 1 a2 (v3.map i64)))]) (λhm=>?_) ?_
 .refine gX ?_;refine⟨_,H5 (a:=p0.length) (b:=p1.length) rfl rfl,?_⟩;refine gX ?_;refine lw 45 [0,1,11] (σ:=((List Nat)×Nat)×Option Nat) (λs=>s.1) (λ((v7,v8),a6) h=>(a6=none->v7=[])/\Own vars h0 [(sM a6 i64 v7)] h) (λ((v7,v8),a6)=>[(5,(ak 1 a6 (v7.map i64))),(12,(i64 v8))]) ((([]:List Nat),0),none) hm ⟨(λ_=>rfl),O⟩ ?_;clear hm;rintro⟨⟨v7,v8⟩,a6⟩ nx10 base h hm ⟨ha9,O⟩;refine gX ?_;refine br hm (λhm=>?_) λhm=>?_
  .apply Cs;conv=>whnf
   refine jn (σ:=(List Nat)×Option Nat) hm 45 [0,1,11,12] (λs=>s.1) (λ(v12,a11) h=>(a11=none->v12=[])/\Own vars h0 [(sM a11 i64 v12)] h) (λ(v12,a11)=>[(5,(ak 1 a11 (v12.map i64)))]) (λhm=>?_) ?_
   .apply Cs;conv=>whnf
    apply Cs;conv=>whnf
    apply Cs;refine gH ?_;refine jn hm 45 [0,1,5,6,11,12] (λs=>s) (λv15 h=>(a6=none->v7=[])/\Own vars h0 [(sM a6 i64 v7)] h) (λv15=>[(37,(.bool v15))]) (λhm=>?_) ?_
    .refine gX ?_;refine atF hm λx18 hx18 hm=>?_;refine gH ?_;refine br hm (λhm=>?_) λhm=>?_
     .refine gX ?_;refine atF hm λx19 hx19 hm=>?_;refine gH ?_;refine br hm (λhm=>?_) λhm=>?_
      .refine gX ?_;refine atF hm λx20 hx20 hm=>?_;refine gH ?_;refine atF hm λx21 hx21 hm=>?_;refine gH ?_;exact jx (neN x20 x21) hm ⟨ha9,O⟩
      .refine gX ?_;exact jx false hm ⟨ha9,O⟩
     .refine gX ?_;refine bf ?_;refine gH ?_;exact jx false hm ⟨ha9,O⟩
    .clear hm;rintro v15 base h hm ⟨ha16,O⟩;refine gX ?_;refine br hm (λhm=>?_) λhm=>?_
     .refine gX ?_;refine fz ?_;refine gH ?_;refine O.apL (enc:=i64) (l:=v7) (new:=([v8]:(List Nat))) 1 (.head _) ha16 hm λa22 h ha23 O hm=>?_;refine gH ?_;exact jx ((v7++([v8]:(List Nat))),a22) hm ⟨ha23,O⟩
     .refine gX ?_;exact jx (v7,a6) hm ⟨ha16,O⟩
   .clear hm;rintro⟨v12,a11⟩ base h hm ⟨ha13,O⟩;refine gX ?_;refine aJ hm λhm=>?_;refine gH ?_;exact jx ((v12,(v8+1)),a11) hm ⟨ha13,O⟩
  .refine gX ?_;exact jx (v7,a6) hm ⟨ha9,O⟩
 .clear hm;rintro⟨v3,a2⟩ base h hm ⟨ha4,O⟩;refine gX ?_;refine fg Tryz.func71 ?_;refine gX ?_;refine so (s:=1) (enc:=i64) (l:=v3) (n:=v3.length) (m:=v3.length) rfl rfl rfl rfl rfl rfl rfl ?_;refine gX ?_;exact⟨v3,hm,O.ext,λh2 F=>O.rn F (LV _) (.head _) ha4 (λ_=>rfl)⟩
def eU(p0:Rsp)(p1:Rsp)(K:((List Nat)×(List Nat))->Prop):Prop :=
 cR p0.out p1.out (λr1=>cR p0.next p1.next (λr2=>K (r1,r2)))
theorem qI{p0:Rsp}{p1:Rsp}{K:((List Nat)×(List Nat))->Prop}(hm:eU p0 p1 K){h0:Heap}(hB:aH vars h0):∃r,K r/\al Tryz.prog NG 145 ⟨[jD p0,jD p1]⟩ h0 ((λ(r:((List Nat)×(List Nat)))=>MD ⟨[(ae 1 i64) (r.1),(ae 1 i64) (r.2)]⟩) r) h0:=by
 unfold eU at hm
 refine fw Tryz.func145 hB (enc:=(λ(r:((List Nat)×(List Nat)))=>MD ⟨[(ae 1 i64) (r.1),(ae 1 i64) (r.2)]⟩)) (λr=>aq.tup (ag.cons (cg (λ_=>ag.cons (aq.flat rfl) ag.nil)) (ag.cons (cg (λ_=>ag.cons (aq.flat rfl) ag.nil)) (ag.nil)))) λO=>?_;conv=>whnf
 refine gX ?_;refine fz ?_;refine gH ?_;refine fz ?_;refine gX ?_;refine dF ?_;refine gX ?_;refine dF ?_;refine gX ?_;refine ca (kq hm O.has) λr1 hm=>?_;refine gH ?_;refine⟨.inl (Ext.refl _),?_⟩;refine gH ?_;refine dF ?_;refine gX ?_;refine dF ?_;refine gX ?_;refine ca (kq hm O.has) λr2 hm=>?_;refine gH ?_;refine⟨.inl (Ext.refl _),?_⟩;refine gH ?_;refine gX ?_;exact⟨(r1,r2),hm,O.ext,λh2 F=>VLe.tup (LLe.cons (VLe.refl _ _) (LLe.cons (VLe.refl _ _) (LLe.nil _)))⟩
def fZ(p0:Rsp)(p1:Rsp)(K:Bool->Prop):Prop :=
 eU p0 p1 (λr1=>r1.1.length+r1.2.length<2^63/\K (ltN 0 (r1.1.length+r1.2.length)))
theorem tp{p0:Rsp}{p1:Rsp}{K:Bool->Prop}(hm:fZ p0 p1 K){h0:Heap}(hB:aH vars h0):∃r,K r/\al Tryz.prog NG 138 ⟨[jD p0,jD p1]⟩ h0 (L0 r) h0:=by
 unfold fZ at hm
 refine fw Tryz.func138 hB (enc:=L0) (λr=>aq.flat rfl) λO=>?_;conv=>whnf
 refine gX ?_;refine fz ?_;refine gH ?_;refine fz ?_;refine gX ?_;refine ca (qI hm O.has) λr1 hm=>?_;refine gX ?_;refine aJ hm λhm=>?_;refine gX ?_;exact fe hm O
def gy(p0:Circ)(p1:Flt)(p2:Pat)(K:(Rsp×Rsp×(List Nat)×Nat)->Prop):Prop :=
 cG p0 p1 (λr5=>((neN r5 0)=true->K ((⟨[],[]⟩:Rsp),(⟨[],[]⟩:Rsp),[],r5))/\((neN r5 0)=false->((eqN p1.model 1)=true->K ((⟨[],[]⟩:Rsp),(⟨[],[]⟩:Rsp),[],7))/\((eqN p1.model 1)=false->dw p0 p2 (λr6=>((neN r6.2.2 0)=true->False)/\((neN r6.2.2 0)=false->((eqN p1.model 2)=true->False)/\((eqN p1.model 2)=false->((eqN p1.model 3)=true->False)/\((eqN p1.model 3)=false->((ltI p1.line.pin (LQ 0))=true->1*p0.nodes.length<=2^48/\p0.nodes.length<2^63/\bA p0 (λr19=>aw (α:=(List Nat)) (λk21=>bV p0 (λr22=>aF (S:=((List Nat)×Nat)) (λ(v23,v24) nx25=>((ltN v24 r22.length)=true->∃x26,r22[v24]?=some x26/\∃x27,p2.inp[v24]?=some x27/\x26<p0.nodes.length/\∃x28,v23[x26]?=some x28/\v24+1<2^63/\nx25 ((v23.set x26 x27),(v24+1)))/\((ltN v24 r22.length)=false->k21 v23)) ((LY p0.nodes.length (0:Nat)),0))) (λv20=>aw (α:=(List Nat)) (λk30=>aF (S:=((List Nat)×Nat)) (λ(v31,v32) nx33=>((ltN v32 r19.length)=true->∃x34,r19[v32]?=some x34/\∃x35,p2.state[v32]?=some x35/\x34<p0.nodes.length/\∃x36,v31[x34]?=some x36/\v32+1<2^63/\nx33 ((v31.set x34 x35),(v32+1)))/\((ltN v32 r19.length)=false->k30 v31)) (v20,0)) (λv29=>bz p0 (λr37=>aw (α:=(List Nat)) (λk39=>aF (S:=((List Nat)×Nat)) (λ(v40,v41) nx42=>((ltN v41 r37.1.length)=true->∃x43,r37.1[v41]?=some x43/\aw (α:=(List Nat)) (λk45=>∃x46,p0.nodes[x43]?=some x46/\aw (α:=Bool) (λk48=>((neN x46.kind 0)=true->k48 (neN x46.kind 14))/\((neN x46.kind 0)=false->k48 false)) (λv47=>(v47=true->∃x49,p0.nodes[x43]?=some x49/\aw (α:=(List Nat)) (λk55=>∃x56,p0.nodes[x43]?=some x56/\aF (S:=((List Nat)×Nat)) (λ(v58,v59) nx61=>((ltN v59 x56.ins.length)=true->∃x62,x56.ins[v59]?=some x62/\x62<p0.nodes.length/\∃x63,v40[x62]?=some x63/\(v58.length+([x63]:(List Nat)).length)*1<=2^47/\v59+1<2^63/\nx61 ((v58++([x63]:(List Nat))),(v59+1)))/\((ltN v59 x56.ins.length)=false->k55 v58)) (([]:List Nat),0)) (λv53=>bL x49.kind v53 (λr68=>x43<p0.nodes.length/\∃x69,v40[x43]?=some x69/\k45 (v40.set x43 r68))))/\(v47=false->k45 v40))) (λv44=>x43<p0.nodes.length/\∃x70,v44[x43]?=some x70/\((eqN x43 p1.line.node)=true->x43<p0.nodes.length/\∃x71,v44[x43]?=some x71/\v41+1<2^63/\nx42 ((v44.set x43 p1.value),(v41+1)))/\((eqN x43 p1.line.node)=false->x43<p0.nodes.length/\∃x72,v44[x43]?=some x72/\v41+1<2^63/\nx42 ((v44.set x43 x70),(v41+1)))))/\((ltN v41 r37.1.length)=false->k39 v40)) (v29,0)) (λv38=>aw (α:=(List Nat)) (λk80=>aF (S:=((List Nat)×Nat)) (λ(v82,v83) nx85=>((ltN v83 p0.outs.length)=true->∃x86,p0.outs[v83]?=some x86/\x86<p0.nodes.length/\∃x87,v38[x86]?=some x87/\(v82.length+([x87]:(List Nat)).length)*1<=2^47/\v83+1<2^63/\nx85 ((v82++([x87]:(List Nat))),(v83+1)))/\((ltN v83 p0.outs.length)=false->k80 v82)) (([]:List Nat),0)) (λv78=>aw (α:=(List Nat)) (λk96=>aF (S:=((List Nat)×Nat)) (λ(v98,v99) nx102=>((ltN v99 r19.length)=true->∃x103,r19[v99]?=some x103/\aw (α:=(List Nat)) (λk111=>∃x112,p0.nodes[x103]?=some x112/\aF (S:=((List Nat)×Nat)) (λ(v114,v115) nx119=>((ltN v115 x112.ins.length)=true->∃x120,x112.ins[v115]?=some x120/\x120<p0.nodes.length/\∃x121,v38[x120]?=some x121/\(v114.length+([x121]:(List Nat)).length)*1<=2^47/\v115+1<2^63/\nx119 ((v114++([x121]:(List Nat))),(v115+1)))/\((ltN v115 x112.ins.length)=false->k111 v114)) (([]:List Nat),0)) (λv107=>∃x126,v107[0]?=some x126/\aw (α:=Nat) (λk131=>((eqN x126 3)=true->k131 2)/\((eqN x126 3)=false->k131 x126)) (λv128=>(v98.length+([v128]:(List Nat)).length)*1<=2^47/\v99+1<2^63/\nx102 ((v98++([v128]:(List Nat))),(v99+1)))))/\((ltN v99 r19.length)=false->k96 v98)) (([]:List Nat),0)) (λv93=>p0.nodes.length=v38.length/\K (r6.1,(⟨v78,v93⟩:Rsp),v38,0)))))))))/\((ltI p1.line.pin (LQ 0))=false->False))))))))
theorem tW{p0:Circ}{p1:Flt}{p2:Pat}{K:(Rsp×Rsp×(List Nat)×Nat)->Prop}(hm:gy p0 p1 p2 K){h0:Heap}(hB:aH vars h0):∃r,K r/\al Tryz.prog NG 137 ⟨[az p0,ay p1,aE p2]⟩ h0 ((λ(r:(Rsp×Rsp×(List Nat)×Nat))=>MD ⟨[jD (r.1),jD (r.2.1),(ae 1 n8) (r.2.2.1),i64 (r.2.2.2)]⟩) r) h0:=by
 unfold gy at hm
 refine fw Tryz.func137 hB (enc:=(λ(r:(Rsp×Rsp×(List Nat)×Nat))=>MD ⟨[jD (r.1),jD (r.2.1),(ae 1 n8) (r.2.2.1),i64 (r.2.2.2)]⟩)) (λr=>aq.tup (ag.cons (si _) (ag.cons (si _) (ag.cons (cg (λ_=>ag.cons (aq.flat rfl) ag.nil)) (ag.cons (aq.flat rfl) (ag.nil)))))) λO=>?_;conv=>whnf
 refine gX ?_;refine fz ?_;refine gH ?_;refine fz ?_;refine gH ?_;refine fz ?_;refine gH ?_;refine O.new (aj (l:=[nS,nS]) rfl rfl rfl) λg1 h O=>?_;refine gH ?_;refine O.new (aj (l:=[nS,nS]) rfl rfl rfl) λg3 h O=>?_;refine gH ?_;refine gX ?_;refine ca (fJ hm O.has) λr5 hm=>?_;refine gX ?_;refine br hm (λhm=>?_) λhm=>?_
 .refine gX ?_;refine ldA O.i1 ?_;refine gH ?_
  first|refine⟨.inr (.inr (aM rfl O.i1 rfl rfl (lbE rfl) rfl)),?_⟩|refine⟨.inr (.inl (by kernel_rfl)),?_⟩
  refine gX ?_;refine ldA O.i0 ?_;refine gH ?_
  first|refine⟨.inr (.inr (aM rfl O.i0 rfl rfl (lbE rfl) rfl)),?_⟩|refine⟨.inr (.inl (by kernel_rfl)),?_⟩
  refine gX ?_
  refine O.sO 2 (.tail _ (.head _)) λh hext O=>?_;conv=>whnf
  refine⟨.inr hext,?_⟩;refine gH ?_
  refine O.sO 2 (.head _) λh hext O=>?_;conv=>whnf
  refine⟨.inr hext,?_⟩;refine gX ?_
  refine⟨_,aI rfl rfl O.i1 rfl rfl (lbE rfl) rfl,?_⟩;conv=>whnf
  refine⟨_,aI rfl rfl O.i0 rfl rfl (lbE rfl) rfl,?_⟩;conv=>whnf
  exact⟨((⟨[],[]⟩:Rsp),(⟨[],[]⟩:Rsp),[],r5),hm,O.ext,λh2 F=>VLe.tup (LLe.cons (VLe.agg (LLe.cons (VLe.nil _ _) (LLe.cons (VLe.nil _ _) (LLe.nil _)))) (LLe.cons (VLe.agg (LLe.cons (VLe.nil _ _) (LLe.cons (VLe.nil _ _) (LLe.nil _)))) (LLe.cons (VLe.nil _ _) (LLe.cons (VLe.refl _ _) (LLe.nil _)))))⟩
 .refine gX ?_;refine br hm (λhm=>?_) λhm=>?_
  .refine gX ?_;refine ldA O.i1 ?_;refine gH ?_
   first|refine⟨.inr (.inr (aM rfl O.i1 rfl rfl (lbE rfl) rfl)),?_⟩|refine⟨.inr (.inl (by kernel_rfl)),?_⟩
   refine gX ?_;refine ldA O.i0 ?_;refine gH ?_
   first|refine⟨.inr (.inr (aM rfl O.i0 rfl rfl (lbE rfl) rfl)),?_⟩|refine⟨.inr (.inl (by kernel_rfl)),?_⟩
   refine gX ?_
   refine O.sO 2 (.tail _ (.head _)) λh hext O=>?_;conv=>whnf
   refine⟨.inr hext,?_⟩;refine gH ?_
   refine O.sO 2 (.head _) λh hext O=>?_;conv=>whnf
   refine⟨.inr hext,?_⟩;refine gX ?_
   refine⟨_,aI rfl rfl O.i1 rfl rfl (lbE rfl) rfl,?_⟩;conv=>whnf
   refine⟨_,aI rfl rfl O.i0 rfl rfl (lbE rfl) rfl,?_⟩;conv=>whnf
   exact⟨((⟨[],[]⟩:Rsp),(⟨[],[]⟩:Rsp),[],7),hm,O.ext,λh2 F=>VLe.tup (LLe.cons (VLe.agg (LLe.cons (VLe.nil _ _) (LLe.cons (VLe.nil _ _) (LLe.nil _)))) (LLe.cons (VLe.agg (LLe.cons (VLe.nil _ _) (LLe.cons (VLe.nil _ _) (LLe.nil _)))) (LLe.cons (VLe.nil _ _) (LLe.cons (VLe.refl _ _) (LLe.nil _)))))⟩
  .refine gX ?_;refine ca (kf hm O.has) λr6 hm=>?_;refine gH ?_;refine O.stC 2 (.tail _ (.head _)) [((ae 1 n8) r6.1.out),((ae 1 n8) r6.1.next)] λh O=>?_;refine gX ?_;refine br hm (λhm=>?_) λhm=>?_
   .refine gX ?_;exact Nn hm
   .refine gX ?_;refine fg Tryz.func165 ?_;refine gX ?_;refine fz ?_;refine gH ?_;refine fz ?_;refine gH ?_;refine fz ?_;refine gH ?_
    apply Cs;conv=>whnf
    refine CodeS.mV ?_;refine gH ?_;refine O.oN (aj (l:=[(i64 0)]) rfl rfl rfl) λg7 h O=>?_;refine gH ?_;refine O.oN (aj (l:=[(i64 0)]) rfl rfl rfl) λg9 h O=>?_;refine gH ?_;refine O.stC 1 (.tail _ (.head _)) [(i64 p1.line.node)] λh O=>?_;refine gH ?_;refine O.stC 1 (.head _) [(i64 p1.other)] λh O=>?_;refine gX ?_;refine br hm (λhm=>?_) λhm=>?_
    .apply Cs;conv=>whnf
     refine CodeS.zr (v:=(i64 p1.other)) O (.head _) (t2:=8) rfl rfl rfl λh O=>?_;conv=>whnf
     refine CodeS.zr (v:=(i64 p1.line.node)) O (.tail _ (.head _)) (t2:=7) rfl rfl rfl λh O=>?_;conv=>whnf
     refine CodeS.mV ?_;refine gH ?_;exact Nn hm
    .refine gX ?_;refine br hm (λhm=>?_) λhm=>?_
     .refine gX ?_;exact Nn hm
     .refine gX ?_;refine fg Tryz.func195 ?_;refine gX ?_;refine fz ?_;refine gH ?_;refine fz ?_;refine gH ?_;refine O.new (sh rfl) λg11 h O=>?_;refine gH ?_;refine gX ?_;refine O.new (sh rfl) λg13 h O=>?_;refine gH ?_;refine gX ?_;refine br hm (λhm=>?_) λhm=>?_
      .refine gX ?_;refine O.stC 1 (.head _) (cy p0 nS (clo 213 [(FP (av p1.line)),(pG g11)]) (clo 193 [])) λh O=>?_;refine gX ?_;refine fg Tryz.func166 ?_;refine gX ?_;refine fz ?_;refine gH ?_;refine O.new (aj (l:=[nS,nS]) rfl rfl rfl) λg15 h O=>?_;refine gH ?_;refine gX ?_;refine O.mkL (enc:=n8) 1 1 0 hm λg17 h O hm=>?_;refine gH ?_;refine O.stC 1 (.tail _ (.tail _ (.head _))) (cy p0 (.slice (some ⟨g17,0,none⟩) p0.nodes.length p0.nodes.length) (clo 213 [(FP (av p1.line)),(pG g11)]) (clo 193 [])) λh O=>?_;refine gH ?_
       apply Cs;conv=>whnf
       refine CodeS.yY O (.tail _ (.tail _ (.head _))) 0 rfl rfl λh O=>?_;refine gX ?_;refine ca (cu hm O.has) λr19 hm=>?_;refine gH ?_;refine jn hm 189 [0,3,4,5] (λs=>s) (λv20 h=>Own vars h0 [(sG g17 n8 v20),(sC g11 [(clo 197 [(FP (ay p1))])]),(sC g15 [nS,nS]),(sC g1 [((ae 1 n8) r6.1.out),((ae 1 n8) r6.1.next)]),(sC g3 [nS,nS]),(sR g13 (cy p0 (.slice (some ⟨g17,0,none⟩) p0.nodes.length p0.nodes.length) (clo 213 [(FP (av p1.line)),(pG g11)]) (clo 193 [])))] h) (λv20=>[]) (λhm=>?_) ?_
       .refine gX ?_;refine ca (dV hm O.has) λr22 hm=>?_;refine gX ?_;refine lw 189 [0,3,4,5,41,42] (σ:=((List Nat)×Nat)) (λs=>s) (λ(v23,v24) h=>Own vars h0 [(sG g17 n8 v23),(sC g11 [(clo 197 [(FP (ay p1))])]),(sC g15 [nS,nS]),(sC g1 [((ae 1 n8) r6.1.out),((ae 1 n8) r6.1.next)]),(sC g3 [nS,nS]),(sR g13 (cy p0 (.slice (some ⟨g17,0,none⟩) p0.nodes.length p0.nodes.length) (clo 213 [(FP (av p1.line)),(pG g11)]) (clo 193 [])))] h) (λ(v23,v24)=>[(43,(i64 v24))]) ((LY p0.nodes.length (0:Nat)),0) hm (O.sel [0,3,1,7,6,2] (by decide)) ?_;clear hm;rintro⟨v23,v24⟩ nx25 base h hm O;refine gX ?_;refine br hm (λhm=>?_) λhm=>?_
        .refine gX ?_;refine atF hm λx26 hx26 hm=>?_;refine gX ?_;refine dF ?_;refine gX ?_;refine dF ?_;refine gX ?_;refine atF hm λx27 hx27 hm=>?_;refine gH ?_;refine ix 1 hm λx28 hx28 hm=>?_;refine gH ?_;refine O.stE 1 (.head _) hx28 x27 λh O=>?_;refine gH ?_;refine gX ?_;refine aJ hm λhm=>?_;refine gH ?_;exact jx ((v23.set x26 x27),(v24+1)) hm O
        .refine gX ?_;exact jx v23 hm O
       .clear hm;rintro v20 base h hm O
        conv=>whnf
        refine jn hm 189 [0,4,5] (λs=>s) (λv29 h=>Own vars h0 [(sG g17 n8 v29),(sC g11 [(clo 197 [(FP (ay p1))])]),(sC g15 [nS,nS]),(sC g1 [((ae 1 n8) r6.1.out),((ae 1 n8) r6.1.next)]),(sC g3 [nS,nS]),(sR g13 (cy p0 (.slice (some ⟨g17,0,none⟩) p0.nodes.length p0.nodes.length) (clo 213 [(FP (av p1.line)),(pG g11)]) (clo 193 [])))] h) (λv29=>[]) (λhm=>?_) ?_
        .refine gX ?_;refine lw 189 [0,3,4,5,60,61] (σ:=((List Nat)×Nat)) (λs=>s) (λ(v31,v32) h=>Own vars h0 [(sG g17 n8 v31),(sC g11 [(clo 197 [(FP (ay p1))])]),(sC g15 [nS,nS]),(sC g1 [((ae 1 n8) r6.1.out),((ae 1 n8) r6.1.next)]),(sC g3 [nS,nS]),(sR g13 (cy p0 (.slice (some ⟨g17,0,none⟩) p0.nodes.length p0.nodes.length) (clo 213 [(FP (av p1.line)),(pG g11)]) (clo 193 [])))] h) (λ(v31,v32)=>[(62,(i64 v32))]) (v20,0) hm O ?_;clear hm;rintro⟨v31,v32⟩ nx33 base h hm O;refine gX ?_;refine br hm (λhm=>?_) λhm=>?_
         .refine gX ?_;refine atF hm λx34 hx34 hm=>?_;refine gX ?_;refine dF ?_;refine gX ?_;refine dF ?_;refine gX ?_;refine atF hm λx35 hx35 hm=>?_;refine gH ?_;refine ix 1 hm λx36 hx36 hm=>?_;refine gH ?_;refine O.stE 1 (.head _) hx36 x35 λh O=>?_;refine gH ?_;refine gX ?_;refine aJ hm λhm=>?_;refine gH ?_;exact jx ((v31.set x34 x35),(v32+1)) hm O
         .refine gX ?_;exact jx v31 hm O
        .clear hm;rintro v29 base h hm O;refine gX ?_;refine ca (eG hm O.has) λr37 hm=>?_;refine gH ?_
         apply Cs;conv=>whnf
         apply Cs;refine gH ?_;refine jn hm 189 [0,4,5] (λs=>s) (λv38 h=>Own vars h0 [(sG g17 n8 v38),(sC g11 [(clo 197 [(FP (ay p1))])]),(sC g15 [nS,nS]),(sC g1 [((ae 1 n8) r6.1.out),((ae 1 n8) r6.1.next)]),(sC g3 [nS,nS]),(sR g13 (cy p0 (.slice (some ⟨g17,0,none⟩) p0.nodes.length p0.nodes.length) (clo 213 [(FP (av p1.line)),(pG g11)]) (clo 193 [])))] h) (λv38=>[]) (λhm=>?_) ?_
         .refine gX ?_;refine lw 189 [0,4,5,12,89,90] (σ:=((List Nat)×Nat)) (λs=>s) (λ(v40,v41) h=>Own vars h0 [(sG g17 n8 v40),(sC g11 [(clo 197 [(FP (ay p1))])]),(sC g15 [nS,nS]),(sC g1 [((ae 1 n8) r6.1.out),((ae 1 n8) r6.1.next)]),(sC g3 [nS,nS]),(sR g13 (cy p0 (.slice (some ⟨g17,0,none⟩) p0.nodes.length p0.nodes.length) (clo 213 [(FP (av p1.line)),(pG g11)]) (clo 193 [])))] h) (λ(v40,v41)=>[(91,(i64 v41))]) (v29,0) hm O ?_;clear hm;rintro⟨v40,v41⟩ nx42 base h hm O;refine gX ?_;refine br hm (λhm=>?_) λhm=>?_
          .refine gX ?_;refine atF hm λx43 hx43 hm=>?_;refine gH ?_;refine jn hm 189 [0,4,5,12,14,89,90,91] (λs=>s) (λv44 h=>Own vars h0 [(sG g17 n8 v44),(sC g11 [(clo 197 [(FP (ay p1))])]),(sC g15 [nS,nS]),(sC g1 [((ae 1 n8) r6.1.out),((ae 1 n8) r6.1.next)]),(sC g3 [nS,nS]),(sR g13 (cy p0 (.slice (some ⟨g17,0,none⟩) p0.nodes.length p0.nodes.length) (clo 213 [(FP (av p1.line)),(pG g11)]) (clo 193 [])))] h) (λv44=>[]) (λhm=>?_) ?_
           .refine gX ?_;refine atF hm λx46 hx46 hm=>?_;refine gH ?_;refine jn hm 189 [0,4,5,12,14,89,90,91] (λs=>s) (λv47 h=>Own vars h0 [(sG g17 n8 v40),(sC g11 [(clo 197 [(FP (ay p1))])]),(sC g15 [nS,nS]),(sC g1 [((ae 1 n8) r6.1.out),((ae 1 n8) r6.1.next)]),(sC g3 [nS,nS]),(sR g13 (cy p0 (.slice (some ⟨g17,0,none⟩) p0.nodes.length p0.nodes.length) (clo 213 [(FP (av p1.line)),(pG g11)]) (clo 193 [])))] h) (λv47=>[(109,(.bool v47))]) (λhm=>?_) ?_
            .refine gX ?_;refine br hm (λhm=>?_) λhm=>?_
             .refine gX ?_;exact jx (neN x46.kind 14) hm O
             .refine gX ?_;exact jx false hm O
            .clear hm;rintro v47 base h hm O;refine gX ?_;refine br hm (λhm=>?_) λhm=>?_
             .refine CodeS.mV ?_;refine gH ?_
              refine fg Tryz.func198 ?_;conv=>whnf
              apply Cs;conv=>whnf
              apply Cs;refine gH ?_
              apply Cs;conv=>whnf
              refine CodeS.mV ?_;refine gH ?_;refine atF hm λx49 hx49 hm=>?_;refine gH ?_
              refine fg Tryz.func199 ?_;conv=>whnf
              apply Cs;conv=>whnf
              apply Cs;refine gH ?_;have O:=O.aZ (.cells (ah ((([]:List Nat)).map n8)) false)
              apply Cs;conv=>whnf
              apply Cs;refine gH ?_;have O:=O.aZ (.cells (ah ((([]:List Nat)).map n8)) false);refine jn (σ:=(List Nat)×Option Nat) hm 42 [] (λs=>s.1) (λ(v53,a52) h=>(a52=none->v53=[])/\Own vars h0 [(sM a52 n8 v53),(sC g1 [((ae 1 n8) r6.1.out),((ae 1 n8) r6.1.next)]),(sC g3 [nS,nS]),(sR g13 (cy p0 (.slice (some ⟨g17,0,none⟩) p0.nodes.length p0.nodes.length) (clo 213 [(FP (av p1.line)),(pG g11)]) (clo 193 []))),(sG g17 n8 v40),(sC g11 [(clo 197 [(FP (ay p1))])]),(sC g15 [nS,nS])] h) (λ(v53,a52)=>[(5,(ak 1 a52 (v53.map n8)))]) (λhm=>?_) ?_
              .refine gX ?_;refine atF hm λx56 hx56 hm=>?_;refine gX ?_;refine lw 42 [0,1,16,17] (σ:=((List Nat)×Nat)×Option Nat) (λs=>s.1) (λ((v58,v59),a57) h=>(a57=none->v58=[])/\Own vars h0 [(sG g17 n8 v40),(sC g11 [(clo 197 [(FP (ay p1))])]),(sM a57 n8 v58),(sC g1 [((ae 1 n8) r6.1.out),((ae 1 n8) r6.1.next)]),(sC g3 [nS,nS]),(sR g13 (cy p0 (.slice (some ⟨g17,0,none⟩) p0.nodes.length p0.nodes.length) (clo 213 [(FP (av p1.line)),(pG g11)]) (clo 193 []))),(sC g15 [nS,nS])] h) (λ((v58,v59),a57)=>[(5,(ak 1 a57 (v58.map n8))),(18,(i64 v59))]) ((([]:List Nat),0),none) hm ⟨(λ_=>rfl),(O.sel [2,3,0,5,6,7,4] (by decide))⟩ ?_;clear hm;rintro⟨⟨v58,v59⟩,a57⟩ nx61 base h hm ⟨ha60,O⟩;refine gX ?_;refine br hm (λhm=>?_) λhm=>?_
               .refine gX ?_;refine atF hm λx62 hx62 hm=>?_;refine gX ?_;refine dF ?_;refine gX ?_;refine dF ?_;refine gX ?_;refine ix 1 hm λx63 hx63 hm=>?_;refine gH ?_;refine⟨_,bw rfl O.i0 rfl (eK (enc:=n8) (s:=1) (k:=0) (λ_=>rfl) hx63 rfl),?_⟩;refine gH ?_;refine fg Tryz.func193 ?_;refine gX ?_;refine⟨.inl (Ext.refl _),?_⟩;refine gH ?_;refine O.eA (l:=([x63]:(List Nat))) (enc:=n8) (s:=1) (z:=(n8 0)) rfl rfl (by kernel_rfl) (by kernel_rfl) rfl rfl rfl rfl (λ_=>rfl) λg64 h O=>?_;refine gH ?_;refine O.fb (enc:=n8) (l:=v58) (new:=([x63]:(List Nat))) (s:=1) (b:=1) (.tail _ (.tail _ (.tail _ (.head _)))) ha60 rfl rfl rfl rfl rfl rfl rfl rfl (YOk.own O.i0 rfl (λ_=>rfl) rfl) (λ_=>rfl) (λ_=>rfl) (by decide) hm.1 λa66 h ha67 O=>?_;refine gH ?_;replace hm:=hm.2;refine gX ?_;refine aJ hm λhm=>?_;refine gH ?_;exact jx (((v58++([x63]:(List Nat))),(v59+1)),a66) hm ⟨ha67,(O.sel [1,2,3,4,5,6,7] (by decide))⟩
               .refine gX ?_;exact jx (v58,a57) hm ⟨ha60,(O.sel [2,3,4,5,0,1,6] (by decide))⟩
              .clear hm;rintro⟨v53,a52⟩ base h hm ⟨ha54,O⟩;refine gX ?_;refine al.Ew (λ_ hb=>iC hm hb) (λ_=>ly rfl) sL O.has (λh2 F=>(LLe.cons (VLe.refl _ _) (LLe.cons (O.jP F (L1 _) (.head _) ha54 (λ_=>rfl)) (LLe.nil _)))) (by kernel_rfl) (λr68 hm'=>?_);replace hm:=hm';refine gX ?_;refine ix 1 hm λx69 hx69 hm=>?_;refine gH ?_;refine O.stE 1 (.tail _ (.tail _ (.tail _ (.tail _ (.head _))))) hx69 r68 λh O=>?_;refine gH ?_;exact jx (v40.set x43 r68) hm (O.sel [4,5,6,1,2,3] (by decide))
             .refine gX ?_;exact jx v40 hm O
           .clear hm;rintro v44 base h hm O;refine gX ?_;refine dF ?_;refine gX ?_;refine dF ?_;refine gX ?_;refine dF ?_;refine gX ?_;refine ix 1 hm λx70 hx70 hm=>?_;refine gH ?_;refine⟨_,bw rfl O.i0 rfl (eK (enc:=n8) (s:=1) (k:=0) (λ_=>rfl) hx70 rfl),?_⟩;refine gH ?_;refine fg Tryz.func213 ?_;refine gX ?_;refine br hm (λhm=>?_) λhm=>?_
            .refine gX ?_;refine fg Tryz.func197 ?_;refine gX ?_;refine⟨.inl (Ext.refl _),?_⟩;refine gH ?_;refine ix 1 hm λx71 hx71 hm=>?_;refine gH ?_;refine O.stE 1 (.head _) hx71 p1.value λh O=>?_;refine gH ?_;refine gX ?_;refine aJ hm λhm=>?_;refine gH ?_;exact jx ((v44.set x43 p1.value),(v41+1)) hm O
            .refine gX ?_;refine⟨.inl (Ext.refl _),?_⟩;refine gH ?_;refine ix 1 hm λx72 hx72 hm=>?_;refine gH ?_;refine O.stE 1 (.head _) hx72 x70 λh O=>?_;refine gH ?_;refine gX ?_;refine aJ hm λhm=>?_;refine gH ?_;exact jx ((v44.set x43 x70),(v41+1)) hm O
          .refine gX ?_;exact jx v40 hm O
         .clear hm;rintro v38 base h hm O;refine gX ?_;have O:=O.aZ (.cells (ah ((([]:List Nat)).map n8)) false);have O:=O.aZ (.cells (ah ((([]:List Nat)).map n8)) false);refine O.new (aj (l:=[nS,nS]) rfl rfl rfl) λg73 h O=>?_;refine gH ?_;refine jn (σ:=(List Nat)×Option Nat) hm 189 [0,4,5,16] (λs=>s.1) (λ(v78,a77) h=>(a77=none->v78=[])/\Own vars h0 [(sG g17 n8 v38),(sC g11 [(clo 197 [(FP (ay p1))])]),(sC g15 [nS,nS]),(sC g73 [(ak 1 a77 (v78.map n8)),(ak 1 none (([]:List Nat).map n8))]),(sM a77 n8 v78),(sM none n8 ([]:List Nat)),(sC g1 [((ae 1 n8) r6.1.out),((ae 1 n8) r6.1.next)]),(sC g3 [nS,nS]),(sR g13 (cy p0 (.slice (some ⟨g17,0,none⟩) p0.nodes.length p0.nodes.length) (clo 213 [(FP (av p1.line)),(pG g11)]) (clo 193 [])))] h) (λ(v78,a77)=>[]) (λhm=>?_) ?_
          .refine gX ?_;refine lw 189 [0,4,5,16,143,144] (σ:=((List Nat)×Nat)×Option Nat) (λs=>s.1) (λ((v82,v83),a81) h=>(a81=none->v82=[])/\Own vars h0 [(sG g17 n8 v38),(sC g11 [(clo 197 [(FP (ay p1))])]),(sC g15 [nS,nS]),(sC g73 [(ak 1 a81 (v82.map n8)),(ak 1 none (([]:List Nat).map n8))]),(sM a81 n8 v82),(sM none n8 ([]:List Nat)),(sC g1 [((ae 1 n8) r6.1.out),((ae 1 n8) r6.1.next)]),(sC g3 [nS,nS]),(sR g13 (cy p0 (.slice (some ⟨g17,0,none⟩) p0.nodes.length p0.nodes.length) (clo 213 [(FP (av p1.line)),(pG g11)]) (clo 193 [])))] h) (λ((v82,v83),a81)=>[(145,(i64 v83))]) ((([]:List Nat),0),none) hm ⟨(λ_=>rfl),(O.sel [3,4,5,0,2,1,6,7,8] (by decide))⟩ ?_;clear hm;rintro⟨⟨v82,v83⟩,a81⟩ nx85 base h hm ⟨ha84,O⟩;refine gX ?_;refine br hm (λhm=>?_) λhm=>?_
           .refine gX ?_;refine atF hm λx86 hx86 hm=>?_;refine gX ?_;refine ldO O.i3 ?_;refine gH ?_
            first|refine⟨.inr (.inr (bw rfl O.i3 rfl rfl)),?_⟩|refine⟨.inr (.inl (by kernel_rfl)),?_⟩
            refine gX ?_;refine dF ?_;refine gX ?_;refine ix 1 hm λx87 hx87 hm=>?_;refine gH ?_;refine⟨_,bw rfl O.i0 rfl (eK (enc:=n8) (s:=1) (k:=0) (λ_=>rfl) hx87 rfl),?_⟩;refine gH ?_;refine O.eA (l:=([x87]:(List Nat))) (enc:=n8) (s:=1) (z:=(n8 0)) rfl rfl (by kernel_rfl) (by kernel_rfl) rfl rfl rfl rfl (λ_=>rfl) λg88 h O=>?_;refine gH ?_;refine O.fb (enc:=n8) (l:=v82) (new:=([x87]:(List Nat))) (s:=1) (b:=1) (.tail _ (.tail _ (.tail _ (.tail _ (.tail _ (.head _)))))) ha84 rfl rfl rfl rfl rfl rfl rfl rfl (YOk.own O.i0 rfl (λ_=>rfl) rfl) (λ_=>rfl) (λ_=>rfl) (by decide) hm.1 λa90 h ha91 O=>?_;refine gH ?_;replace hm:=hm.2;refine O.stC 1 (.tail _ (.tail _ (.tail _ (.tail _ (.head _))))) [(ak 1 a90 ((v82++([x87]:(List Nat))).map n8)),(ak 1 none (([]:List Nat).map n8))] λh O=>?_;refine gH ?_;refine gX ?_;refine aJ hm λhm=>?_;refine gH ?_;exact jx (((v82++([x87]:(List Nat))),(v83+1)),a90) hm ⟨ha91,(O.sel [1,2,3,4,5,6,7,8,9] (by decide))⟩
           .refine gX ?_;exact jx (v82,a81) hm ⟨ha84,O⟩
          .clear hm;rintro⟨v78,a77⟩ base h hm ⟨ha79,O⟩
           conv=>whnf
           refine jn (σ:=(List Nat)×Option Nat) hm 189 [4,16] (λs=>s.1) (λ(v93,a92) h=>(a77=none->v78=[])/\(a92=none->v93=[])/\Own vars h0 [(sC g15 [nS,nS]),(sC g73 [(ak 1 a77 (v78.map n8)),(ak 1 a92 (v93.map n8))]),(sM a77 n8 v78),(sM a92 n8 v93),(sC g1 [((ae 1 n8) r6.1.out),((ae 1 n8) r6.1.next)]),(sC g3 [nS,nS]),(sR g13 (cy p0 (.slice (some ⟨g17,0,none⟩) p0.nodes.length p0.nodes.length) (clo 213 [(FP (av p1.line)),(pG g11)]) (clo 193 []))),(sG g17 n8 v38),(sC g11 [(clo 197 [(FP (ay p1))])])] h) (λ(v93,a92)=>[]) (λhm=>?_) ?_
           .refine gX ?_;refine lw 189 [0,4,16,162,163] (σ:=((List Nat)×Nat)×Option Nat) (λs=>s.1) (λ((v98,v99),a97) h=>(a77=none->v78=[])/\(a97=none->v98=[])/\Own vars h0 [(sG g17 n8 v38),(sC g11 [(clo 197 [(FP (ay p1))])]),(sC g15 [nS,nS]),(sC g73 [(ak 1 a77 (v78.map n8)),(ak 1 a97 (v98.map n8))]),(sM a77 n8 v78),(sM a97 n8 v98),(sC g1 [((ae 1 n8) r6.1.out),((ae 1 n8) r6.1.next)]),(sC g3 [nS,nS]),(sR g13 (cy p0 (.slice (some ⟨g17,0,none⟩) p0.nodes.length p0.nodes.length) (clo 213 [(FP (av p1.line)),(pG g11)]) (clo 193 [])))] h) (λ((v98,v99),a97)=>[(164,(i64 v99))]) ((([]:List Nat),0),none) hm ⟨ha79,(λ_=>rfl),O⟩ ?_;clear hm;rintro⟨⟨v98,v99⟩,a97⟩ nx102 base h hm ⟨ha100,ha101,O⟩;refine gX ?_;refine br hm (λhm=>?_) λhm=>?_
            .refine gX ?_;refine atF hm λx103 hx103 hm=>?_;refine gX ?_
             refine fg Tryz.func199 ?_;conv=>whnf
             apply Cs;conv=>whnf
             apply Cs;refine gH ?_;have O:=O.aZ (.cells (ah ((([]:List Nat)).map n8)) false)
             apply Cs;conv=>whnf
             apply Cs;refine gH ?_;have O:=O.aZ (.cells (ah ((([]:List Nat)).map n8)) false);refine jn (σ:=(List Nat)×Option Nat) hm 42 [] (λs=>s.1) (λ(v107,a106) h=>(a106=none->v107=[])/\(a77=none->v78=[])/\(a97=none->v98=[])/\Own vars h0 [(sM a106 n8 v107),(sC g1 [((ae 1 n8) r6.1.out),((ae 1 n8) r6.1.next)]),(sC g3 [nS,nS]),(sR g13 (cy p0 (.slice (some ⟨g17,0,none⟩) p0.nodes.length p0.nodes.length) (clo 213 [(FP (av p1.line)),(pG g11)]) (clo 193 []))),(sG g17 n8 v38),(sC g11 [(clo 197 [(FP (ay p1))])]),(sC g15 [nS,nS]),(sC g73 [(ak 1 a77 (v78.map n8)),(ak 1 a97 (v98.map n8))]),(sM a77 n8 v78),(sM a97 n8 v98)] h) (λ(v107,a106)=>[(5,(ak 1 a106 (v107.map n8)))]) (λhm=>?_) ?_
             .refine gX ?_;refine atF hm λx112 hx112 hm=>?_;refine gX ?_;refine lw 42 [0,1,16,17] (σ:=((List Nat)×Nat)×Option Nat) (λs=>s.1) (λ((v114,v115),a113) h=>(a113=none->v114=[])/\(a77=none->v78=[])/\(a97=none->v98=[])/\Own vars h0 [(sG g17 n8 v38),(sC g11 [(clo 197 [(FP (ay p1))])]),(sM a113 n8 v114),(sC g1 [((ae 1 n8) r6.1.out),((ae 1 n8) r6.1.next)]),(sC g3 [nS,nS]),(sR g13 (cy p0 (.slice (some ⟨g17,0,none⟩) p0.nodes.length p0.nodes.length) (clo 213 [(FP (av p1.line)),(pG g11)]) (clo 193 []))),(sC g15 [nS,nS]),(sC g73 [(ak 1 a77 (v78.map n8)),(ak 1 a97 (v98.map n8))]),(sM a77 n8 v78),(sM a97 n8 v98)] h) (λ((v114,v115),a113)=>[(5,(ak 1 a113 (v114.map n8))),(18,(i64 v115))]) ((([]:List Nat),0),none) hm ⟨(λ_=>rfl),ha100,ha101,(O.sel [2,3,0,8,9,10,4,5,6,7] (by decide))⟩ ?_;clear hm;rintro⟨⟨v114,v115⟩,a113⟩ nx119 base h hm ⟨ha116,ha117,ha118,O⟩;refine gX ?_;refine br hm (λhm=>?_) λhm=>?_
              .refine gX ?_;refine atF hm λx120 hx120 hm=>?_;refine gX ?_;refine dF ?_;refine gX ?_;refine dF ?_;refine gX ?_;refine ix 1 hm λx121 hx121 hm=>?_;refine gH ?_;refine⟨_,bw rfl O.i0 rfl (eK (enc:=n8) (s:=1) (k:=0) (λ_=>rfl) hx121 rfl),?_⟩;refine gH ?_;refine fg Tryz.func193 ?_;refine gX ?_;refine⟨.inl (Ext.refl _),?_⟩;refine gH ?_;refine O.eA (l:=([x121]:(List Nat))) (enc:=n8) (s:=1) (z:=(n8 0)) rfl rfl (by kernel_rfl) (by kernel_rfl) rfl rfl rfl rfl (λ_=>rfl) λg122 h O=>?_;refine gH ?_;refine O.fb (enc:=n8) (l:=v114) (new:=([x121]:(List Nat))) (s:=1) (b:=1) (.tail _ (.tail _ (.tail _ (.head _)))) ha116 rfl rfl rfl rfl rfl rfl rfl rfl (YOk.own O.i0 rfl (λ_=>rfl) rfl) (λ_=>rfl) (λ_=>rfl) (by decide) hm.1 λa124 h ha125 O=>?_;refine gH ?_;replace hm:=hm.2;refine gX ?_;refine aJ hm λhm=>?_;refine gH ?_;exact jx (((v114++([x121]:(List Nat))),(v115+1)),a124) hm ⟨ha125,ha117,ha118,(O.sel [1,2,3,4,5,6,7,8,9,10] (by decide))⟩
              .refine gX ?_;exact jx (v114,a113) hm ⟨ha116,ha117,ha118,(O.sel [2,3,4,5,0,1,6,7,8,9] (by decide))⟩
             .clear hm;rintro⟨v107,a106⟩ base h hm ⟨ha108,ha109,ha110,O⟩;refine gX ?_;obtain⟨x126,hx126,hm⟩:=hm;have h9:=hm;obtain⟨g127,rfl⟩:=lb ha108 hx126;replace hm:=h9;refine cb (s:=1) (j:=0) rfl rfl rfl rfl (by rw[LZ];exact ai hx126) ?_;refine gH ?_;refine ldE (s:=1) (i:=0) O.i0 hx126 ?_;refine gH ?_;refine jn hm 189 [0,4,16,162,163,164] (λs=>s) (λv128 h=>(a77=none->v78=[])/\(a97=none->v98=[])/\Own vars h0 [(sG g17 n8 v38),(sC g11 [(clo 197 [(FP (ay p1))])]),(sC g15 [nS,nS]),(sC g73 [(ak 1 a77 (v78.map n8)),(ak 1 a97 (v98.map n8))]),(sM a77 n8 v78),(sM a97 n8 v98),(sC g1 [((ae 1 n8) r6.1.out),((ae 1 n8) r6.1.next)]),(sC g3 [nS,nS]),(sR g13 (cy p0 (.slice (some ⟨g17,0,none⟩) p0.nodes.length p0.nodes.length) (clo 213 [(FP (av p1.line)),(pG g11)]) (clo 193 [])))] h) (λv128=>[(21,(n8 v128))]) (λhm=>?_) ?_
              .refine gX ?_;refine br hm (λhm=>?_) λhm=>?_
               .refine gX ?_;exact jx 2 hm ⟨ha109,ha110,(O.sel [4,5,6,7,8,9,1,2,3] (by decide))⟩
               .refine gX ?_;exact jx x126 hm ⟨ha109,ha110,(O.sel [4,5,6,7,8,9,1,2,3] (by decide))⟩
              .clear hm;rintro v128 base h hm ⟨ha129,ha130,O⟩;refine gX ?_;refine ldO O.i3 ?_;refine gH ?_;refine fz ?_;refine gH ?_;refine O.apL (enc:=n8) (l:=v98) (new:=([v128]:(List Nat))) 1 (.tail _ (.tail _ (.tail _ (.tail _ (.tail _ (.head _)))))) ha130 hm λa132 h ha133 O hm=>?_;refine gH ?_;refine O.stC 1 (.tail _ (.tail _ (.tail _ (.head _)))) [(ak 1 a77 (v78.map n8)),(ak 1 a132 ((v98++([v128]:(List Nat))).map n8))] λh O=>?_;refine gX ?_;refine aJ hm λhm=>?_;refine gH ?_;exact jx (((v98++([v128]:(List Nat))),(v99+1)),a132) hm ⟨ha129,ha133,O⟩
            .refine gX ?_;exact jx (v98,a97) hm ⟨ha100,ha101,(O.sel [2,3,4,5,6,7,8,0,1] (by decide))⟩
           .clear hm;rintro⟨v93,a92⟩ base h hm ⟨ha94,ha95,O⟩;refine gX ?_
            first|refine⟨.inr (.inr (bw rfl O.i1 rfl rfl)),?_⟩|refine⟨.inr (.inl (by kernel_rfl)),?_⟩
            refine gX ?_;refine fg Tryz.func134 ?_;refine gX ?_;refine so (s:=1) (enc:=n8) (l:=v78) (n:=v78.length) (m:=v78.length) rfl rfl rfl rfl rfl rfl rfl ?_;refine gX ?_;refine⟨.inl (Ext.refl _),?_⟩;refine gH ?_
            first|refine⟨.inr (.inr (bw rfl O.i1 rfl rfl)),?_⟩|refine⟨.inr (.inl (by kernel_rfl)),?_⟩
            refine gX ?_;refine fg Tryz.func134 ?_;refine gX ?_;refine so (s:=1) (enc:=n8) (l:=v93) (n:=v93.length) (m:=v93.length) rfl rfl rfl rfl rfl rfl rfl ?_;refine gX ?_;refine⟨.inl (Ext.refl _),?_⟩;refine gH ?_;refine O.stC 2 (.head _) [(ib a77 (v78.map n8)),(ib a92 (v93.map n8))] λh O=>?_;refine gH ?_;refine gX ?_;refine⟨_,aI rfl rfl O.i0 rfl rfl (lbE rfl) rfl,?_⟩;refine gX ?_;refine O.stC 2 (.tail _ (.tail _ (.tail _ (.tail _ (.tail _ (.head _)))))) [(ib a77 (v78.map n8)),(ib a92 (v93.map n8))] λh O=>?_;refine gX ?_;refine ldA O.i4 ?_;refine gH ?_
            first|refine⟨.inr (.inr (aM rfl O.i4 rfl rfl (lbE rfl) rfl)),?_⟩|refine⟨.inr (.inl (by kernel_rfl)),?_⟩
            refine gX ?_;refine ldA O.i5 ?_;refine gH ?_
            first|refine⟨.inr (.inr (aM rfl O.i5 rfl rfl (lbE rfl) rfl)),?_⟩|refine⟨.inr (.inl (by kernel_rfl)),?_⟩
            refine gX ?_;refine ldO O.i6 ?_;refine gH ?_
            first|refine⟨.inr (.inr (bw rfl O.i6 rfl rfl)),?_⟩|refine⟨.inr (.inl (by kernel_rfl)),?_⟩
            refine gX ?_
            refine O.sO 2 (.tail _ (.tail _ (.tail _ (.tail _ (.head _))))) λh hext O=>?_;conv=>whnf
            refine⟨.inr hext,?_⟩;refine gH ?_
            refine O.sO 2 (.tail _ (.tail _ (.tail _ (.tail _ (.tail _ (.head _)))))) λh hext O=>?_;conv=>whnf
            refine⟨.inr hext,?_⟩;refine gX ?_
            refine⟨_,aI rfl rfl O.i4 rfl rfl (lbE rfl) rfl,?_⟩;conv=>whnf
            refine⟨_,aI rfl rfl O.i5 rfl rfl (lbE rfl) rfl,?_⟩;conv=>whnf
            obtain⟨hn134,hm⟩:=hm;exact⟨(r6.1,(⟨v78,v93⟩:Rsp),v38,0),hm,O.ext,λh2 F=>VLe.tup (LLe.cons (VLe.refl _ _) (LLe.cons (VLe.agg (LLe.cons (O.rn F (LV _) (.tail _ (.tail _ (.head _))) ha94 (λ_=>rfl)) (LLe.cons (O.rn F (LV _) (.tail _ (.tail _ (.tail _ (.head _)))) ha95 (λ_=>rfl)) (LLe.nil _)))) (LLe.cons (O.jC F (LV _) (.tail _ (.tail _ (.tail _ (.tail _ (.tail _ (.tail _ (.tail _ (.head _)))))))) (λ_=>rfl) hn134) (LLe.cons (VLe.refl _ _) (LLe.nil _)))))⟩
      .refine gX ?_;exact Nn hm
def dY(p0:Circ)(p1:Flt)(p2:Pat)(K:(Bool×Nat)->Prop):Prop :=
 gy p0 p1 p2 (λr1=>fZ r1.1 r1.2.1 (λr6=>K (r6,r1.2.2.2)))
theorem pW{p0:Circ}{p1:Flt}{p2:Pat}{K:(Bool×Nat)->Prop}(hm:dY p0 p1 p2 K){h0:Heap}(hB:aH vars h0):∃r,K r/\al Tryz.prog NG 86 ⟨[az p0,ay p1,aE p2]⟩ h0 ((λ(r:(Bool×Nat))=>MD ⟨[L0 (r.1),i64 (r.2)]⟩) r) h0:=by
 unfold dY at hm
 refine fw Tryz.func86 hB (enc:=(λ(r:(Bool×Nat))=>MD ⟨[L0 (r.1),i64 (r.2)]⟩)) (λr=>aq.tup (ag.cons (aq.flat rfl) (ag.cons (aq.flat rfl) (ag.nil)))) λO=>?_;conv=>whnf
 refine gX ?_;refine fz ?_;refine gH ?_;refine fz ?_;refine gH ?_;refine fz ?_;refine gX ?_;refine ca (tW hm O.has) λr1 hm=>?_;refine gH ?_;refine O.new (aj (l:=[(.slice none 0 0),(.slice none 0 0)]) rfl rfl rfl) λg2 h O=>?_;refine gH ?_;refine O.new (aj (l:=[(.slice none 0 0),(.slice none 0 0)]) rfl rfl rfl) λg4 h O=>?_;refine gH ?_;refine O.stC 2 (.tail _ (.head _)) [((ae 1 n8) r1.1.out),((ae 1 n8) r1.1.next)] λh O=>?_;refine gH ?_;refine O.stC 2 (.head _) [((ae 1 n8) r1.2.1.out),((ae 1 n8) r1.2.1.next)] λh O=>?_;refine gX ?_;refine ldA O.i1 ?_;refine gH ?_;refine ldA O.i0 ?_;refine gH ?_;refine ca (tp hm O.has) λr6 hm=>?_;refine gX ?_;exact⟨(r6,r1.2.2.2),hm,O.ext,λh2 F=>VLe.tup (LLe.cons (VLe.refl _ _) (LLe.cons (VLe.refl _ _) (LLe.nil _)))⟩
structure StuckOk (c:Circ) (f:Flt):Prop where
 model:f.model=0
 value:f.value<=1
 other:f.other=0
 node:f.line.node<c.nodes.length
 pin1 : -1<=f.line.pin
 pin2:f.line.pin<LQ (ct c f.line.node).length
theorem A8{c:Circ}(C:Cir c){K:Nat->Prop}(h:K 0):dM c K:=by
 unfold dM;refine B3 C.good ⟨(λq=>absurd rfl (dm.1 q)),λ_=>⟨λq=>?_,λ_=>h⟩⟩;have:=aX.1 q;rw[C.mems] at this;exact absurd this (Mu _)
theorem ID{c:Circ}{l:LnZ}(h1:l.node<c.nodes.length)(h2 : -1<=l.pin)(h3:l.pin<LQ (ct c l.node).length){K:Bool->Prop}(h:K true):gf c l K:=by
 unfold gf;refine⟨λ_=>⟨λ_=>⟨λ_=>?_,λq=>?_⟩,λq=>?_⟩,λq=>?_⟩
 .obtain⟨x,hx⟩:=aA h1;refine⟨x,hx,?_⟩;rw[bk hx] at h3;rw[Du.2 h3];exact h
 .have:ltI l.pin (Mj 0)=true:=by revert q;cases ltI l.pin (Mj 0) <;> simp
  have:l.pin<Mj 0:=Du.1 this;omega
 .have:=bC.1 q;omega
 .have:=yG.1 q;omega
theorem pK{c:Circ}(C:Cir c){f:Flt}(F:StuckOk c f){K:Nat->Prop}(h:K 0):cG c f K:=by
 unfold cG;refine A8 C ⟨(λq=>absurd rfl (dm.1 q)),λ_=>?_⟩;refine cQ (a:=false) (λG=>⟨λq=>?_,λ_=>⟨λq=>?_,λ_=>ID F.node F.pin1 F.pin2 G⟩⟩) ⟨(λq=>by cases q),λ_=>⟨λq=>?_,λ_=>⟨λq=>?_,λ_=>h⟩⟩⟩
 .have:=aX.1 q;have:=F.model;omega
 .have:=aX.1 q;have:=F.value;omega
 .have:=rl.1 q;have:=F.model;omega
 .exact absurd F.other (dm.1 q)
def ntF(f:Flt):Nat->Nat->Nat:=if f.line.pin<0 then jG f.line.node f.value else idN
def pnF(f:Flt):Nat->Nat->Nat->Nat:=if f.line.pin<0 then idP else ij f.line.node f.line.pin f.value
theorem vk{a w:Nat}(h:w<=3):∀i v,v<=3->jG a w i v<=3:=by intro i v hv;unfold jG;split <;> omega
theorem zM{a w:Nat}{pin:Int}(h:w<=3):∀m j v,v<=3->ij a pin w m j v<=3:=by intro m j v hv;unfold ij;split <;> omega
theorem zZ:∀i v,v<=3->idN i v<=3:=λ_ _ h=>h
theorem rj:∀m j v,v<=3->idP m j v<=3:=λ_ _ _ h=>h
theorem C5{f:Flt}(h:f.value<=1):∀i v,v<=3->ntF f i v<=3:=by
 unfold ntF;split
 .exact vk (by omega)
 .exact zZ
theorem CX{f:Flt}(h:f.value<=1):∀m j v,v<=3->pnF f m j v<=3:=by
 unfold pnF;split
 .exact rj
 .exact zM (by omega)
def cn(c:Circ)(p:Pat):List Nat:=sol c p idN idP
def jV(c:Circ)(p:Pat)(f:Flt):List Nat:=sol c p (ntF f) (pnF f)
theorem uZ{c:Circ}(C:Cir c){p:Pat}(hp:PatOk c p){K:Rsp×List Nat×Nat->Prop}(h:K (oj c idP (cn c p),cn c p,0)):dw c p K:=Kw C hp h
theorem Fx{c:Circ}(C:Cir c){p:Pat}(hp:PatOk c p){f:Flt}(F:StuckOk c f)(hneg:f.line.pin<0){K:Rsp×Rsp×List Nat×Nat->Prop}(h:K (oj c idP (cn c p),oj c (pnF f) (jV c p f),jV c p f,0)):gy c f p K:=by
 have hlen:=C.len;have hm0:=F.model;unfold gy;refine pK C F ⟨(λq=>absurd rfl (dm.1 q)),λ_=>⟨λq=>absurd (cJ.1 q) (by omega),λ_=>uZ C hp ⟨(λq=>absurd rfl (dm.1 q)),λ_=>⟨λq=>absurd (cJ.1 q) (by omega),λ_=>⟨λq=>absurd (cJ.1 q) (by omega),λ_=>⟨λ_=>?_,λq=>absurd hneg (Rg.2 (xm.1 q))⟩⟩⟩⟩⟩⟩
 .have en:ntF f=jG f.line.node f.value:=if_pos hneg;have ep:pnF f=idP:=if_pos hneg
  have eW:jV c p f=sol c p (jG f.line.node f.value) idP:=by unfold jV;rw[en,ep]
  refine GU C hp λt o ho T0=>?_;refine aB (λs=>s.2<=o.length/\RunS c p (jG f.line.node f.value) idP o s.1 s.2) (λs=>o.length-s.2) (λt=>t=jV c p f) ?_ ⟨L1 _,T0 _ _⟩ ?_
  .rintro k ⟨t,i⟩ nx ⟨hi,T⟩ hnx hk;dsimp only at hi T
   have hol:o.length=c.nodes.length:=by have:=ho.perm.length_eq;simpa using this
   refine⟨λq=>?_,λq=>hk t ?_⟩
   .have q:i<o.length:=aX.1 q;obtain⟨m,hm⟩:=aA q;have hmn:m<c.nodes.length:=Mx.1 (ho.perm.mem_iff.1 (LS hm));obtain⟨x,hx⟩:=aA hmn;have st:=T.step ho hm hx (vk (by have:=F.value;omega) _ _ (wW hp rj T.le _ _));refine⟨m,hm,Ja C T hm hx (rdA C T.len hx) λt1 e1 e2 e3=>⟨hmn,_,kG e1 hmn,λq2=>⟨hmn,_,kG e1 hmn,by omega,hnx _ ⟨q,?_⟩ (by dsimp only;omega)⟩,λq2=>⟨hmn,_,kG e1 hmn,by omega,hnx _ ⟨q,?_⟩ (by dsimp only;omega)⟩⟩⟩
    .dsimp only;unfold jG at st;rw[if_pos (cJ.1 q2)] at st;rw[e3];exact st
    .dsimp only;unfold jG at st;rw[if_neg (cF.1 q2)] at st;rw[e3,e2];exact st
   .have q:o.length<=i:=bC.1 q
    have e:i=o.length:=by omega
    subst e;rw[eW];exact (T.sol ho).is C hp (vk (by have:=F.value;omega)) rj
  .rintro _ rfl;have S:=nK C hp (C5 F.value) (CX F.value);refine IP C S.len ?_;refine FD C (pn:=idP) rj S.le (λm x hx=>rdA C S.len hx) ?_;refine⟨S.len.symm,?_⟩;rw[ep] at h;exact h
def Con(a b:Nat):Prop:=a<=1/\b<=1/\a≠b
instance (a b:Nat):Decidable (Con a b):=by unfold Con;infer_instance
def pQ(a b:List Nat):List Nat:=(Ma (min a.length b.length)).filter λi=>decide (Con (a.getD i 0) (b.getD i 0))
theorem JJ{p:Nat->Bool}{i:Nat}:(Ma (i+1)).filter p=(Ma i).filter p++(if p i=true then [i] else []):=by
 rw[N6,Ns];congr 1;rw[Pa]
 split <;> rfl
theorem zC{p:Nat->Bool}{i:Nat}:((Ma i).filter p).length<=i:=by
 have:=Nf p (Ma i);rwa [M4] at this
theorem uo{a b:List Nat}(ha:a.length<=1000){K:List Nat->Prop}(h:K (pQ a b)):cR a b K:=by
 unfold cR
 have hmin:min a.length b.length<=1000:=by omega
 refine aB (λs=>s.2<=min a.length b.length/\s.1=(Ma s.2).filter λi=>decide (Con (a.getD i 0) (b.getD i 0))) (λs=>min a.length b.length-s.2) (λr=>r=pQ a b) ?_ ⟨L1 _,rfl⟩ (λ_ e=>e ▸ h);rintro k ⟨l,i⟩ nx ⟨hi,hl⟩ hnx hk;dsimp only at hi hl;refine⟨λq=>?_,λq=>hk _ ?_⟩
 .have q:i<min a.length b.length:=aX.1 q;have ga:=getD_some (l:=a) (i:=i) (by omega);have gb:=getD_some (l:=b) (i:=i) (by omega);have hll:=@zC (λi=>decide (Con (a.getD i 0) (b.getD i 0))) i;rw[<- hl] at hll;refine cQ (a:=if Con (a.getD i 0) (b.getD i 0) then l++[i] else l) (λG=>?_) ⟨by omega,hnx _ ⟨q,?_⟩ (by dsimp only;omega)⟩
  .refine cQ (a:=decide (Con (a.getD i 0) (b.getD i 0))) (λG2=>⟨_,ga,λe1=>⟨_,gb,λe2=>⟨_,ga,_,gb,?_⟩,λe2=>?_⟩,λe1=>?_⟩) ⟨λe=>?_,λe=>?_⟩
   .have e1:=rl.1 e1;have e2:=rl.1 e2
    have:neN (a.getD i 0) (b.getD i 0)=decide (Con (a.getD i 0) (b.getD i 0)):=by
     by_cases q:a.getD i 0=b.getD i 0
     .rw[qS.2 q,decide_eq_false (λw:Con _ _=>w.2.2 q)]
     .rw[dm.2 q,decide_eq_true (show Con _ _ from⟨e1,e2,q⟩)]
    rw[this];exact G2
   .have e2:=yG.1 e2;rw[decide_eq_false (λw:Con _ _=>by have:=w.2.1;omega)] at G2;exact G2
   .have e1:=yG.1 e1;rw[decide_eq_false (λw:Con _ _=>by have:=w.1;omega)] at G2;exact G2
   .rw[if_pos (of_decide_eq_true e)] at G;exact⟨by simp only[L6];omega,G⟩
   .rw[if_neg (of_decide_eq_false e)] at G;exact G
  .dsimp only;rw[JJ,hl];by_cases e:Con (a.getD i 0) (b.getD i 0)
   .rw[if_pos e,if_pos (decide_eq_true e)]
   .rw[if_neg e,if_neg (by simpa using e),MZ]
 .have q:min a.length b.length<=i:=bC.1 q
  have e:i=min a.length b.length:=by omega
  subst e;exact hl
theorem BZ(a b:List Nat):(pQ a b).length<=a.length:=by
 have:=@zC (λi=>decide (Con (a.getD i 0) (b.getD i 0))) (min a.length b.length);unfold pQ;omega
theorem mI{a b:List Nat}{i:Nat}:i∈pQ a b↔i<a.length/\i<b.length/\Con (a.getD i 0) (b.getD i 0):=by
 unfold pQ;rw[Nc,Mx,decide_eq_true_eq,Nat.lt_min,and_assoc]
theorem DT{a b:Rsp}(h1:a.out.length<=1000)(h2:a.next.length<=1000){K:List Nat×List Nat->Prop}(h:K (pQ a.out b.out,pQ a.next b.next)):eU a b K:=by
 unfold eU;exact uo h1 (uo h2 h)
def ry(a b:Rsp):Bool:=ltN 0 ((pQ a.out b.out).length+(pQ a.next b.next).length)
theorem IL{a b:Rsp}(h1:a.out.length<=1000)(h2:a.next.length<=1000){K:Bool->Prop}(h:K (ry a b)):fZ a b K:=by
 unfold fZ;have l1:=BZ a.out b.out;have l2:=BZ a.next b.next;exact DT h1 h2 ⟨by dsimp only;omega,h⟩
def jf(c:Circ)(p:Pat)(f:Flt):Bool:=ry (oj c idP (cn c p)) (oj c (pnF f) (jV c p f))
theorem Ix{c:Circ}(C:Cir c)(pn:Nat->Nat->Nat->Nat)(t:List Nat):(oj c pn t).out.length<=1000/\(oj c pn t).next.length<=1000:=by
 have:=C.good.outsLen;have:=cD c [14];have:=C.len;unfold oj;simp only[LZ];omega
theorem Cb{c:Circ}(C:Cir c){p:Pat}(hp:PatOk c p){f:Flt}(F:StuckOk c f)(hneg:f.line.pin<0){K:Bool×Nat->Prop}(h:K (jf c p f,0)):dY c f p K:=by
 unfold dY;obtain⟨h1,h2⟩:=Ix C idP (cn c p);exact Fx C hp F hneg (IL h1 h2 h)
def dOf(c:Circ)(s:Nat):Nat:=(ct c s).getD 0 0
theorem rM{c:Circ}{pn qn:Nat->Nat->Nat->Nat}{t u:List Nat}:ry (oj c pn t) (oj c qn u)=true↔(∃o∈c.outs,Con (t.getD o 0) (u.getD o 0))\/∃s∈ofN c [14],Con (min (pn s 0 (t.getD (dOf c s) 0)) 2) (min (qn s 0 (u.getD (dOf c s) 0)) 2):=by
 have key:∀(l:List Nat) (f g:Nat->Nat),(pQ (l.map f) (l.map g)).length≠0 ↔ ∃o∈l,Con (f o) (g o):=by
  intro l f g;rw[Ne,O7];constructor
  .intro h;obtain⟨i,hi⟩:=List.exists_mem_of_ne_nil _ h;obtain⟨h1,_,h3⟩:=mI.1 hi;rw[LZ] at h1;refine⟨l[i],Nw h1,?_⟩;simpa[Mh,h1] using h3
  .rintro⟨o,hm,hc⟩ e;obtain⟨i,hi,rfl⟩:=NH hm;have:i∈pQ (l.map f) (l.map g):=mI.2 ⟨by simpa using hi,by simpa using hi,by simpa[Mh,hi] using hc⟩;rw[e] at this
   cases this
 unfold ry oj;dsimp only;rw[aX,<- key,<- key (ofN c [14]) (λs=>min (pn s 0 (t.getD (dOf c s) 0)) 2)];unfold dOf;omega
theorem Af{c:Circ}{p:Pat}{f:Flt}:jf c p f=true↔(∃o∈c.outs,Con ((cn c p).getD o 0) ((jV c p f).getD o 0))\/∃s∈ofN c [14],Con (min ((cn c p).getD (dOf c s) 0) 2) (min (pnF f s 0 ((jV c p f).getD (dOf c s) 0)) 2):=rM
theorem jY(a:Nat):¬ Con a a:=λh=>h.2.2 rfl
def bG(v:List Wd)(i:Nat):List Nat:=v.map (aD · i)
theorem na(v:List Wd)(i:Nat):(bG v i).length=v.length:=by simp[bG]
theorem gM{v:List Wd}{i k:Nat}{w:Wd}(h:v[k]?=some w):(bG v i).getD k 0=aD w i:=by
 rw[Mh,bG,L7,h];rfl
theorem Em(v:List Wd)(i k:Nat)(w:Wd):bG (v.set k w) i=(bG v i).set k (aD w i):=by
 unfold bG;rw[Qy]
theorem Hz(v:List Wd)(i k:Nat):(bG v i).getD k 0<=3:=by
 rw[Mh,bG,L7]
 cases v[k]? with
 |none=>exact L1 _
 |some w=>exact oY w i
theorem Ak{n:Nat}{ixs:List Nat}{A v0:List Wd}{K:List Wd->Prop}(_hn:n<=16)(_hix:ixs.length<=n)(nd:ixs.Nodup)(hl:A.length=ixs.length)(_hb:∀f∈ixs,f<n)(hv0:v0.length=n)
  (h:∀v:List Wd,v.length=n->(∀(q f:Nat),ixs[q]?=some f->v[f]?=A[q]?)->(∀(f:Nat),f ∉ ixs->v[f]?=v0[f]?)->K v) {body:(List Wd->Prop)->List Wd×Nat->(List Wd×Nat->Prop)->Prop}
  (step:∀(k:List Wd->Prop) (v:List Wd) (i:Nat) (nx:List Wd×Nat->Prop),v.length=n->(∀(f:Nat) (w:Wd),i<ixs.length->ixs[i]?=some f->A[i]?=some w->f<n->nx (v.set f w,i+1))->(ixs.length<=i->k v)->body k (v,i) nx):aw (λk=>aF (λs nx=>body k s nx) (v0,0)) K:=by
 refine aB (λs=>s.2<=ixs.length/\s.1.length=n/\(∀(q f:Nat),q<s.2->ixs[q]?=some f->s.1[f]?=A[q]?)/\∀(f:Nat),f ∉ ixs.take s.2->s.1[f]?=v0[f]?) (λs=>ixs.length-s.2) (λ(v:List Wd)=>v.length=n/\(∀(q f:Nat),ixs[q]?=some f->v[f]?=A[q]?)/\∀(f:Nat),f ∉ ixs->v[f]?=v0[f]?) ?_ ⟨L1 _,hv0,λq f hq=>absurd hq (Mu _),λf _=>rfl⟩ λv hv=>h v hv.1 hv.2.1 hv.2.2;rintro k ⟨v,i⟩ nx ⟨hi,hvl,h1,h2⟩ hnx hk;dsimp only at hi hvl h1 h2;refine step k v i nx hvl (λf w hlt hf hw hfn=>hnx _ ⟨hlt,by simp[hvl],λq g hq hg=>?_,λg hg=>?_⟩ (by dsimp only;omega)) λhge=>hk _ ⟨hvl,λq f hf=>h1 q f (by have:=ai hf;omega) hf,λf hf=>h2 f λm=>hf (OR m)⟩
 .dsimp only at hq ⊢;rw[Mp];by_cases e:f=g
  .subst e
   have e2:q=i:=by
    have a1:=zN nd hf;have a2:=zN nd hg;omega
   subst e2;rw[if_pos rfl,if_pos (by omega),hw]
  .rw[if_neg e];refine h1 q g ?_ hg;by_cases e2:q=i
   .subst e2;rw[hf] at hg;cases hg;exact absurd rfl e
   .omega
 .dsimp only at hg ⊢
  have e:f≠g:=by
   rintro rfl;refine hg ?_;rw[NA,hf];simp
  rw[Mp,if_neg e];refine h2 g λm=>hg ?_;rw[NA];exact MA _ m
theorem xK{v:List Wd}{f n:Nat}(hv:v.length=n)(hf:f<n):∃w,v[f]?=some w:=aA (by omega)
theorem vT{k:Nat}(h:k<=14):cw k=decide (k≠0/\k≠14):=by
 unfold cw;rw[decide_eq_decide];omega
structure EngOkA (c:Circ) (x:EngA) (m:Nat) (nt:Nat->Nat->Nat->Nat) (pn:Nat->Nat->Nat->Nat->Nat):Prop where
 circ:x.circ=c
 order:OrdOk c x.order
 ins:x.ins=ofN c [0]
 state:x.state=ofN c [14]
 few:m<=64
 net:∀i,i<m->∀n w,aD (x.net.F n w) i=nt i n (aD w i)
 pin:∀i,i<m->∀n j w,aD (x.pin.F n j w) i=pn i n j (aD w i)
def qw(x:EngA)(v:List Wd)(m:Nat)(ins:List Nat):List Wd:=ins.mapIdx λj k=>x.pin.F m j (v.getD k ⟨0,0⟩)
theorem nz{x:EngA}{v:List Wd}{m:Nat}{ins:List Nat}:(qw x v m ins).length=ins.length:=by simp[qw]
theorem wR{x:EngA}{v:List Wd}{m j k:Nat}{w:Wd}{ins:List Nat}(hj:ins[j]?=some k)(hw:v[k]?=some w):(qw x v m ins)[j]?=some (x.pin.F m j w):=by
 unfold qw;rw[Nz,hj]
 show some (x.pin.F m j (v.getD k ⟨0,0⟩))=_
 rw[Of,hw];rfl
theorem B1{c:Circ}{x:EngA}{M:Nat}{nt:Nat->Nat->Nat->Nat}{pn:Nat->Nat->Nat->Nat->Nat}(E:EngOkA c x M nt pn){v:List Wd}{m i:Nat}(hi:i<M){y:Node}(hv:∀k∈y.ins,k<v.length):(qw x v m y.ins).map (aD · i)=cO (pn i) (bG v i) m y:=by
 apply MH;intro j;rw[L7]
 cases hj:y.ins[j]? with
 |none =>
  have:=PA.1 hj;rw[Mk (by rw[nz];exact this),Mk (by rw[lf];exact this)];rfl
 |some k =>
  obtain⟨w,hw⟩:=aA (hv k (LS hj));rw[wR hj hw,pI hj,gM hw]
  show some (aD (x.pin.F m j w) i)=_
  rw[E.pin i hi]
theorem DS{c:Circ}(C:Cir c){x:EngA}{M:Nat}{nt:Nat->Nat->Nat->Nat}{pn:Nat->Nat->Nat->Nat->Nat}(E:EngOkA c x M nt pn){p:Nat->Pat}(hp:∀i,i<M->PatOk c (p i)){A B:List Wd}(hA:A.length=(ofN c [0]).length)(hB:B.length=(ofN c [14]).length)
  (hAl:∀i,i<M->∀(q:Nat) (w:Wd),A[q]?=some w->aD w i=(p i).inp.getD q 0) (hBl:∀i,i<M->∀(q:Nat) (w:Wd),B[q]?=some w->aD w i=(p i).state.getD q 0) {K:List Wd×List Wd->Prop}
  (h:∀nets seen:List Wd,nets.length=c.nodes.length->(∀i,i<M->Sol c (p i) (nt i) (pn i) (bG nets i)) ->
   seen.length=c.outs.length+(ofN c [14]).length ->
   (∀i,i<M->bG seen i=(c.outs.map λo=>(bG nets i).getD o 0)++(ofN c [14]).map λs=>pn i s 0 ((bG nets i).getD (dOf c s) 0))->K (nets,seen)):jd x A B K:=by
 have hlen:=C.len;have e1:=E.circ;have e3:=E.ins;have e4:=E.state;have ho:=E.order
 have hol:x.order.length=c.nodes.length:=by
  have:=ho.perm.length_eq;rwa [M4] at this
 unfold jd;rw[e1,e3,e4];refine⟨by omega,by omega,?_⟩;refine Ak (n:=c.nodes.length) (ixs:=ofN c [0]) (A:=A) hlen (cD c _) (iQ c _) hA (λf hf=>(bK.1 hf).1) (by simp) (λv1 l1 a1 b1=>?_) (λk v i nx hv g1 g2=>⟨λq=>?_,λq=>g2 (bC.1 q)⟩);rotate_left
 .have q:i<(ofN c [0]).length:=aX.1 q;have:=cD c [0];obtain⟨f,hf⟩:=aA q;obtain⟨w,hw⟩:=aA (show i<A.length by omega);have hfn:=(bK.1 (LS hf)).1;obtain⟨u,hu⟩:=xK hv hfn;exact⟨f,hf,w,hw,hfn,u,hu,by omega,g1 f w q hf hw hfn⟩
 refine Ak (n:=c.nodes.length) (ixs:=ofN c [14]) (A:=B) hlen (cD c _) (iQ c _) hB (λf hf=>(bK.1 hf).1) l1 (λv2 l2 a2 b2=>?_) (λk v i nx hv g1 g2=>⟨λq=>?_,λq=>g2 (bC.1 q)⟩);rotate_left
 .have q:i<(ofN c [14]).length:=aX.1 q;have:=cD c [14];obtain⟨f,hf⟩:=aA q;obtain⟨w,hw⟩:=aA (show i<B.length by omega);have hfn:=(bK.1 (LS hf)).1;obtain⟨u,hu⟩:=xK hv hfn;exact⟨f,hf,w,hw,hfn,u,hu,by omega,g1 f w q hf hw hfn⟩
 have base:∀i,i<M->RunS c (p i) (nt i) (pn i) x.order (bG v2 i) 0:=by
  intro i hi;refine⟨by rw[na,l2],λj _ _ hj=>absurd hj (Mu _),λj m y _ _ hy hc=>?_,Hz v2 i⟩;refine (Ai C (hp i hi) (t1:=bG v1 i) (t2:=bG v2 i) (by rw[na,l2]) (λj f hf=>?_) (λj f hf=>?_) (λf hf=>?_) m y hy hc).1
  .obtain⟨w,hw⟩:=aA (show j<A.length by have:=ai hf;omega);rw[gM ((a1 j f hf).trans hw),hAl i hi j w hw]
  .obtain⟨w,hw⟩:=aA (show j<B.length by have:=ai hf;omega);rw[gM ((a2 j f hf).trans hw),hBl i hi j w hw]
  .unfold bG;rw[Mh,Mh,L7,L7,b2 f hf]
 refine aB (λs=>s.2<=x.order.length/\s.1.length=c.nodes.length/\∀i,i<M->RunS c (p i) (nt i) (pn i) x.order (bG s.1 i) s.2) (λs=>x.order.length-s.2) (λv=>v.length=c.nodes.length/\∀i,i<M->Sol c (p i) (nt i) (pn i) (bG v i)) ?_ ⟨L1 _,l2,base⟩ ?_
 .rintro k ⟨v,j⟩ nx ⟨hj,hvl,T⟩ hnx hk;dsimp only at hj hvl T;refine⟨λq=>?_,λq=>hk _ ⟨hvl,λi hi=>?_⟩⟩;rotate_left
  .have q:x.order.length<=j:=bC.1 q
   have e:j=x.order.length:=by omega
   subst e;exact (T i hi).sol ho
  have q:j<x.order.length:=aX.1 q;obtain⟨m,hm⟩:=aA q;have hml:m<c.nodes.length:=Mx.1 (ho.perm.mem_iff.1 (LS hm));obtain⟨y,hy⟩:=aA hml;have g:=C.good.node m y hy;have hfew:=g.few;have hk14:=C.kinds m y hy;refine⟨m,hm,fK (λu:List Wd=>u.length=c.nodes.length/\(∀i,i<M->(bG u i).getD m 0=dD c (p i) (pn i) (bG v i) m y)/\∀f,f≠m->u[f]?=v[f]?) (λk2 hk2=>⟨y,hy,?_⟩) ?_⟩
  .refine fK (λb=>b=cw y.kind) (λk3 hk3=>⟨λq0=>hk3 _ ?_,λq0=>hk3 _ ?_⟩) λb hb=>⟨λq1=>?_,λq1=>?_⟩
   .have q0:=dm.1 q0;rw[vT hk14,MW,dm];simp[q0]
   .have q0:=qS.1 q0;rw[vT hk14];simp[q0]
   .have hc:cw y.kind=true:=by rw[<- hb,q1]
    have hc2:=of_decide_eq_true hc;refine fK (λl=>l=qw x v m y.ins) (λk3 hk3=>⟨y,hy,?_⟩) ?_
    .refine bM (λs=>s.2<=y.ins.length/\s.1=(qw x v m y.ins).take s.2) (λs=>y.ins.length-s.2) ?_ ⟨L1 _,rfl⟩;rintro⟨l,j2⟩ nx2 ⟨hj2,hl2⟩ hnx2;dsimp only at hj2 hl2;refine⟨λq2=>?_,λq2=>hk3 _ ?_⟩
     .have q2:j2<y.ins.length:=aX.1 q2;obtain⟨f,hf⟩:=aA q2;have hfn:=g.ins f (LS hf);obtain⟨w,hw⟩:=xK hvl hfn;refine⟨f,hf,hfn,w,hw,?_,by omega,hnx2 _ ⟨q2,?_⟩ (by dsimp only;omega)⟩
      .rw[hl2,L8,L6];omega
      .dsimp only;rw[hl2,NA,wR hf hw];rfl
     .have q2:y.ins.length<=j2:=bC.1 q2;rw[hl2,Mc (by rw[nz];exact q2)]
    .rintro l rfl;refine Gn hc2.1 (by have:=g.plain;have:=hc2.2;omega) (by rw[nz];exact g.arity) (by rw[nz];omega) λr hr=>?_;obtain⟨w,hw⟩:=xK hvl hml;refine⟨hml,w,hw,hk2 _ ⟨by simp[hvl],λi hi=>?_,λf hf=>by rw[Mp,if_neg (NU hf)]⟩⟩
     have:(v.set m r)[m]?=some r:=by rw[Mp,if_pos rfl,if_pos (by omega)]
     have h64:=E.few;rw[gM this,hr i (by omega),B1 E hi (λk m=>by rw[hvl];exact g.ins k m)];unfold dD;rw[if_pos hc]
   .have hc:cw y.kind=false:=by rw[<- hb,q1]
    refine hk2 _ ⟨hvl,λi hi=>?_,λf _=>rfl⟩;rw[(T i hi).todo j m y (LV _) hm hy hc];unfold dD;rw[if_neg (by rw[hc];decide)]
  .rintro u ⟨hul,hub,hue⟩;obtain⟨w,hw⟩:=xK hul hml;refine⟨hml,w,hw,hml,w,hw,by omega,hnx (u.set m (x.net.F m w),j+1) ⟨q,by simp[hul],λi hi=>?_⟩ (by dsimp only;omega)⟩;dsimp only
   have hwl:aD w i=dD c (p i) (pn i) (bG v i) m y:=by rw[<- gM hw];exact hub i hi
   have hle:nt i m (dD c (p i) (pn i) (bG v i) m y)<=3:=by rw[<- hwl,<- E.net i hi];exact oY _ _
   have S:=(T i hi).step ho hm hy hle
   have e:bG (u.set m (x.net.F m w)) i=(bG v i).set m (nt i m (dD c (p i) (pn i) (bG v i) m y)):=by
    rw[Em,E.net i hi,hwl];apply MH;intro f;rw[Mp,Mp,na,na,hul,hvl];by_cases ef:m=f
    .rw[if_pos ef,if_pos ef]
    .rw[if_neg ef,if_neg ef];unfold bG;rw[L7,L7,hue f (NU ef)]
   rw[e];exact S
 .rintro v ⟨hvl,hS⟩;have hoo:=C.good.outsLen;refine aB (λs=>s.2<=c.outs.length/\s.1=(c.outs.map λo=>v.getD o ⟨0,0⟩).take s.2) (λs=>c.outs.length-s.2) (λl=>l=c.outs.map λo=>v.getD o ⟨0,0⟩) ?_ ⟨L1 _,rfl⟩ ?_
  .rintro k ⟨l,j⟩ nx ⟨hj,hl⟩ hnx hk;dsimp only at hj hl;refine⟨λq=>?_,λq=>hk _ ?_⟩
   .have q:j<c.outs.length:=aX.1 q;obtain⟨o,ho2⟩:=aA q;have hon:=C.good.outs o (LS ho2);obtain⟨w,hw⟩:=xK hvl hon;refine⟨o,ho2,hon,w,hw,?_,by omega,hnx _ ⟨q,?_⟩ (by dsimp only;omega)⟩
    .rw[hl,L8,L6];omega
    .dsimp only;rw[hl,NA,L7,ho2]
     show _=_++[v.getD o ⟨0,0⟩]
     rw[Of,hw];rfl
   .have q:c.outs.length<=j:=bC.1 q;rw[hl,Mc (by rw[LZ];exact q)]
  .rintro l rfl;have hst:=cD c [14]
   have hg:∀s,s∈ofN c [14]->∃y d w,c.nodes[s]?=some y/\y.ins=[d]/\dOf c s=d/\v[d]?=some w:=by
    intro s hs;obtain⟨h1,h2⟩:=bK.1 hs;obtain⟨y,hy⟩:=aA h1;have g:=C.good.node s y hy;have hk:=dk hy;have ha:y.ins.length=1:=pJ (by have:=g.arity;rwa [<- hk,h2] at this);obtain⟨d,hd⟩:=P5.1 ha;obtain⟨w,hw⟩:=xK hvl (g.ins d (by rw[hd];exact .head _));refine⟨y,d,w,hy,hd,?_,hw⟩;unfold dOf;rw[sS hy,hd];rfl
   refine aB (λs=>s.2<=(ofN c [14]).length/\s.1=(c.outs.map λo=>v.getD o ⟨0,0⟩)++((ofN c [14]).map λs=>x.pin.F s 0 (v.getD (dOf c s) ⟨0,0⟩)).take s.2) (λs=>(ofN c [14]).length-s.2) (λl=>l=(c.outs.map λo=>v.getD o ⟨0,0⟩)++(ofN c [14]).map λs=>x.pin.F s 0 (v.getD (dOf c s) ⟨0,0⟩)) ?_ ⟨L1 _,by simp⟩ ?_
   .rintro k ⟨l,j⟩ nx ⟨hj,hl⟩ hnx hk;dsimp only at hj hl;refine⟨λq=>?_,λq=>hk _ ?_⟩
    .have q:j<(ofN c [14]).length:=aX.1 q;obtain⟨s,hs⟩:=aA q;obtain⟨y,d,w,hy,hd,hdo,hw⟩:=hg s (LS hs)
     have hdn:d<c.nodes.length:=by have:=ai hw;omega
     refine⟨s,hs,fK (λl2=>l2=[x.pin.F s 0 w]) (λk3 hk3=>⟨y,hy,?_⟩) ?_⟩
     .rw[hd];refine bM (λs2=>s2.2<=1/\s2.1=([x.pin.F s 0 w]:List Wd).take s2.2) (λs2=>1-s2.2) ?_ ⟨L1 _,rfl⟩;rintro⟨l2,j2⟩ nx2 ⟨hj2,hl2⟩ hnx2;dsimp only at hj2 hl2;refine⟨λq2=>?_,λq2=>hk3 _ ?_⟩
      .have q2:j2<1:=aX.1 q2
       obtain rfl:j2=0:=by omega
       refine⟨d,rfl,hdn,w,hw,?_,by decide,hnx2 _ ⟨LV _,?_⟩ (by dsimp only;omega)⟩
       .rw[hl2];exact (by decide:(0+1)*16<=2^47)
       .dsimp only;rw[hl2];rfl
      .have q2:1<=j2:=bC.1 q2
       obtain rfl:j2=1:=by omega
       rw[hl2];rfl
     .rintro l2 rfl;refine⟨_,rfl,?_,by omega,hnx _ ⟨q,?_⟩ (by dsimp only;omega)⟩
      .rw[hl,Ml,L8,LZ,L6];omega
      .dsimp only;rw[hl,NA,L7,hs,MC]
       show _=_++(_++[x.pin.F s 0 (v.getD (dOf c s) ⟨0,0⟩)])
       rw[hdo,Of,hw];rfl
    .have q:(ofN c [14]).length<=j:=bC.1 q;rw[hl,Mc (by rw[LZ];exact q)]
   .rintro l rfl;refine⟨hvl.symm,h v _ hvl hS (by simp) λi hi=>?_⟩;unfold bG;rw[MT,NT,NT];congr 1
    .refine Og λo m=>?_;obtain⟨w,hw⟩:=xK hvl (C.good.outs o m)
     show aD (v.getD o ⟨0,0⟩) i=(bG v i).getD o 0
     rw[gM hw,Of,hw];rfl
    .refine Og λs m=>?_;obtain⟨y,d,w,hy,hd,hdo,hw⟩:=hg s m
     show aD (x.pin.F s 0 (v.getD (dOf c s) ⟨0,0⟩)) i=pn i s 0 ((bG v i).getD (dOf c s) 0)
     rw[E.pin i hi,hdo,gM hw,Of,hw];rfl
abbrev A5(c:Circ)(x:Eng)(m:Nat)(nt:Nat->Nat->Nat->Nat)(pn:Nat->Nat->Nat->Nat->Nat):Prop:=EngOkA c x.toA m nt pn
theorem zX{c:Circ}(C:Cir c){x:Eng}{M:Nat}{nt:Nat->Nat->Nat->Nat}{pn:Nat->Nat->Nat->Nat->Nat}(E:A5 c x M nt pn){p:Nat->Pat}(hp:∀i,i<M->PatOk c (p i)){A B:List Wd}(hA:A.length=(ofN c [0]).length)(hB:B.length=(ofN c [14]).length)
 (hAl:∀i,i<M->∀(q:Nat) (w:Wd),A[q]?=some w->aD w i=(p i).inp.getD q 0) (hBl:∀i,i<M->∀(q:Nat) (w:Wd),B[q]?=some w->aD w i=(p i).state.getD q 0) {K:List Wd×List Wd->Prop}
 (h:∀nets seen:List Wd,nets.length=c.nodes.length->(∀i,i<M->Sol c (p i) (nt i) (pn i) (bG nets i)) ->
  seen.length=c.outs.length+(ofN c [14]).length ->
  (∀i,i<M->bG seen i=(c.outs.map λo=>(bG nets i).getD o 0)++(ofN c [14]).map λs=>pn i s 0 ((bG nets i).getD (dOf c s) 0))->K (nets,seen)):bh x A B K:=DS C E hp hA hB hAl hBl h
theorem vE{w:Wd}{lane v:Nat}{K:Wd->Prop}(hl:lane<64)(hv:v<=3)(h:∀r:Wd,(∀i,i<64->aD r i=if i=lane then v else aD w i)->K r):cU w lane v K:=by
 refine⟨by omega,hv,h _ λi hi=>?_⟩;have hf:=hU hv hi;unfold aD at hf ⊢;rw[jz hi,jz hi,gB hi,gB hi,dz hi,dz hi,E9 hi];by_cases e:i=lane
 .rw[decide_eq_true e,if_pos e];simpa using hf
 .rw[decide_eq_false e,if_neg e];simp
theorem Bw{l:List Pat}{n:Nat}{K:List Wd->Prop}(hn:n<=16)(hl:l.length<=64)(hp:∀p∈l,p.inp.length=n/\∀v∈p.inp,v<=3)(h:∀v:List Wd,v.length=n->(∀(i q:Nat) (p:Pat) (w:Wd),l[i]?=some p->v[q]?=some w->aD w i=p.inp.getD q 0)->K v):gY l n K:=by
 refine⟨by omega,by omega,?_⟩;refine aB (λs=>s.2<=n/\s.1.length=n/\∀(i q:Nat) (p:Pat) (w:Wd),q<s.2->l[i]?=some p->s.1[q]?=some w->aD w i=p.inp.getD q 0) (λs=>n-s.2) (λv=>v.length=n/\∀(i q:Nat) (p:Pat) (w:Wd),l[i]?=some p->v[q]?=some w->aD w i=p.inp.getD q 0) ?_ ⟨L1 _,by simp,λi q p w hq=>absurd hq (Mu _)⟩ λv hv=>⟨hv.1.symm,h v hv.1 hv.2⟩;rintro k ⟨v,q⟩ nx ⟨hq,hvl,hI⟩ hnx hk;dsimp only at hq hvl hI;refine⟨λc=>?_,λc=>hk _ ⟨hvl,λi q' p w h1 h2=>hI i q' p w (by have:=ai h2;have:=bC.1 c;omega) h1 h2⟩⟩;have c:q<n:=aX.1 c;refine aB (λs=>s.2<=l.length/\s.1.length=n/\(∀f,f≠q->s.1[f]?=v[f]?)/\∀(i:Nat) (p:Pat) (w:Wd),i<s.2->l[i]?=some p->s.1[q]?=some w->aD w i=p.inp.getD q 0) (λs=>l.length-s.2) (λu=>u.length=n/\(∀f,f≠q->u[f]?=v[f]?)/\∀(i:Nat) (p:Pat) (w:Wd),l[i]?=some p->u[q]?=some w->aD w i=p.inp.getD q 0) ?_ ⟨L1 _,hvl,λf _=>rfl,λi p w hi=>absurd hi (Mu _)⟩ ?_
 .rintro k2 ⟨u,i⟩ nx2 ⟨hi,hul,hue,hu⟩ hnx2 hk2;dsimp only at hi hul hue hu;refine⟨λc2=>?_,λc2=>hk2 _ ⟨hul,hue,λi' p w h1 h2=>hu i' p w (by have:=ai h1;have:=bC.1 c2;omega) h1 h2⟩⟩;have c2:i<l.length:=aX.1 c2;obtain⟨p,hpi⟩:=aA c2;obtain⟨hpl,hpv⟩:=hp p (LS hpi);obtain⟨x,hx⟩:=aA (show q<p.inp.length by omega);obtain⟨w,hw⟩:=xK hul c;refine⟨p,hpi,c,w,hw,x,hx,vE (by omega) (hpv x (LS hx)) λr hr=>⟨c,w,hw,by omega,hnx2 _ ⟨c2,by simp[hul],λf hf=>by rw[Mp,if_neg (NU hf)];exact hue f hf,λi' p' w' h1 h2 h3=>?_⟩ (by dsimp only;omega)⟩⟩;dsimp only at h1 h3;rw[Mp,if_pos rfl,if_pos (by omega)] at h3
  cases h3
  rw[hr i' (by omega)];by_cases e:i'=i
  .subst e;rw[hpi] at h2;cases h2;rw[if_pos rfl,Mh,hx];rfl
  .rw[if_neg e];exact hu i' p' w (by omega) h2 hw
 .rintro u ⟨hul,hue,hu⟩;refine⟨by omega,hnx _ ⟨c,hul,λi q' p w h1 h2 h3=>?_⟩ (by dsimp only;omega)⟩;dsimp only at h1 h3;by_cases e:q'=q
  .subst e;exact hu i p w h2 h3
  .exact hI i q' p w (by omega) h2 ((hue q' e).symm.trans h3)
theorem Al{l:List Pat}{n:Nat}{K:List Wd->Prop}(hn:n<=16)(hl:l.length<=64)(hp:∀p∈l,p.state.length=n/\∀v∈p.state,v<=3)(h:∀v:List Wd,v.length=n->(∀(i q:Nat) (p:Pat) (w:Wd),l[i]?=some p->v[q]?=some w->aD w i=p.state.getD q 0)->K v):gZ l n K:=by
 refine⟨by omega,by omega,?_⟩;refine aB (λs=>s.2<=n/\s.1.length=n/\∀(i q:Nat) (p:Pat) (w:Wd),q<s.2->l[i]?=some p->s.1[q]?=some w->aD w i=p.state.getD q 0) (λs=>n-s.2) (λv=>v.length=n/\∀(i q:Nat) (p:Pat) (w:Wd),l[i]?=some p->v[q]?=some w->aD w i=p.state.getD q 0) ?_ ⟨L1 _,by simp,λi q p w hq=>absurd hq (Mu _)⟩ λv hv=>⟨hv.1.symm,h v hv.1 hv.2⟩;rintro k ⟨v,q⟩ nx ⟨hq,hvl,hI⟩ hnx hk;dsimp only at hq hvl hI;refine⟨λc=>?_,λc=>hk _ ⟨hvl,λi q' p w h1 h2=>hI i q' p w (by have:=ai h2;have:=bC.1 c;omega) h1 h2⟩⟩;have c:q<n:=aX.1 c;refine aB (λs=>s.2<=l.length/\s.1.length=n/\(∀f,f≠q->s.1[f]?=v[f]?)/\∀(i:Nat) (p:Pat) (w:Wd),i<s.2->l[i]?=some p->s.1[q]?=some w->aD w i=p.state.getD q 0) (λs=>l.length-s.2) (λu=>u.length=n/\(∀f,f≠q->u[f]?=v[f]?)/\∀(i:Nat) (p:Pat) (w:Wd),l[i]?=some p->u[q]?=some w->aD w i=p.state.getD q 0) ?_ ⟨L1 _,hvl,λf _=>rfl,λi p w hi=>absurd hi (Mu _)⟩ ?_
 .rintro k2 ⟨u,i⟩ nx2 ⟨hi,hul,hue,hu⟩ hnx2 hk2;dsimp only at hi hul hue hu;refine⟨λc2=>?_,λc2=>hk2 _ ⟨hul,hue,λi' p w h1 h2=>hu i' p w (by have:=ai h1;have:=bC.1 c2;omega) h1 h2⟩⟩;have c2:i<l.length:=aX.1 c2;obtain⟨p,hpi⟩:=aA c2;obtain⟨hpl,hpv⟩:=hp p (LS hpi);obtain⟨x,hx⟩:=aA (show q<p.state.length by omega);obtain⟨w,hw⟩:=xK hul c;refine⟨p,hpi,c,w,hw,x,hx,vE (by omega) (hpv x (LS hx)) λr hr=>⟨c,w,hw,by omega,hnx2 _ ⟨c2,by simp[hul],λf hf=>by rw[Mp,if_neg (NU hf)];exact hue f hf,λi' p' w' h1 h2 h3=>?_⟩ (by dsimp only;omega)⟩⟩;dsimp only at h1 h3;rw[Mp,if_pos rfl,if_pos (by omega)] at h3
  cases h3
  rw[hr i' (by omega)];by_cases e:i'=i
  .subst e;rw[hpi] at h2;cases h2;rw[if_pos rfl,Mh,hx];rfl
  .rw[if_neg e];exact hu i' p' w (by omega) h2 hw
 .rintro u ⟨hul,hue,hu⟩;refine⟨by omega,hnx _ ⟨c,hul,λi q' p w h1 h2 h3=>?_⟩ (by dsimp only;omega)⟩;dsimp only at h1 h3;by_cases e:q'=q
  .subst e;exact hu i p w h2 h3
  .exact hI i q' p w (by omega) h2 ((hue q' e).symm.trans h3)
def Cl(a b:List Nat):Bool:=(Ma a.length).any λq=>decide (Con (a.getD q 0) (b.getD q 0))
theorem Gz{x y:Wd}{i:Nat}(hi:i<64) :
  (dK (bF (aK (bF x.one x.zero) y.zero) y.one) (bF (aK (bF x.zero x.one) y.one) y.zero)).testBit i=decide (Con (aD x i) (aD y i)):=by
 rw[jz hi,gB hi,gB hi,dz hi,dz hi,gB hi,gB hi];unfold aD Con
 cases x.one.testBit i <;> cases x.zero.testBit i <;> cases y.one.testBit i <;> cases y.zero.testBit i <;> rfl
theorem rC{a b:List Wd}{K:Nat->Prop}(hl:a.length=b.length)(ha:a.length<2^60)(h:∀r:Nat,(∀i,i<64->r.testBit i=Cl (bG a i) (bG b i))->K r):bP a b K:=by
 refine aB (λs=>s.2<=a.length/\∀i,i<64->s.1.testBit i=(Ma s.2).any λq=>decide (Con ((bG a i).getD q 0) ((bG b i).getD q 0))) (λs=>a.length-s.2) (λr=>∀i,i<64->r.testBit i=Cl (bG a i) (bG b i)) ?_ ⟨L1 _,λi _=>Nat.zero_testBit i⟩ λr hr=>h r hr;rintro k ⟨r,j⟩ nx ⟨hj,hI⟩ hnx hk;dsimp only at hj hI;refine⟨λq=>?_,λq=>hk _ λi hi=>?_⟩
 .have q:j<a.length:=aX.1 q;obtain⟨x,hx⟩:=aA q;obtain⟨y,hy⟩:=aA (show j<b.length by omega);refine⟨x,hx,y,hy,by omega,hnx _ ⟨q,λi hi=>?_⟩ (by dsimp only;omega)⟩;dsimp only;rw[jz hi,hI i hi,Gz hi,N6,Rk,gM hx |>.symm,gM hy |>.symm];simp
 .have q:a.length<=j:=bC.1 q
  obtain rfl:j=a.length:=by omega
  rw[hI i hi];unfold Cl;rw[na]
theorem AG{c:Circ}{o:List Nat}(ho:OrdOk c o){M:Nat}(hM:M<=64):A5 c ⟨c,o,ofN c [0],ofN c [14],G3,G7⟩ M (λ_=>idN) (λ_=>idP) :=
 ⟨rfl,ho,rfl,rfl,hM,λ_ _ _ _=>rfl,λ_ _ _ _ _=>rfl⟩
theorem Iy{c:Circ}{o:List Nat}(ho:OrdOk c o){M:Nat}(hM:M<=64){f:Flt}(F:StuckOk c f)(hp:¬ f.line.pin<0):A5 c ⟨c,o,ofN c [0],ofN c [14],G3,Jx f (ja f.value)⟩ M (λ_=>ntF f) (λ_=>pnF f):=by
 refine⟨rfl,ho,rfl,rfl,hM,λi _ n w=>?_,λi hi n j w=>?_⟩
 .unfold ntF;rw[if_neg hp];rfl
 .unfold pnF;rw[if_neg hp]
  show aD (F5 f (ja f.value) n j w) i=ij f.line.node f.line.pin f.value n j (aD w i)
  unfold F5 ij;by_cases e:n=f.line.node/\LQ j=f.line.pin
  .rw[if_pos e,if_pos e];exact hU (by have:=F.value;omega) (by omega)
  .rw[if_neg e,if_neg e]
theorem Ic{c:Circ}{o:List Nat}(ho:OrdOk c o){M:Nat}(hM:M<=64){f:Flt}(F:StuckOk c f)(hp:f.line.pin<0):A5 c ⟨c,o,ofN c [0],ofN c [14],Jt f (ja f.value),G7⟩ M (λ_=>ntF f) (λ_=>pnF f):=by
 refine⟨rfl,ho,rfl,rfl,hM,λi hi n w=>?_,λi _ n j w=>?_⟩
 .unfold ntF;rw[if_pos hp]
  show aD (FU f (ja f.value) n w) i=jG f.line.node f.value n (aD w i)
  unfold FU jG;have hm:=F.model;by_cases e:n=f.line.node
  .rw[if_pos (.inl e),if_pos e];exact hU (by have:=F.value;omega) (by omega)
  .rw[if_neg e,if_neg];rintro (q|q)
   .exact e q
   .omega
 .unfold pnF;rw[if_pos hp];rfl
theorem HA{c:Circ}{o:List Nat}(ho:OrdOk c o){M:Nat}(hM:M<=64){f:Flt}(F:StuckOk c f){good:List Wd}{K:Eng->Prop}(h:∀x:Eng,A5 c x M (λ_=>ntF f) (λ_=>pnF f)->K x):bH ⟨c,o,ofN c [0],ofN c [14],G3,G7⟩ f good K:=by
 refine⟨by have:=F.value;omega,fK (λ_=>True) (λk hk=>⟨λq=>absurd F.model (dm.1 q),λ_=>hk _ trivial⟩) λ_ _=>⟨λq=>?_,λq=>?_⟩⟩
 .refine h _ (Iy ho hM F ?_)
  have:ltI f.line.pin (LQ 0)=false:=by revert q;cases ltI f.line.pin (LQ 0) <;> simp
  have:=xm.1 this;simp only[L4] at this;omega
 .refine h _ (Ic ho hM F ?_)
  have:ltI f.line.pin (LQ 0)=true:=by revert q;cases ltI f.line.pin (LQ 0) <;> simp
  have:=Du.1 this;simp only[L4] at this;omega
theorem Ds{a b:Nat}:Con (min a 2) (min b 2)↔Con a b:=by unfold Con;omega
theorem GA{a b:List Nat}:Cl a b=true ↔ ∃q,q<a.length/\Con (a.getD q 0) (b.getD q 0):=by
 unfold Cl;rw[O9];constructor
 .rintro⟨q,hq,hc⟩;exact⟨q,Mx.1 hq,of_decide_eq_true hc⟩
 .rintro⟨q,hq,hc⟩;exact⟨q,Mx.2 hq,decide_eq_true hc⟩
theorem DV{a b:Rsp}:ry a b=true↔(∃q,q∈pQ a.out b.out)\/∃q,q∈pQ a.next b.next:=by
 unfold ry;rw[aX];constructor
 .intro h;by_cases c:0<(pQ a.out b.out).length
  .exact .inl ⟨_,Nw c⟩
  .exact .inr ⟨_,Nw (show 0<(pQ a.next b.next).length by omega)⟩
 .rintro (⟨q,hq⟩|⟨q,hq⟩)
  .have:=NO hq;omega
  .have:=NO hq;omega
theorem mO{a b:List Nat}{q:Nat}:(a++b).getD q 0=if q<a.length then a.getD q 0 else b.getD (q-a.length) 0:=by
 rw[Mh,Mh,Mh];split
 .rename_i h;rw[Mb h]
 .rename_i h;rw[Mg (by omega)]
theorem getD_min(l:List Nat)(q:Nat):(l.map λv=>min v 2).getD q 0=min (l.getD q 0) 2:=by
 rw[Mh,Mh,L7]
 cases l[q]? <;> simp
theorem FM{o1 o2 s1 s2:List Nat}(ho:o1.length=o2.length)(hs:s1.length=s2.length):Cl (o1++s1) (o2++s2)=ry ⟨o1,s1.map λv=>min v 2⟩ ⟨o2,s2.map λv=>min v 2⟩:=by
 rw[MW,GA,DV];constructor
 .rintro⟨q,hq,hc⟩;rw[Ml] at hq;rw[mO,mO] at hc;by_cases c:q<o1.length
  .rw[if_pos c,if_pos (by omega)] at hc;exact .inl ⟨q,mI.2 ⟨c,(by show q<o2.length;omega),hc⟩⟩
  .rw[if_neg c,if_neg (by omega),<- ho] at hc;refine .inr ⟨q-o1.length,mI.2 ⟨?_,?_,?_⟩⟩
   .rw[LZ];omega
   .rw[LZ];omega
   .dsimp only;rw[getD_min,getD_min];exact Ds.2 hc
 .rintro (⟨q,hq⟩|⟨q,hq⟩)
  .obtain⟨h1,h2,h3⟩:=mI.1 hq;dsimp only at h1 h2 h3;refine⟨q,by rw[Ml];omega,?_⟩;rw[mO,mO,if_pos h1,if_pos h2];exact h3
  .obtain⟨h1,h2,h3⟩:=mI.1 hq;dsimp only at h1 h2 h3;rw[LZ] at h1 h2;rw[getD_min,getD_min] at h3;refine⟨o1.length+q,by rw[Ml];omega,?_⟩;rw[mO,mO,if_neg (by omega),if_neg (by omega),<- ho,Q6];exact Ds.1 h3
theorem AA{c:Circ}(C:Cir c){p:Pat}(hp:PatOk c p){f:Flt}(F:StuckOk c f){t u:List Nat}(T:Sol c p idN idP t)(U:Sol c p (ntF f) (pnF f) u) :
  Cl ((c.outs.map λo=>t.getD o 0)++(ofN c [14]).map λs=>idP s 0 (t.getD (dOf c s) 0)) ((c.outs.map λo=>u.getD o 0)++(ofN c [14]).map λs=>pnF f s 0 (u.getD (dOf c s) 0))=jf c p f:=by
 have e1:t=cn c p:=T.eq C (nK C hp zZ rj);have e2:u=jV c p f:=U.eq C (nK C hp (C5 F.value) (CX F.value));rw[FM (by simp) (by simp),e1,e2];unfold jf oj;rw[NT,NT];rfl
set_option maxHeartbeats 8000000
theorem VLe.F0{α:Type}{enc:α->Value}{l:List α}{s:Nat}{a:Option Nat}{ro:Bool}{h h2:Heap}(F:Frozen 0 h h2)(ha:a=none->l=[])(hg:∀g,a=some g->h.get g=some (.cells (ah (l.map enc)) ro))(hs:∀x:α,(cl (enc x)).length=s):VLe h2 (ak s a (l.map enc)) (ae s enc l):=by
 cases a with
 |none =>
  rw[ha rfl];exact VLe.nil _ _
 |some g =>
  have q2:=hg g rfl;exact VLe.fl (F.at (L1 _) q2) rfl (bE hs l) (by rw[bn hs,LZ];omega) (by rw[M0,Mc (by rw[bn hs,LZ];exact LV _)];exact LLe.refl _ _)
def xh(w:Wd)(i v:Nat):Wd:=⟨dK (bF w.one (cH 1 i)) (aK (ja v).one (cH 1 i)),dK (bF w.zero (cH 1 i)) (aK (ja v).zero (cH 1 i))⟩
theorem A4{w:Wd}{i v k:Nat}(hi:i<64)(hv:v<=3)(hk:k<64):aD (xh w i v) k=if k=i then v else aD w k:=by
 exact (vE (w:=w) (lane:=i) (v:=v) (K:=λr=>∀i',i'<64->aD r i'=if i'=i then v else aD w i') hi hv λr hr=>hr).2.2 k hk
def atE(l:List Flt)(w:Wd)(which:List Nat):Wd:=which.foldl (λw i=>match l[i]? with|some f=>xh w i f.value|none=>w) w
theorem Fu{l:List Flt}{w:Wd}{which:List Nat}{j i:Nat}{f:Flt}(hj:which[j]?=some i)(hf:l[i]?=some f):atE l w (which.take (j+1))=xh (atE l w (which.take j)) i f.value:=by
 unfold atE;rw[NA,hj,P4]
 show (match l[i]? with|some f=>_|none=>_)=_
 rw[hf]
theorem vI{l:List Flt}(hl:l.length<=64)(hv:∀f∈l,f.value<=3){k:Nat}{f:Flt}(hf:l[k]?=some f):∀(which:List Nat) (w:Wd),aD (atE l w which) k=if k∈which then f.value else aD w k
 |[],w=>by rw[if_neg (by simp)];rfl
 |i::r,w=>by
  show aD (atE l (match l[i]? with|some f=>xh w i f.value|none=>w) r) k=_
  have hk:=ai hf;rw[vI hl hv hf r];by_cases c:k∈r
  .rw[if_pos c,if_pos (.tail _ c)]
  .rw[if_neg c]
   cases hi:l[i]? with
   |none =>
    have:k≠i:=by rintro rfl;rw[hf] at hi;cases hi
    rw[if_neg (by simp[c,this])]
   |some g =>
    have hi64:=ai hi
    show aD (xh w i g.value) k=_
    rw[A4 (by omega) (hv g (LS hi)) (by omega)];by_cases e:k=i
    .subst e;rw[hf] at hi;cases hi;rw[if_pos rfl,if_pos (.head _)]
    .rw[if_neg e,if_neg (by simp[c,e])]
theorem AR{w:Wd}{which:List Nat}{l:List Flt}{good:List Wd}{K:Wd->Prop}(hw:which.length<=64)(hl:l.length<=64)(hv:∀f∈l,f.model=0/\f.value<=3)(hi:∀i∈which,i<l.length)(h:K (atE l w which)):ox w which l good K:=by
 refine aB (λs=>s.2.2<=which.length/\(⟨s.1,s.2.1⟩:Wd)=atE l w (which.take s.2.2)) (λs=>which.length-s.2.2) (λs=>(⟨s.1,s.2⟩:Wd)=atE l w which) ?_ ⟨L1 _,rfl⟩ λ⟨_,_⟩ hs=>by dsimp only at hs ⊢;rw[hs];exact h
 rintro k ⟨a,b,j⟩ nx ⟨hj,hI⟩ hnx hk;dsimp only at hj hI;refine⟨λc=>?_,λc=>hk _ ?_⟩
 .have c:j<which.length:=aX.1 c;obtain⟨i,hij⟩:=aA c;have hil:=hi i (LS hij);obtain⟨f,hf⟩:=aA hil;obtain⟨hm,hv3⟩:=hv f (LS hf);refine⟨i,hij,f,hf,fK (λ_=>True) (λk hk=>⟨f,hf,λq=>absurd hm (dm.1 q),λ_=>hk _ trivial⟩) λ_ _=>⟨by omega,hv3,by omega,hnx _ ⟨c,?_⟩ (by dsimp only;omega)⟩⟩;dsimp only;rw[Fu hij hf,<- hI];rfl
 .have c:which.length<=j:=bC.1 c;rw[Mc c] at hI;exact hI
theorem nh{κ ν:Type}[DecidableEq κ]{m:List (κ×ν)}{k:κ}{v:ν}(h:bY m k=some v):(k,v)∈m:=by
 rw[<- iP k m 0] at h
 cases hj:bU m k 0 with
 |none=>rw[hj] at h;cases h
 |some q =>
  obtain⟨j,w⟩:=q;rw[hj] at h;cases h;exact LS (dW hj).2
theorem uT{κ:Type}[DecidableEq κ]{m:List (κ×Option Nat×List Nat)}{k:κ}{h:Heap}(nn:∀e∈m,e.2.1≠none)(hg:∀e∈m,∀g,e.2.1=some g->h.get g=some (.cells (ah (e.2.2.map i64)) false)) :
  (((bY m k).getD (none,[])).1=none->((bY m k).getD (none,[])).2=[])/\∀g,((bY m k).getD (none,[])).1=some g->h.get g=some (.cells (ah (((bY m k).getD (none,[])).2.map i64)) false):=by
 cases hj:bY m k with
 |none=>exact⟨λ_=>rfl,λg e=>by cases e⟩
 |some q=>exact⟨λe=>absurd e (nn _ (nh hj)),λg e=>hg _ (nh hj) g e⟩
theorem kX{κ:Type}[DecidableEq κ](m:List (κ×Option Nat×List Nat))(k:κ):((bY m k).getD (none,[])).2=bS m k:=by
 unfold bS
 cases bY m k <;> rfl
def Ld(l:List Flt)(_good:List Wd)(mN:NM)(g11 g7:Nat):CloNA:=⟨66,[.pointer (some ⟨g11,0,none⟩),.pointer (some ⟨g7,0,none⟩)],λn w=>atE l w (bS mN n)⟩
def KX(l:List Flt)(_good:List Wd)(mP:PM)(g11 g8:Nat):CloPA:=⟨67,[.pointer (some ⟨g11,0,none⟩),.pointer (some ⟨g8,0,none⟩)],λn j w=>atE l w (bS mP ⟨n,LQ j⟩)⟩
section
variable {l:List Flt} {good:List Wd} {gN gP g7 g8 g11:Nat} {mN:NM} {mP:PM} {h0 h1:Heap} {S:List Slot}
theorem IF(hl:l.length<=64)(hv:∀f∈l,f.model=0/\f.value<=3)(F:FiledOk l l.length mN mP)(O:Own vars h0 (fI gN gP mN mP ((some g7,.cells [.map (some gN)] false)::(some g8,.cells [.map (some gP)] false)::(some g11,.cells [.func (.func 62) ⟨[]⟩ ⟨[FP (ae 5 ay l),FP (ae 2 an good)]⟩] false)::S)) h1):OkN (Ld l good mN g11 g7) h1:=by
 intro n w h e;have e7:=e.get (O.at (eB (.head _)));have e11:=e.get (O.at (eB (.tail _ (.tail _ (.head _)))));have eN:=e.get O.i0;have hB:aH vars h:=O.has.ext e;have hm:ox w (bS mN n) l good (λr=>r=atE l w (bS mN n)):=AR (by rw[F.net];exact Mf (Nf _ _) (by rw[M4];exact hl)) hl hv (λi m=>by rw[F.net] at m;exact Mx.1 (Nc.1 m).1) rfl;obtain⟨ha,hs⟩:=uT (k:=n) (h:=h) F.nn λq m g hq=>e.get (O.at (.tail _ (MA _ (by rw[<- hq];exact Qs (f:=bl) m))));refine pB ?_;clear O
 refine fw Tryz.func66 hB (enc:=an) (λr=>eE _) λO=>?_;conv=>whnf
 refine gX ?_;refine O.new (sh rfl) λg5 h O=>?_;refine gH ?_;refine O.new (aj (l:=[n64 0,n64 0]) rfl rfl rfl) λg6 h O=>?_;refine gH ?_;refine gX ?_;refine ldO (O.ext.get e11) ?_;refine gH ?_;refine ldA O.i1 ?_;refine gH ?_;refine ldO (O.ext.get e7) ?_;refine gH ?_;refine⟨ixV ((bY mN n).getD (none,[])),iD (ek:=i64) (ev:=ixV) (m:=mN) (k:=n) (z:=(none,[])) rfl rfl rfl (by kernel_rfl) (by kernel_rfl) gT (O.ext.get eN) rfl rfl,?_⟩;refine gH ?_;rw[<- kX] at hm;refine al.Ew (λ_ hb=>vZ hm hb) (λ_=>ly rfl) sL O.has (λh2 F=>(LLe.cons (VLe.refl _ _) (LLe.cons (VLe.F0 F ha (λg q=>O.ext.get (hs g q)) (λ_=>rfl)) (LLe.refl _ _)))) (by kernel_rfl) (λr hr=>?_);refine gH ?_;refine O.stC 2 (.head _) [n64 r.one,n64 r.zero] λh O=>?_;refine gX ?_
 refine⟨_,aI rfl rfl O.i0 rfl rfl (lbE rfl) rfl,?_⟩;conv=>whnf
 have hr2:atE l w (bS mN n)=r:=by rw[hr,kX]
 exact fe hr2 O
theorem Jm(hl:l.length<=64)(hv:∀f∈l,f.model=0/\f.value<=3)(F:FiledOk l l.length mN mP)(O:Own vars h0 (fI gN gP mN mP ((some g7,.cells [.map (some gN)] false)::(some g8,.cells [.map (some gP)] false)::(some g11,.cells [.func (.func 62) ⟨[]⟩ ⟨[FP (ae 5 ay l),FP (ae 2 an good)]⟩] false)::S)) h1):OkP (KX l good mP g11 g8) h1:=by
 intro n j w h e;have O:=O.perm vS;have e8:=e.get (O.at (rH (.tail _ (.head _))));have e11:=e.get (O.at (rH (.tail _ (.tail _ (.head _)))));have eP:=e.get O.i0;have hB:aH vars h:=O.has.ext e;have hm:ox w (bS mP ⟨n,LQ j⟩) l good (λr=>r=atE l w (bS mP ⟨n,LQ j⟩)):=AR (by rw[F.pin];exact Mf (Nf _ _) (by rw[M4];exact hl)) hl hv (λi m=>by rw[F.pin] at m;exact Mx.1 (Nc.1 m).1) rfl;obtain⟨ha,hs⟩:=uT (k:=(⟨n,LQ j⟩:LnZ)) (h:=h) F.pn λq m g hq=>e.get (O.at (.tail _ (MA _ (by rw[<- hq];exact Qs (f:=bl) m))));refine pB ?_;clear O
 refine fw Tryz.func67 hB (enc:=an) (λr=>eE _) λO=>?_;conv=>whnf
 refine gX ?_;refine O.new (sh rfl) λk7 h O=>?_;refine gH ?_;refine O.new (aj (l:=[n64 0,n64 0]) rfl rfl rfl) λk8 h O=>?_;refine gH ?_
 apply Cs;conv=>whnf
 refine CodeS.sc ?_;refine gH ?_;refine ldO (O.ext.get e11) ?_;refine gH ?_;refine⟨.inr (.inr (bw rfl (O.ext.get e11) rfl rfl)),?_⟩;refine gH ?_;refine ldA O.i1 ?_;refine gH ?_;refine⟨.inr (.inr (aM rfl O.i1 rfl rfl (lbE rfl) rfl)),?_⟩;refine gH ?_;refine ldO (O.ext.get e8) ?_;refine gH ?_;refine⟨.inr (.inr (bw rfl (O.ext.get e8) rfl rfl)),?_⟩;refine gH ?_;refine⟨ixV ((bY mP ⟨n,LQ j⟩).getD (none,[])),iD (ek:=av) (ev:=ixV) (m:=mP) (k:=⟨n,LQ j⟩) (z:=(none,[])) rfl rfl rfl (by kernel_rfl) (by kernel_rfl) (jB rfl) (O.ext.get eP) rfl rfl,?_⟩;refine gH ?_;refine⟨.inr (.inr (iD (ek:=av) (ev:=ixV) (m:=mP) (k:=⟨n,LQ j⟩) (z:=(none,[])) rfl rfl rfl (by kernel_rfl) (by kernel_rfl) (jB rfl) (O.ext.get eP) rfl rfl)),?_⟩;refine gH ?_;rw[<- kX] at hm;refine al.Ew (λ_ hb=>vZ hm hb) (λ_=>ly rfl) sL O.has (λh2 F=>(LLe.cons (VLe.refl _ _) (LLe.cons (VLe.F0 F ha (λg q=>O.ext.get (hs g q)) (λ_=>rfl)) (LLe.refl _ _)))) (by kernel_rfl) (λr hr=>?_);refine gH ?_;refine O.stC 2 (.head _) [n64 r.one,n64 r.zero] λh O=>?_;refine gX ?_
 refine⟨_,aI rfl rfl O.i0 rfl rfl (lbE rfl) rfl,?_⟩;conv=>whnf
 have hr2:atE l w (bS mP ⟨n,LQ j⟩)=r:=by rw[hr,kX]
 exact fe hr2 O
end
set_option maxHeartbeats 8000000
abbrev SM:=List (Nat×Bool)
structure IsSet (m:SM) (p:Nat->Prop):Prop where
 tr:∀e∈m,e.2=true
 has:∀i,bY m i≠none↔p i
 nd:(m.map P6).Nodup
theorem jw{κ ν:Type}[DecidableEq κ]{k:κ}{b:ν}:∀{m:List (κ×ν)},(k,b)∈m->bY m k≠none
 |[],h=>by cases h
 |q::r,h=>by
  unfold bY;split
  .exact λe=>by cases e
  .rename_i c
   rcases MF.1 h with rfl|h
   .exact absurd rfl c
   .exact jw h
theorem IsSet.get{m:SM}{p:Nat->Prop}(s:IsSet m p)(i:Nat):((bY m i).getD false=true)↔p i:=by
 rw[<- s.has i]
 cases h:bY m i with
 |none=>simp
 |some b =>
  have:=s.tr _ (nh h);dsimp only at this;subst this;simp
theorem E7{κ ν:Type}[DecidableEq κ](m:List (κ×ν))(k:κ)(w:ν)(q:κ):bY (gQ m k w) q=if q=k then some w else bY m q:=by
 cases h:bU m k 0 with
 |none=>rw[Go.Abs.lI h,sY (kz.1 h)]
 |some x =>
  obtain⟨j,v⟩:=x;rw[Go.Abs.lq h,qY h]
theorem IsSet.put{m:SM}{p:Nat->Prop}(s:IsSet m p)(k:Nat):IsSet (gQ m k true) (λi=>i=k\/p i):=by
 refine⟨λe he=>?_,λi=>?_,?_⟩
 .cases h:bU m k 0 with
  |none =>
   rw[Go.Abs.lI h] at he
   rcases MB.1 he with he|he
   .exact s.tr e he
   .rw[Mm.1 he]
  |some x =>
   obtain⟨j,v⟩:=x;rw[Go.Abs.lq h] at he
   rcases OM he with he|he
   .exact s.tr e he
   .rw[he]
 .rw[E7];by_cases c:i=k
  .rw[if_pos c];simp[c]
  .rw[if_neg c,s.has i];simp[c]
 .cases h:bU m k 0 with
  |none =>
   rw[Go.Abs.lI h,MT,Oy];refine⟨s.nd,by simp,λa ha b hb e=>?_⟩;simp only[MM,ND,Mm] at hb;subst e;subst hb;obtain⟨⟨a1,a2⟩,hm,rfl⟩:=MP.1 ha;exact jw hm (kz.1 h)
  |some x =>
   obtain⟨j,v⟩:=x;have hj:=(dW h).2;rw[Go.Abs.lq h]
   have:(m.set (j-0) (k,true)).map P6=m.map P6:=by
    apply MH;intro i;rw[Qy,Mp];by_cases c:j-0=i
    .subst c;rw[if_pos rfl,L7,hj];split
     .rfl
     .rename_i hlt;rw[LZ] at hlt;exact absurd (LX.1 hj).1 hlt
    .rw[if_neg c]
   rw[this];exact s.nd
theorem IsSet.nil:IsSet [] (λ_=>False):=⟨(λ_ m=>by cases m),(λi=>by simp[bY]),.nil⟩
theorem IsSet.congr{m:SM}{p q:Nat->Prop}(s:IsSet m p)(h:∀i,p i↔q i):IsSet m q:=⟨s.tr,λi=>(s.has i).trans (h i),s.nd⟩
structure Mach where
 c:Circ
 l:List Flt
 nets:List Nat
 gx:Nat
 gl:Nat
 gA:Nat
 mA:PM
 A:List (Option Nat)
 S:Nat->SM
def Mach.cells(x:Mach):List Value:=cl (az x.c)++[ae 5 ay x.l,ae 1 n8 x.nets,.slice (some ⟨x.gl,0,none⟩) x.A.length x.A.length,.map (some x.gA)]
structure MachAt (x:Mach) (h:Heap):Prop where
 box:h.get x.gx=some (.cells x.cells false)
 lists:h.get x.gl=some (.cells (ah (x.A.map Value.map)) false)
 at_:h.get x.gA=some (.map (aY av ixV x.mA))
 ix:∀e∈x.mA,∀g,e.2.1=some g->h.get g=some (.cells (ah (e.2.2.map i64)) false)
 nn:∀e∈x.mA,e.2.1≠none
 sets:∀m g,x.A[m]?=some (some g)->h.get g=some (.map (aY i64 L0 (x.S m)))
theorem MachAt.ext{x:Mach}{h h':Heap}(M:MachAt x h)(e:Ext h h'):MachAt x h' :=
 ⟨e.get M.box,e.get M.lists,e.get M.at_,λq m g hq=>e.get (M.ix q m g hq),M.nn,λm g hm=>e.get (M.sets m g hm)⟩
def chB(x:Mach)(n pin i:Nat):Bool:=match x.c.nodes[n]? with
 |some y=>match y.ins[pin]?,x.l[i]? with
  |some m,some f=>if f.line=⟨n,LQ pin⟩ then decide (f.value≠x.nets.getD m 0) else (bY (x.S m) i).getD false
  |_,_=>false
 |none=>false
theorem Ih(a b:LnZ):((LQ a.node==LQ b.node)&&((a.pin==b.pin)&&true))=decide (a=b):=by
 rw[MW];simp only[decide_eq_true_eq,L9,beq_iff_eq,PG];constructor
 .rintro⟨h1,h2⟩
  cases a;cases b
  simp only[L4,Int.natCast_inj] at h1 h2;subst h1;subst h2;rfl
 .rintro rfl;exact⟨rfl,rfl⟩
theorem Er(b:Bool):aq (.bool b):=aq.flat rfl
theorem rA{x:Mach}{h:Heap}(M:MachAt x h)(hB:aH vars h){n pin i m g:Nat}{y:Node}{f:Flt}(hy:x.c.nodes[n]?=some y)(hp:y.ins[pin]?=some m)(hf:x.l[i]?=some f)(hm:m<x.nets.length)(hA:x.A[m]?=some (some g)) :
  al Tryz.prog NG 30 ⟨[.pointer (some ⟨x.gx,0,none⟩),i64 n,i64 pin,i64 i]⟩ h (.bool (chB x n pin i)) h:=by
 have key:∃r,chB x n pin i=r/\al Tryz.prog NG 30 ⟨[.pointer (some ⟨x.gx,0,none⟩),i64 n,i64 pin,i64 i]⟩ h (.bool r) h:=by
  obtain⟨v,hv⟩:∃v,x.nets[m]?=some v:=⟨_,LU hm⟩
  refine fw Tryz.func30 hB (enc:=L0) (λr=>Er _) λO=>?_;conv=>whnf
  refine gX ?_;refine ldO (O.ext.get M.box) ?_;refine gH ?_;refine atF (W:=λ_=>True) ⟨y,hy,trivial⟩ λy' hy' _=>?_;rw[hy] at hy';cases hy';refine gH ?_;refine atF (W:=λ_=>True) ⟨m,hp,trivial⟩ λm' hm' _=>?_;rw[hp] at hm';cases hm';refine gX ?_;refine ldO (O.ext.get M.box) ?_;refine gH ?_;refine atF (W:=λ_=>True) ⟨f,hf,trivial⟩ λf' hf' _=>?_;rw[hf] at hf';cases hf';refine gX ?_;refine⟨.bool ((LQ f.line.node==LQ n)&&((f.line.pin==LQ pin)&&true)),by kernel_rfl,?_⟩;refine gX ?_;rw[Ih f.line ⟨n,LQ pin⟩];by_cases he:f.line=⟨n,LQ pin⟩
  .refine bt ?_ (congrArg L0 (decide_eq_true he));conv=>whnf
   apply Cs;conv=>whnf
   refine CodeS.sc ?_;refine gH ?_;refine ldO (O.ext.get M.box) ?_;refine gH ?_;refine⟨.inr (.inr (bw rfl (O.ext.get M.box) rfl rfl)),?_⟩;refine gH ?_;refine atF (W:=λ_=>True) ⟨f,hf,trivial⟩ λf' hf' _=>?_;rw[hf] at hf';cases hf';refine gH ?_;refine ldO (O.ext.get M.box) ?_;refine gH ?_;refine⟨.inr (.inr (bw rfl (O.ext.get M.box) rfl rfl)),?_⟩;refine gH ?_;refine atF (W:=λ_=>True) ⟨v,hv,trivial⟩ λv' hv' _=>?_;rw[hv] at hv';cases hv';refine gX ?_
   have hr:chB x n pin i=(LQ f.value != LQ v):=by
    unfold chB;simp only[hy,hp,hf];rw[if_pos he,Mh,hv]
    show decide (f.value≠v)=_
    rw[MW];simp[Int.ofNat_inj]
   exact fe hr O
  .refine bf ?_ (congrArg L0 (decide_eq_false he));refine gX ?_;refine ldO (O.ext.get M.box) ?_;refine gH ?_;refine ix (l:=x.A) (W:=λ_=>True) 1 ⟨(LX.1 hA).1,some g,hA,trivial⟩ λ_ _ _=>?_;refine gH ?_;refine ldE (s:=1) (i:=0) (O.ext.get M.lists) hA ?_;refine gH ?_;refine⟨.bool ((bY (x.S m) i).getD false),iD (ek:=i64) (ev:=L0) (m:=x.S m) (k:=i) (z:=false) rfl rfl rfl (by kernel_rfl) (by kernel_rfl) gT (O.ext.get (M.sets m g hA)) rfl rfl,?_⟩;refine gX ?_
   have hr:chB x n pin i=(bY (x.S m) i).getD false:=by
    unfold chB;simp only[hy,hp,hf];rw[if_neg he]
   exact fe hr O
 obtain⟨r,hr,cd⟩:=key;rw[hr];exact cd
set_option maxHeartbeats 8000000
def inB(x:Mach)(n i:Nat)(y:Node):List Nat:=y.ins.mapIdx λj m=>if chB x n j i then gz (x.nets.getD m 0) else x.nets.getD m 0
theorem Gk{x:Mach}{n i j m:Nat}{y:Node}(hm:y.ins[j]?=some m):(inB x n i y).take (j+1)=(inB x n i y).take j++[if chB x n j i then gz (x.nets.getD m 0) else x.nets.getD m 0]:=by
 unfold inB;rw[NA,Nz,hm];rfl
theorem CR{x:Mach}{h:Heap}(M:MachAt x h)(hB:aH vars h){g2 g3 g6 n i r:Nat}{r2 r3 r6:Bool}{y:Node}{f:Flt}(b2:h.get g2=some (.cells [.pointer (some ⟨x.gx,0,none⟩)] r2))(b3:h.get g3=some (.cells [i64 n] r3))(b6:h.get g6=some (.cells [n8 y.kind] r6))
  (hy:x.c.nodes[n]?=some y) (hf:x.l[i]?=some f) (hins:∀m∈y.ins,m<x.nets.length/\∃g,x.A[m]?=some (some g)) (hl:y.ins.length<=16) (hm:bL y.kind (inB x n i y) (· = r)) :
  al Tryz.prog NG 119 ⟨[i64 i,.pointer (some ⟨g2,0,none⟩),.pointer (some ⟨g3,0,none⟩),.pointer (some ⟨g6,0,none⟩)]⟩ h (n8 r) h:=by
 have key:∃q,q=r/\al Tryz.prog NG 119 ⟨[i64 i,.pointer (some ⟨g2,0,none⟩),.pointer (some ⟨g3,0,none⟩),.pointer (some ⟨g6,0,none⟩)]⟩ h (n8 q) h:=by
  refine fw Tryz.func119 hB (enc:=n8) (λr=>aq.flat rfl) λO=>?_;conv=>whnf
  apply Cs;conv=>whnf
  apply Cs;refine gH ?_
  apply Cs;conv=>whnf
  apply Cs;refine gH ?_
  apply Cs;conv=>whnf
  apply Cs;conv=>whnf
  refine CodeS.sc ?_;refine gH ?_;refine ldO (O.ext.get b2) ?_;refine gH ?_;refine⟨.inr (.inr (bw rfl (O.ext.get b2) rfl rfl)),?_⟩;refine gH ?_;refine ldO (O.ext.get M.box) ?_;refine gH ?_;refine⟨.inr (.inr (bw rfl (O.ext.get M.box) rfl rfl)),?_⟩;refine gH ?_;refine ldO (O.ext.get b3) ?_;refine gH ?_;refine atF (W:=λ_=>True) ⟨y,hy,trivial⟩ λy' hy' _=>?_;rw[hy] at hy';cases hy';refine gH ?_;refine⟨.inr (.inr rfl),?_⟩;refine gX ?_;have O:=O.aZ (.cells (ah (([]:List Nat).map n8)) false);refine lM hM (nn:=47) (by kernel_rfl) (σ:=Nat×Option Nat) (λs h'=>s.1<=y.ins.length/\(s.2=none->(inB x n i y).take s.1=[])/\Own vars h [(s.2,.cells (ah (((inB x n i y).take s.1).map n8)) false)] h')
   (λs=>[(0,i64 i),(1,.pointer (some ⟨g2,0,none⟩)),(2,.pointer (some ⟨g3,0,none⟩)),(3,.pointer (some ⟨g6,0,none⟩)),(6,ak 1 s.2 (((inB x n i y).take s.1).map n8)),(18,ae 1 i64 y.ins),(19,i64 y.ins.length),(20,i64 s.1)]) (λs=>y.ins.length-s.1) rfl ⟨(0,none),⟨L1 _,λ_=>rfl,O⟩,rfl,rfl,rfl,rfl,rfl,rfl,rfl,rfl,trivial⟩ ?_
  clear O;rintro⟨j,a⟩ base h' ⟨hj,ha,O⟩;dsimp only at hj ha O;refine gX ?_;by_cases hlt:j<y.ins.length
  .refine bt ?_ (congrArg L0 (by show ltN j y.ins.length=true;rw[bj];simp;omega));refine gX ?_;obtain⟨m,hmj⟩:∃m,y.ins[j]?=some m:=⟨_,LU hlt⟩;obtain⟨hmn,g,hA⟩:=hins m (LS hmj);obtain⟨v,hv⟩:∃v,x.nets[m]?=some v:=⟨_,LU hmn⟩;have M':=M.ext O.ext;have tk:=Gk (x:=x) (n:=n) (i:=i) hmj
   have hvd:x.nets.getD m 0=v:=by rw[Mh,hv];rfl
   rw[hvd] at tk;refine atF (W:=λ_=>True) ⟨m,hmj,trivial⟩ λm' hm' _=>?_;rw[hmj] at hm';cases hm';refine gX ?_;refine ldO (O.ext.get b2) ?_;refine gH ?_;refine ldO M'.box ?_;refine gH ?_;refine atF (W:=λ_=>True) ⟨v,hv,trivial⟩ λv' hv' _=>?_;rw[hv] at hv';cases hv';refine gX ?_;refine ldO (O.ext.get b2) ?_;refine gH ?_;refine ldO (O.ext.get b3) ?_;refine gH ?_;refine⟨_,_,rA M' O.has hy hmj hf hmn hA,?_⟩;refine gX ?_
   cases hc:chB x n j i with
   |true =>
    refine bt ?_;refine gX ?_;rw[hc,if_pos rfl] at tk;refine ca (dC (K:=λr=>r=gz v) (qB rfl) O.has) λw hw=>?_;subst hw;refine gX ?_;refine fz ?_;refine gH ?_;refine O.apL (b:=1) (W:=True) (enc:=n8) (l:=(inB x n i y).take j) (new:=[gz v]) 1 (.head _) ha ⟨by rw[L8,L6];omega,trivial⟩ λa' h' ha' O _=>?_;refine gX ?_;refine aJ (a:=j) (b:=1) (W:=True) ⟨by omega,trivial⟩ λ_=>?_;refine gX ?_;rw[<- tk] at ha' O;exact⟨(j+1,a'),by show y.ins.length-(j+1)<y.ins.length-j;omega,⟨hlt,ha',O⟩,rfl,rfl,rfl,rfl,by rw[tk];rfl,rfl,rfl,rfl,trivial⟩
   |false =>
    refine bf ?_;refine gX ?_;rw[hc,if_neg (by decide)] at tk;refine fz ?_;refine gH ?_;refine O.apL (b:=1) (W:=True) (enc:=n8) (l:=(inB x n i y).take j) (new:=[v]) 1 (.head _) ha ⟨by rw[L8,L6];omega,trivial⟩ λa' h' ha' O _=>?_;refine gX ?_;refine aJ (a:=j) (b:=1) (W:=True) ⟨by omega,trivial⟩ λ_=>?_;refine gX ?_;rw[<- tk] at ha' O;exact⟨(j+1,a'),by show y.ins.length-(j+1)<y.ins.length-j;omega,⟨hlt,ha',O⟩,rfl,rfl,rfl,rfl,by rw[tk];rfl,rfl,rfl,rfl,trivial⟩
  .have hje:j=y.ins.length:=by omega
   refine bf ?_ (congrArg L0 (by show ltN j y.ins.length=false;rw[bj];simp;omega));refine gX ?_
   have hil:(inB x n i y).length=y.ins.length:=by unfold inB;simp
   have et:(inB x n i y).take j=inB x n i y:=Mc (by rw[hil];omega);refine ldO (O.ext.get b6) ?_;refine gH ?_;refine al.Ew (λ_ hb=>iC hm hb) (λ_=>ly rfl) sL O.has (λh2 F=>(LLe.cons (VLe.refl _ _) (LLe.cons (by have q:=O.jP F (L1 _) (.head _) ha (λ_=>rfl);show VLe h2 (ak 1 a (List.map n8 (List.take j (inB x n i y)))) _;rw[et] at q ⊢;exact q) (LLe.nil _)))) (by kernel_rfl) (λq hq=>?_);refine gX ?_;exact fe hq O
 obtain⟨q,rfl,cd⟩:=key;exact cd
set_option maxHeartbeats 8000000
theorem fgM{f:FuncId}{fn:Func}{c:Code}(hf:Tryz.prog.funcs[f]?=some fn){vs:Array Value}{h:Heap}{Q:Value->Heap->Prop}
  (hk:CodeM Tryz.prog NG c (cM fn.ntmps vs) h λx e1 h1=>match x with
   |.exit _=>False
   |_=>mu Tryz.prog e1 h1 fn.results.toList λvs=>Q (sQ vs) h1)
  (hb:fn.body=some c:=by exact rfl) (hs:Nat.ble vs.size fn.ntmps=true:=by exact rfl):CallM Tryz.prog NG f vs h Q :=
 CallM.body hM hf hb (hP _ _ rfl hf) (Mq hs) hk
theorem uX{B:List AObj}{h0 h h':Heap}{L L2:List Slot}(O:Own B h0 L h)(O2:Own B h L2 h'):Own B h0 (L2++L) h':=by
 refine⟨O.base,O.ext.trans O2.ext,λg o m=>?_,Pt.2 ⟨O2.apart,O.apart,λa ma b mb g e1 e2=>?_⟩⟩
 .rcases MB.1 m with m|m
  .obtain⟨q1,q2⟩:=O2.get g o m;exact⟨Mf O.ext.1 q1,q2⟩
  .obtain⟨q1,q2⟩:=O.get g o m;exact⟨q1,O2.ext.get q2⟩
 .have q1:=(O2.get g a.2 (by rw[<- e1];exact ma)).1;have q2:=(O.get g b.2 (by rw[<- e2];exact mb)).2;have:=Heap.ai q2;omega
abbrev lN(m:SM):AObj:=.map (aY i64 L0 m)
theorem yA{h0 h:Heap}{S:List Slot}{D T:SM}{p q:Nat->Prop}{gd gs:Nat}(O:Own vars h0 ((some gd,lN D)::S) h)(hs:h0.get gs=some (lN T))(sD:IsSet D p)(sT:IsSet T q) :
   CallM Tryz.prog NG 27 ⟨[.map (some gd),.map (some gs)]⟩ h (λv h'=>v=.tuple #[]/\∃D',IsSet D' (λi=>p i\/q i)/\Own vars h0 ((some gd,lN D')::S) h'):=by
 refine fgM Tryz.func27 ?_;conv=>whnf
 refine gXM ?_;refine O.JN (ek:=i64) (ev:=L0) (m:=T) (O.ext.get hs) λg2 h O=>?_;refine gXM ?_
 have hm:Hv (S:=SM) T (λy d nx=>nx (gQ d y.1 y.2)) D (λd=>IsSet d (λi=>p i\/q i)):=by
   refine qN (λseen d=>IsSet d (λi=>p i\/∃j∈seen,∃y,T[j]?=some y/\y.1=i)) ?_ (λseen d I nd hall=>I.congr λi=>?_) λseen d i y next I hy hi hn=>?_
   .exact sD.congr λi=>by simp
   .constructor
    .rintro (c|⟨j,hj,y,hy,rfl⟩)
     .exact .inl c
     .exact .inr ((sT.has _).1 (jw (b:=y.2) (LS hy)))
    .rintro (c|c)
     .exact .inl c
     .have:=(sT.has i).2 c
      cases hg:bY T i with
      |none=>exact absurd hg this
      |some b =>
       obtain⟨j,hj⟩:=M1 (nh hg);exact .inr ⟨j,(hall j).2 (LX.1 hj).1,_,hj,rfl⟩
   .have hb:y.2=true:=sT.tr _ (LS hy);rw[hb];refine hn _ ((I.put y.1).congr λk=>?_);constructor
    .rintro (rfl|c|⟨j,hj,z,hz,rfl⟩)
     .exact .inr ⟨i,by simp,y,hy,rfl⟩
     .exact .inl c
     .exact .inr ⟨j,MA _ hj,z,hz,rfl⟩
    .rintro (c|⟨j,hj,z,hz,rfl⟩)
     .exact .inr (.inl c)
     .rcases MB.1 hj with hj|hj
      .exact .inr (.inr ⟨j,hj,z,hz,rfl⟩)
      .rw[Mm.1 hj,hy] at hz
       cases hz
       exact .inl rfl
 refine mpM 16 [0,7] (σ:=SM) (λs=>s) (es:=T) (ent:=λp=>(i64 p.1,L0 p.2)) (λd seen h=>Own vars h0 ((some g2,.rng gs seen T.length)::(some gd,lN d)::S) h) (λ_=>[]) D hm O (by rintro d seen h q;have O:=q;exact O.at (.head _)) (by rintro d seen h q;have O:=q;exact O.ext.get hs) (by rintro d seen i h q;have O:=q;exact O.upd (.head _) (Upd.upd _ (Heap.ai (O.at (.head _))))) ?_ ?_
 .clear hm;rintro d seen base h hm O;refine gXM ?_;refine bf ?_;refine gXM ?_;exact⟨d,hm,O.tail⟩
 .clear hm;rintro d seen i y nx base h hy hm O;refine gXM ?_;refine bt ?_;refine gXM ?_;refine Gq (ek:=i64) (ev:=L0) (m:=T) O (.head _) (O.ext.get hs) rfl hy ?_;refine gXM ?_;refine O.nv (ek:=i64) (ev:=L0) (m:=d) (k:=y.1) (v:=y.2) (.tail _ (.head _)) rfl rfl (by kernel_rfl) gT rfl rfl rfl λh O=>?_;refine gXM ?_;exact jx (gQ d y.1 y.2) hm O
set_option maxHeartbeats 8000000
def jv(x:Mach)(q:Nat->Nat->Prop)(n:Nat)(y:Node)(k:Nat)(i:Nat):Prop:=(∃j,j<k/\∃m,y.ins[j]?=some m/\q m i)\/∃j,j<k/\i∈bS x.mA ⟨n,LQ j⟩
theorem Cy{x:Mach}{q:Nat->Nat->Prop}{n i:Nat}{y:Node}:False↔jv x q n y 0 i:=by
 constructor
 .exact Nn
 .rintro (⟨j,h,_⟩|⟨j,h,_⟩) <;> exact absurd h (Mu _)
theorem CA{x:Mach}{q:Nat->Nat->Prop}{n j i m:Nat}{y:Node}(hm:y.ins[j]?=some m):((jv x q n y j i\/q m i)\/∃t,i=t/\t∈bS x.mA ⟨n,LQ j⟩)↔jv x q n y (j+1) i:=by
 constructor
 .rintro (((⟨k,h,r⟩|⟨k,h,r⟩) | h) | ⟨t,rfl,h⟩)
  .exact .inl ⟨k,by omega,r⟩
  .exact .inr ⟨k,by omega,r⟩
  .exact .inl ⟨j,by omega,m,hm,h⟩
  .exact .inr ⟨j,by omega,h⟩
 .rintro (⟨k,h,m',r1,r2⟩|⟨k,h,r⟩)
  .by_cases c:k=j
   .subst c;rw[hm] at r1;cases r1;exact .inl (.inr r2)
   .exact .inl (.inl (.inl ⟨k,by omega,m',r1,r2⟩))
  .by_cases c:k=j
   .subst c;exact .inr ⟨i,rfl,r⟩
   .exact .inl (.inl (.inr ⟨k,by omega,r⟩))
theorem yP{x:Mach}{h0:Heap}(M:MachAt x h0)(hB:aH vars h0){n:Nat}{y:Node}{q:Nat->Nat->Prop}(hy:x.c.nodes[n]?=some y)(hl:y.ins.length<=16)(hL:∀k,(bS x.mA k).length<=2^47)(hA:∀m∈y.ins,(∃g,x.A[m]?=some (some g))/\IsSet (x.S m) (q m)) :
  CallM Tryz.prog NG 29 ⟨[.pointer (some ⟨x.gx,0,none⟩),i64 n]⟩ h0 (λv h'=>∃g D,v=.map (some g)/\IsSet D (jv x q n y y.ins.length)/\Own vars h0 [(some g,lN D)] h'):=by
 refine fgM Tryz.func29 ?_;have O:=Own.start hB
 conv=>whnf
 refine gXM ?_;refine O.new ((rfl:ew _ _ _=some (.map (aY i64 L0 ([]:SM)),λg=>.map (some g)))) λgd h O=>?_;refine gH ?_;refine gXM ?_;refine ldO (O.ext.get M.box) ?_;refine gH ?_;refine atF (W:=λ_=>True) ⟨y,hy,trivial⟩ λy' hy' _=>?_;rw[hy] at hy';cases hy';refine gXM ?_;refine CodeM.loop (nn:=53) (σ:=Nat×SM) (λs h'=>s.1<=y.ins.length/\IsSet s.2 (jv x q n y s.1)/\Own vars h0 [(some gd,lN s.2)] h')
  (λs=>[(0,.pointer (some ⟨x.gx,0,none⟩)),(1,i64 n),(5,.map (some gd)),(19,ae 1 i64 y.ins),(20,i64 y.ins.length),(21,i64 s.1)]) (λs=>y.ins.length-s.1) rfl ⟨(0,[]),⟨L1 _,IsSet.nil.congr λi=>Cy,O⟩,VLe.refl _ _,VLe.refl _ _,VLe.refl _ _,VLe.refl _ _,VLe.refl _ _,VLe.refl _ _,trivial⟩ ?_
 clear O;rintro⟨j,d⟩ base h' ⟨hj,sd,O⟩;dsimp only at hj sd O
 conv=>whnf
 refine CodeM.seq (CodeM.reg ?_);refine gH ?_;by_cases hlt:j<y.ins.length
 .obtain⟨m,hmj⟩:∃m,y.ins[j]?=some m:=⟨_,LU hlt⟩;obtain⟨⟨g,hg⟩,sT⟩:=hA m (LS hmj)
  refine CodeM.seq (CodeM.cond ⟨true,congrArg L0 (by show ltN j y.ins.length=true;rw[bj];simp;omega),λ_=>CodeM.skip ?_,(λe=>nomatch e)⟩);conv=>whnf
  refine CodeM.seq (CodeM.block (CodeM.seq (CodeM.reg ?_)));refine gH ?_;refine atF (W:=λ_=>True) ⟨m,hmj,trivial⟩ λm' hm' _=>?_;rw[hmj] at hm';cases hm';refine gH ?_;refine CodeM.seq (CodeM.Ju rfl rfl ?_);refine gH ?_;refine ldO (O.ext.get M.box) ?_;refine gH ?_;refine ix (l:=x.A) (W:=λ_=>True) 1 ⟨(LX.1 hg).1,some g,hg,trivial⟩ λ_ _ _=>?_;refine gH ?_;refine ldE (s:=1) (i:=0) (O.ext.get M.lists) hg ?_;refine gH ?_;refine⟨_,⟨_⟩,_,kl rfl,yA O (M.sets m g hg) sd sT,?_⟩;rintro v h' ⟨rfl,d',sd',O⟩
  conv=>whnf
  refine CodeM.seq (CodeM.reg ?_);refine gH ?_;refine ldO (O.ext.get M.box) ?_;refine gH ?_;obtain⟨ha,hs⟩:=uT (k:=(⟨n,LQ j⟩:LnZ)) (h:=h0) M.nn M.ix;refine⟨ixV ((bY x.mA ⟨n,LQ j⟩).getD (none,[])),iD (ek:=av) (ev:=ixV) (m:=x.mA) (k:=⟨n,LQ j⟩) (z:=(none,[])) rfl rfl rfl (by kernel_rfl) (by kernel_rfl) (jB rfl) (O.ext.get M.at_) rfl rfl,?_⟩;refine gH ?_;have hix:=kX x.mA (⟨n,LQ j⟩:LnZ);generalize hv:(bY x.mA (⟨n,LQ j⟩:LnZ)).getD (none,[])=ar at ha hs hix;obtain⟨a,r⟩:=ar;dsimp only at ha hs hix
  have hlr:r.length<=2^47:=by rw[hix];exact hL _
  refine CodeM.block (CodeM.loop (nn:=53) (σ:=Nat×SM) (λs h'=>s.1<=r.length/\IsSet s.2 (λi=>(jv x q n y j i\/q m i)\/∃k,k<s.1/\r[k]?=some i)/\Own vars h0 [(some gd,lN s.2)] h')
   (λs=>[(0,.pointer (some ⟨x.gx,0,none⟩)),(1,i64 n),(5,.map (some gd)),(19,ae 1 i64 y.ins),(20,i64 y.ins.length),(21,i64 j),(42,ak 1 a (r.map i64)),(43,i64 r.length),(44,i64 s.1)]) (λs=>r.length-s.1) rfl ⟨(0,d'),⟨L1 _,sd'.congr λi=>⟨.inl,λq=>q.elim id λ⟨k,hk,_⟩=>absurd hk (Mu _)⟩,O⟩,VLe.refl _ _,VLe.refl _ _,VLe.refl _ _,VLe.refl _ _,VLe.refl _ _,VLe.refl _ _,VLe.refl _ _,VLe.refl _ _,VLe.refl _ _,trivial⟩ ?_)
  clear O sd';rintro⟨t,d2⟩ base h' ⟨ht,sd',O⟩;dsimp only at ht sd' O
  conv=>whnf
  refine CodeM.seq (CodeM.reg ?_);refine gH ?_;by_cases hlt2:t<r.length
  .obtain⟨v,hv2⟩:∃v,r[t]?=some v:=⟨_,LU hlt2⟩
   refine CodeM.seq (CodeM.cond ⟨true,congrArg L0 (by show ltN t r.length=true;rw[bj];simp;omega),λ_=>CodeM.skip ?_,(λe=>nomatch e)⟩);conv=>whnf
   cases a with
   |none=>rw[ha rfl] at hlt2;exact absurd hlt2 (Mu _)
   |some ga =>
    have hga:=hs ga rfl;refine gXM ?_;refine ix (l:=r) (n:=(r.map i64).length) (W:=λ_=>True) 1 ⟨by rw[LZ];exact hlt2,v,hv2,trivial⟩ λ_ _ _=>?_;refine gH ?_;refine ldE (s:=1) (i:=0) (enc:=i64) (O.ext.get hga) hv2 ?_;refine gXM ?_;refine O.nv (ek:=i64) (ev:=L0) (m:=d2) (k:=v) (v:=true) (.head _) rfl rfl (by kernel_rfl) gT rfl rfl rfl λh' O=>?_;refine gXM ?_;refine aJ (a:=t) (b:=1) (W:=True) ⟨by have:=hlr;omega,trivial⟩ λ_=>?_;refine gXM ?_;refine⟨(t+1,gQ d2 v true),by show r.length-(t+1)<r.length-t;omega,⟨hlt2,(sd'.put v).congr λi=>?_,O⟩,VLe.refl _ _,VLe.refl _ _,VLe.refl _ _,VLe.refl _ _,VLe.refl _ _,VLe.refl _ _,VLe.refl _ _,VLe.refl _ _,VLe.refl _ _,trivial⟩;constructor
    .rintro (rfl|c|⟨k,hk,e⟩)
     .exact .inr ⟨t,ML t,hv2⟩
     .exact .inl c
     .exact .inr ⟨k,by omega,e⟩
    .rintro (c|⟨k,hk,e⟩)
     .exact .inr (.inl c)
     .by_cases ek:k=t
      .subst ek;rw[hv2] at e;cases e;exact .inl rfl
      .exact .inr (.inr ⟨k,by omega,e⟩)
  .obtain rfl:t=r.length:=by omega
   refine CodeM.seq (CodeM.cond ⟨false,congrArg L0 (by show ltN r.length r.length=false;rw[bj];simp),(λe=>nomatch e),λ_=>CodeM.exit ?_⟩);refine gXM ?_;refine aJ (a:=j) (b:=1) (W:=True) ⟨by omega,trivial⟩ λ_=>?_;refine gXM ?_;refine⟨(j+1,d2),by show y.ins.length-(j+1)<y.ins.length-j;omega,⟨hlt,sd'.congr λi=>(or_congr O4 ?_).trans (CA hmj),O⟩,VLe.refl _ _,VLe.refl _ _,VLe.refl _ _,VLe.refl _ _,VLe.refl _ _,VLe.refl _ _,trivial⟩;rw[<- hix];constructor
   .rintro⟨k,hk,e⟩;exact⟨i,rfl,LS e⟩
   .rintro⟨_,rfl,hm⟩;obtain⟨k,hk⟩:=M1 hm;exact⟨k,(LX.1 hk).1,hk⟩
 .obtain rfl:j=y.ins.length:=by omega
  refine CodeM.seq (CodeM.cond ⟨false,congrArg L0 (by show ltN y.ins.length y.ins.length=false;rw[bj];simp),(λe=>nomatch e),λ_=>CodeM.exit ?_⟩);refine gXM ?_;exact⟨gd,d,rfl,sd,O⟩
set_option maxHeartbeats 8000000
abbrev nU(n:Nat):LnZ:=⟨n,Mj 0⟩
def HQ(x:Mach)(q:Nat->Nat->Prop)(ev:Nat->Nat)(n:Nat)(y:Node)(i:Nat):Prop :=
 (y.kind≠0/\y.kind≠14/\jv x q n y y.ins.length i/\ev i≠x.nets.getD n 0)\/(i∈bS x.mA (nU n)/\∃f,x.l[i]?=some f/\f.value≠x.nets.getD n 0)
theorem Fc{x:Mach}{h0:Heap}(M:MachAt x h0)(hB:aH vars h0){n w:Nat}{y:Node}{q:Nat->Nat->Prop}{ev:Nat->Nat}(hy:x.c.nodes[n]?=some y)(hl:y.ins.length<=16)(hL:∀k,(bS x.mA k).length<=2^47)(hA:y.kind≠0->y.kind≠14->∀m∈y.ins,(m<x.nets.length/\∃g,x.A[m]?=some (some g))/\IsSet (x.S m) (q m))
  (hw:x.nets[n]?=some w) (hsome:y.kind≠0->y.kind≠14->∀i,jv x q n y y.ins.length i->∃f,x.l[i]?=some f) (hev:y.kind≠0->y.kind≠14->∀i,jv x q n y y.ins.length i->bL y.kind (inB x n i y) (· = ev i)) (hstem:∀i∈bS x.mA (nU n),(∃f,x.l[i]?=some f)/\(y.kind≠0->y.kind≠14->¬ jv x q n y y.ins.length i)) (hnd:(bS x.mA (nU n)).Nodup) :
  CallM Tryz.prog NG 69 ⟨[.pointer (some ⟨x.gx,0,none⟩),i64 n]⟩ h0 (λv h'=>∃g D,v=.map (some g)/\IsSet D (HQ x q ev n y)/\Own vars h0 [(some g,lN D)] h'):=by
 refine fgM Tryz.func69 ?_;have O:=Own.start hB
 conv=>whnf
 refine CodeM.seq (CodeM.reg ?_);refine gH ?_;refine O.new (sh rfl) λg2 h O=>?_;refine gH ?_;refine O.new (sh rfl) λg3 h O=>?_;refine gH ?_
 conv=>whnf
 refine CodeM.seq (CodeM.reg ?_);refine gH ?_;refine O.new ((rfl:ew _ _ _=some (.map (aY i64 L0 ([]:SM)),λg=>.map (some g)))) λgd h O=>?_;refine gH ?_
 conv=>whnf
 refine CodeM.seq (CodeM.draw ?_);refine gH ?_;refine⟨.inr (.inr (bw rfl O.i2 rfl rfl)),?_⟩;refine gH ?_;refine ldO (O.ext.get M.box) ?_;refine gH ?_;refine⟨.inr (.inr (bw rfl (O.ext.get M.box) rfl rfl)),?_⟩;refine gH ?_;refine atF (W:=λ_=>True) ⟨y,hy,trivial⟩ λy' hy' _=>?_;rw[hy] at hy';cases hy';refine gH ?_;refine O.oN (aj (l:=[n8 0]) rfl rfl rfl) λg6 h O=>?_;refine gH ?_;refine O.stC 1 (.head _) [n8 y.kind] λh O=>?_;refine gH ?_
 conv=>whnf
 refine CodeM.seq (CodeM.reg ?_);refine gH ?_;refine CodeM.join (nn:=83) (σ:=SM) (λd h=>IsSet d (λi=>y.kind≠0/\y.kind≠14/\jv x q n y y.ins.length i/\ev i≠w)/\∃L,Own vars h0 ((some gd,lN d)::(some g3,.cells [i64 n] false)::(some g2,.cells [.pointer (some ⟨x.gx,0,none⟩)] false)::L) h) (λd=>[(2,.pointer (some ⟨g2,0,none⟩)),(3,.pointer (some ⟨g3,0,none⟩)),(5,.map (some gd))]) rfl ?_ ?_
 .refine CodeM.seq (CodeM.reg ?_);refine gH ?_;by_cases hk0:y.kind=0
  .refine bf ?_ (congrArg L0 (by show neN y.kind 0=false;exact qS.2 hk0));refine gH ?_;refine CodeM.cond ⟨false,rfl,(λe=>nomatch e),λ_=>CodeM.skip ?_⟩;exact⟨([]:SM),⟨IsSet.nil.congr λi=>⟨Nn,λq=>q.1 hk0⟩,_,O.sel [1,2,3] (by decide)⟩,VLe.refl _ _,VLe.refl _ _,VLe.refl _ _,trivial⟩
  .refine bt ?_ (congrArg L0 (by show neN y.kind 0=true;exact dm.2 hk0));refine gH ?_;by_cases hk14:y.kind=14
   .refine CodeM.cond ⟨false,congrArg L0 (by show neN y.kind 14=false;exact qS.2 hk14),(λe=>nomatch e),λ_=>CodeM.skip ?_⟩;exact⟨([]:SM),⟨IsSet.nil.congr λi=>⟨Nn,λq=>q.2.1 hk14⟩,_,O.sel [1,2,3] (by decide)⟩,VLe.refl _ _,VLe.refl _ _,VLe.refl _ _,trivial⟩
   .refine CodeM.cond ⟨true,congrArg L0 (by show neN y.kind 14=true;exact dm.2 hk14),λ_=>?_,(λe=>nomatch e)⟩;refine CodeM.seq (CodeM.mid 2 rfl rfl ?_);refine gH ?_;refine ldO O.i3 ?_;refine gH ?_;refine MidQ.call rfl (yP (M.ext O.ext) O.has hy hl hL (λm hm=>⟨(hA hk0 hk14 m hm).1.2,(hA hk0 hk14 m hm).2⟩)) ?_;rintro v h1 ⟨g,D,rfl,sD,O2⟩;have O:=uX O O2
    conv=>whnf
    refine gH ?_;refine O.JN (ek:=i64) (ev:=L0) (m:=D) O.i0 λg31 h O=>?_;refine gH ?_
    have hm:Hv (S:=SM) D (λe d nx=>(ev e.1≠w->nx (gQ d e.1 true))/\(ev e.1=w->nx d)) [] (λd=>IsSet d (λi=>y.kind≠0/\y.kind≠14/\jv x q n y y.ins.length i/\ev i≠w)):=by
      refine qN (λseen d=>IsSet d (λi=>(∃j∈seen,∃e,D[j]?=some e/\e.1=i)/\ev i≠w)) (IsSet.nil.congr λi=>by simp) (λseen d I nd hall=>I.congr λi=>?_) λseen d i e next I hy2 hi hn=>⟨λc=>hn _ ((I.put e.1).congr λk=>?_),λc=>hn _ (I.congr λk=>?_)⟩
      · constructor
        .rintro⟨⟨j,hj,e,he,rfl⟩,c⟩;exact⟨hk0,hk14,(sD.has _).1 (jw (b:=e.2) (LS he)),c⟩
        .rintro⟨_,_,c1,c2⟩;have:=(sD.has i).2 c1
         cases hg:bY D i with
         |none=>exact absurd hg this
         |some b =>
          obtain⟨j,hj⟩:=M1 (nh hg);exact⟨⟨j,(hall j).2 (LX.1 hj).1,_,hj,rfl⟩,c2⟩
      · constructor
        .rintro (rfl|⟨⟨j,hj,z,hz,rfl⟩,c2⟩)
         .exact⟨⟨i,by simp,e,hy2,rfl⟩,c⟩
         .exact⟨⟨j,MA _ hj,z,hz,rfl⟩,c2⟩
        .rintro⟨⟨j,hj,z,hz,rfl⟩,c2⟩
         rcases MB.1 hj with hj|hj
         .exact .inr ⟨⟨j,hj,z,hz,rfl⟩,c2⟩
         .rw[Mm.1 hj,hy2] at hz
          cases hz
          exact .inl rfl
      · constructor
        .rintro⟨⟨j,hj,z,hz,rfl⟩,c2⟩;exact⟨⟨j,MA _ hj,z,hz,rfl⟩,c2⟩
        .rintro⟨⟨j,hj,z,hz,rfl⟩,c2⟩
         rcases MB.1 hj with hj|hj
         .exact⟨⟨j,hj,z,hz,rfl⟩,c2⟩
         .rw[Mm.1 hj,hy2] at hz
          cases hz
          exact absurd c c2
    refine CodeM.block ?_;refine mpM 83 [2,3,5,7,31] (σ:=SM) (λs=>s) (es:=D) (ent:=λp=>(i64 p.1,L0 p.2)) (λd seen h=>Own vars h0 [(some g31,.rng g seen D.length),(some g,lN D),(some g6,.cells [n8 y.kind] false),(some gd,lN d),(some g3,.cells [i64 n] false),(some g2,.cells [.pointer (some ⟨x.gx,0,none⟩)] false)] h) (λ_=>[]) ([]:SM) hm O (by rintro d seen h q;have O:=q;exact O.at (.head _)) (by rintro d seen h q;have O:=q;exact O.at (.tail _ (.head _))) (by rintro d seen i h q;have O:=q;exact O.upd (.head _) (Upd.upd _ (Heap.ai (O.at (.head _))))) ?_ ?_
    .clear hm;rintro d seen base h hm O;refine gXM ?_;refine bf ?_;refine gXM ?_;exact⟨d,⟨hm,_,O.sel [3,4,5] (by decide)⟩,VLe.refl _ _,VLe.refl _ _,VLe.refl _ _,trivial⟩
    .clear hm;rintro d seen i e nx base h hy2 hm O;have hD:jv x q n y y.ins.length e.1:=(sD.has _).1 (jw (b:=e.2) (LS hy2));obtain⟨f,hf⟩:=hsome hk0 hk14 e.1 hD;refine gXM ?_
     refine bt ?_;conv=>whnf
     refine CodeM.skip ?_;conv=>whnf
     refine CodeM.block (CodeM.seq (CodeM.reg ?_));refine gH ?_;refine Gq (ek:=i64) (ev:=L0) (m:=D) O (.head _) O.i1 rfl hy2 ?_;refine gH ?_;refine CodeM.seq (CodeM.draw ?_);refine gH ?_;refine⟨_,_,CR (M.ext O.ext) O.has O.i5 O.i4 O.i2 hy hf (λm hm=>(hA hk0 hk14 m hm).1) hl (hev hk0 hk14 e.1 hD),?_⟩;refine gH ?_;refine⟨.inr (.inl (Ext.refl _)),?_⟩;refine gH ?_;refine ldO O.i5 ?_;refine gH ?_;refine⟨.inr (.inr (bw rfl O.i5 rfl rfl)),?_⟩;refine gH ?_;refine ldO (O.ext.get M.box) ?_;refine gH ?_;refine⟨.inr (.inr (bw rfl (O.ext.get M.box) rfl rfl)),?_⟩;refine gH ?_;refine ldO O.i4 ?_;refine gH ?_;refine atF (W:=λ_=>True) ⟨w,hw,trivial⟩ λw' hw' _=>?_;rw[hw] at hw';cases hw';refine gH ?_;by_cases c:ev e.1=w
     · refine CodeM.cond ⟨false,congrArg L0 (by show neN (ev e.1) w=false;exact qS.2 c),(λe=>nomatch e),λ_=>CodeM.skip ?_⟩;conv=>whnf
       exact jx d (hm.2 c) O
     · refine CodeM.cond ⟨true,congrArg L0 (by show neN (ev e.1) w=true;exact dm.2 c),λ_=>CodeM.reg ?_,(λe=>nomatch e)⟩;refine gH ?_;refine O.nv (ek:=i64) (ev:=L0) (m:=d) (k:=e.1) (v:=true) (.tail _ (.tail _ (.tail _ (.head _)))) rfl rfl (by kernel_rfl) gT rfl rfl rfl λh O=>?_;refine gH ?_;exact jx (gQ d e.1 true) (hm.1 c) O
 .clear O;rintro d base h ⟨sd,L,O⟩
  conv=>whnf
  refine CodeM.seq (CodeM.seq (CodeM.draw ?_));refine gH ?_;refine⟨.inr (.inr (bw rfl O.i2 rfl rfl)),?_⟩;refine gH ?_;refine ldO (O.ext.get M.box) ?_;refine gH ?_;refine⟨.inr (.inr (bw rfl (O.ext.get M.box) rfl rfl)),?_⟩;refine gH ?_;obtain⟨ha,hs⟩:=uT (k:=nU n) (h:=h0) M.nn M.ix;refine⟨ixV ((bY x.mA (nU n)).getD (none,[])),iD (ek:=av) (ev:=ixV) (m:=x.mA) (k:=nU n) (z:=(none,[])) rfl rfl rfl (by kernel_rfl) (by kernel_rfl) (jB rfl) (O.ext.get M.at_) rfl rfl,?_⟩;refine gH ?_;refine⟨.inr (.inr (iD (ek:=av) (ev:=ixV) (m:=x.mA) (k:=nU n) (z:=(none,[])) rfl rfl rfl (by kernel_rfl) (by kernel_rfl) (jB rfl) (O.ext.get M.at_) rfl rfl)),?_⟩;refine gH ?_;have hix:=kX x.mA (nU n);generalize hv:(bY x.mA (nU n)).getD (none,[])=ar at ha hs hix;obtain⟨a,r⟩:=ar;dsimp only at ha hs hix;rw[<- hix] at hnd
  have hlr:r.length<=2^47:=by rw[hix];exact hL _
  have hwd:x.nets.getD n 0=w:=by rw[Mh,hw];rfl
  refine CodeM.block (CodeM.loop (nn:=83) (σ:=Nat×SM) (λs h'=>s.1<=r.length/\IsSet s.2 (λi=>(y.kind≠0/\y.kind≠14/\jv x q n y y.ins.length i/\ev i≠w)\/∃k,k<s.1/\r[k]?=some i/\∃f,x.l[i]?=some f/\f.value≠w)/\Own vars h0 ((some gd,lN s.2)::(some g3,.cells [i64 n] false)::(some g2,.cells [.pointer (some ⟨x.gx,0,none⟩)] false)::L) h')
   (λs=>[(2,.pointer (some ⟨g2,0,none⟩)),(3,.pointer (some ⟨g3,0,none⟩)),(5,.map (some gd)),(55,ak 1 a (r.map i64)),(56,i64 r.length),(57,i64 s.1)]) (λs=>r.length-s.1) rfl ⟨(0,d),⟨L1 _,sd.congr λi=>⟨.inl,λq=>q.elim id λ⟨k,hk,_⟩=>absurd hk (Mu _)⟩,O⟩,VLe.refl _ _,VLe.refl _ _,VLe.refl _ _,VLe.refl _ _,VLe.refl _ _,VLe.refl _ _,trivial⟩ ?_)
  clear O sd;rintro⟨t,d2⟩ base h' ⟨ht,sd,O⟩;dsimp only at ht sd O
  conv=>whnf
  refine CodeM.seq (CodeM.reg ?_);refine gH ?_;by_cases hlt2:t<r.length
  .obtain⟨v,hv2⟩:∃v,r[t]?=some v:=⟨_,LU hlt2⟩
   have hvm:v∈bS x.mA (nU n):=by rw[<- hix];exact LS hv2
   obtain⟨⟨f,hf⟩,hns⟩:=hstem v hvm
   have hnone:bY d2 v=none:=by
    cases hg:bY d2 v with
    | none=>rfl
    | some b =>
      rcases (sd.has v).1 (by rw[hg];exact λe=>by cases e) with c|⟨k,hk,e,_⟩
      · exact absurd c.2.2.1 (hns c.1 c.2.1)
      · exfalso
        have h1:k<r.length:=by omega
        have:=(List.getElem?_inj h1 hnd).1 (e.trans hv2.symm);omega
   refine CodeM.seq (CodeM.cond ⟨true,congrArg L0 (by show ltN t r.length=true;rw[bj];simp;omega),λ_=>CodeM.skip ?_,(λe=>nomatch e)⟩);conv=>whnf
   cases a with
   |none=>rw[ha rfl] at hlt2;exact absurd hlt2 (Mu _)
   |some ga =>
    have hga:=hs ga rfl;refine CodeM.seq (CodeM.block (CodeM.seq (CodeM.reg ?_)));refine gH ?_;refine ix (l:=r) (n:=(r.map i64).length) (W:=λ_=>True) 1 ⟨by rw[LZ];exact hlt2,v,hv2,trivial⟩ λ_ _ _=>?_;refine gH ?_;refine ldE (s:=1) (i:=0) (enc:=i64) (O.ext.get hga) hv2 ?_;refine gH ?_;refine CodeM.seq (CodeM.mid 2 rfl rfl ?_);refine gH ?_;refine MidQ.IN (ek:=i64) (ev:=L0) (m:=d2) (k:=v) (g:=gd) rfl rfl (by kernel_rfl) gT O.i0 rfl rfl hnone ?_
    conv=>whnf
    refine gH ?_;refine CodeM.seq (CodeM.draw ?_);refine gH ?_;refine⟨.inr (.inr (bw rfl O.i2 rfl rfl)),?_⟩;refine gH ?_;refine ldO (O.ext.get M.box) ?_;refine gH ?_;refine⟨.inr (.inr (bw rfl (O.ext.get M.box) rfl rfl)),?_⟩;refine gH ?_;refine atF (W:=λ_=>True) ⟨f,hf,trivial⟩ λf' hf' _=>?_;rw[hf] at hf';cases hf';refine gH ?_;refine⟨.inr (.inr (bw rfl O.i2 rfl rfl)),?_⟩;refine gH ?_;refine ldO (O.ext.get M.box) ?_;refine gH ?_;refine⟨.inr (.inr (bw rfl (O.ext.get M.box) rfl rfl)),?_⟩;refine gH ?_;refine atF (W:=λ_=>True) ⟨w,hw,trivial⟩ λw' hw' _=>?_;rw[hw] at hw';cases hw';refine gH ?_;by_cases c:f.value=w
    · refine CodeM.cond ⟨false,congrArg L0 (by show neN f.value w=false;exact qS.2 c),(λe=>nomatch e),λ_=>CodeM.skip ?_⟩;conv=>whnf
      refine CodeM.reg ?_;refine gH ?_;refine aJ (a:=t) (b:=1) (W:=True) ⟨by have:=hlr;omega,trivial⟩ λ_=>?_;refine gH ?_;refine⟨(t+1,d2),by show r.length-(t+1)<r.length-t;omega,⟨hlt2,sd.congr λi=>?_,O⟩,VLe.refl _ _,VLe.refl _ _,VLe.refl _ _,VLe.refl _ _,VLe.refl _ _,VLe.refl _ _,trivial⟩;refine or_congr O4 ⟨λ⟨k,hk,e⟩=>⟨k,by omega,e⟩,λ⟨k,hk,e,g,e2,e3⟩=>?_⟩;by_cases ek:k=t
      · subst ek;rw[hv2] at e;cases e;rw[hf] at e2;cases e2;exact absurd c e3
      · exact⟨k,by omega,e,g,e2,e3⟩
    · refine CodeM.cond ⟨true,congrArg L0 (by show neN f.value w=true;exact dm.2 c),λ_=>CodeM.reg ?_,(λe=>nomatch e)⟩;refine gH ?_;refine O.nv (ek:=i64) (ev:=L0) (m:=d2) (k:=v) (v:=true) (.head _) rfl rfl (by kernel_rfl) gT rfl rfl rfl λh' O=>?_;refine gH ?_
      conv=>whnf
      refine CodeM.reg ?_;refine gH ?_;refine aJ (a:=t) (b:=1) (W:=True) ⟨by have:=hlr;omega,trivial⟩ λ_=>?_;refine gH ?_;refine⟨(t+1,gQ d2 v true),by show r.length-(t+1)<r.length-t;omega,⟨hlt2,(sd.put v).congr λi=>?_,O⟩,VLe.refl _ _,VLe.refl _ _,VLe.refl _ _,VLe.refl _ _,VLe.refl _ _,VLe.refl _ _,trivial⟩;constructor
      · rintro (rfl|c2|⟨k,hk,e⟩)
        .exact .inr ⟨t,ML t,hv2,f,hf,c⟩
        .exact .inl c2
        .exact .inr ⟨k,by omega,e⟩
      · rintro (c2|⟨k,hk,e,e2⟩)
        .exact .inr (.inl c2)
        .by_cases ek:k=t
         .subst ek;rw[hv2] at e;cases e;exact .inl rfl
         .exact .inr (.inr ⟨k,by omega,e,e2⟩)
  .obtain rfl:t=r.length:=by omega
   refine CodeM.seq (CodeM.cond ⟨false,congrArg L0 (by show ltN r.length r.length=false;rw[bj];simp),(λe=>nomatch e),λ_=>CodeM.exit ?_⟩);refine gXM ?_;have O:=O.sub (L':=[(some gd,lN d2)]) (λ_ m=>by rw[Mm.1 m];exact .head _) (Pc _ _);refine⟨gd,d2,rfl,sd.congr λi=>?_,O⟩;unfold HQ;rw[hwd];refine or_congr O4 ⟨λ⟨k,hk,e,e2⟩=>⟨by rw[<- hix];exact LS e,e2⟩,λ⟨hm,e2⟩=>?_⟩;rw[<- hix] at hm;obtain⟨k,hk⟩:=M1 hm;exact⟨k,(LX.1 hk).1,hk,e2⟩
set_option maxHeartbeats 8000000
def ez(p0:Circ)(K:Bool->Prop):Prop :=
 cz p0 ([12,13]:(List Nat)) (λr1=>K (eqN r1.length 0))
theorem oi{p0:Circ}{K:Bool->Prop}(hm:ez p0 K){h0:Heap}(hB:aH vars h0):∃r,K r/\al Tryz.prog NG 117 ⟨[az p0]⟩ h0 (L0 r) h0:=by
 unfold ez at hm
 refine fw Tryz.func117 hB (enc:=L0) (λr=>aq.flat rfl) λO=>?_;conv=>whnf
 refine gX ?_;refine fz ?_;refine gX ?_;refine fz ?_;refine gH ?_;refine ca (eV hm O.has) λr1 hm=>?_;refine gX ?_;exact fe hm O
def dG(p0:Pat)(K:Bool->Prop):Prop :=
 aw (α:=Unit) (λk1=>aF (S:=Nat) (λv2 nx3=>((ltN v2 p0.inp.length)=true->∃x4,p0.inp[v2]?=some x4/\((ltN 1 x4)=true->((!(!ltN v2 0))=true->aw (α:=Unit) (λk5=>aF (S:=Nat) (λv6 nx7=>((ltN v6 p0.state.length)=true->∃x8,p0.state[v6]?=some x8/\((ltN 1 x8)=true->K (!(!ltN v6 0)))/\((ltN 1 x8)=false->v6+1<2^63/\nx7 (v6+1)))/\((ltN v6 p0.state.length)=false->k5 ())) 0) (λ_=>K (!(!ltI (Mj 0) (LQ 0)))))/\((!(!ltN v2 0))=false->K false))/\((ltN 1 x4)=false->v2+1<2^63/\nx3 (v2+1)))/\((ltN v2 p0.inp.length)=false->k1 ())) 0) (λ_=>((!(!ltI (Mj 0) (LQ 0)))=true->aw (α:=Unit) (λk9=>aF (S:=Nat) (λv10 nx11=>((ltN v10 p0.state.length)=true->∃x12,p0.state[v10]?=some x12/\((ltN 1 x12)=true->K (!(!ltN v10 0)))/\((ltN 1 x12)=false->v10+1<2^63/\nx11 (v10+1)))/\((ltN v10 p0.state.length)=false->k9 ())) 0) (λ_=>K (!(!ltI (Mj 0) (LQ 0)))))/\((!(!ltI (Mj 0) (LQ 0)))=false->K false))
theorem oZ{p0:Pat}{K:Bool->Prop}(hm:dG p0 K){h0:Heap}(hB:aH vars h0):∃r,K r/\al Tryz.prog NG 118 ⟨[aE p0]⟩ h0 (L0 r) h0:=by
 unfold dG at hm
 refine fw Tryz.func118 hB (enc:=L0) (λr=>aq.flat rfl) λO=>?_;conv=>whnf
 refine gX ?_;refine fz ?_;refine gX ?_;refine fg Tryz.func78 ?_;refine gX ?_
 refine fg Tryz.func124 ?_;conv=>whnf
 apply Cs;conv=>whnf
 apply Cs;refine gH ?_;refine jn hm 19 [] (λs=>s) (λ_ h=>Own vars h0 [] h) (λ_=>[]) (λhm=>?_) ?_
 .refine gX ?_;refine lw 19 [0,1,7] (σ:=Nat) (λs=>s) (λv2 h=>Own vars h0 [] h) (λv2=>[(8,(i64 v2))]) 0 hm O ?_;clear hm;rintro v2 nx3 base h hm O;refine gX ?_;refine br hm (λhm=>?_) λhm=>?_
  .refine gX ?_;refine atF hm λx4 hx4 hm=>?_;refine gH ?_;refine fg Tryz.func155 ?_;refine gX ?_;refine br hm (λhm=>?_) λhm=>?_
   .refine gX ?_;refine br hm (λhm=>?_) λhm=>?_
    .refine gX ?_;refine fg Tryz.func78 ?_;refine gX ?_
     refine fg Tryz.func124 ?_;conv=>whnf
     apply Cs;conv=>whnf
     apply Cs;refine gH ?_;refine jn hm 19 [] (λs=>s) (λ_ h=>Own vars h0 [] h) (λ_=>[]) (λhm=>?_) ?_
     .refine gX ?_;refine lw 19 [0,1,7] (σ:=Nat) (λs=>s) (λv6 h=>Own vars h0 [] h) (λv6=>[(8,(i64 v6))]) 0 hm O ?_;clear hm;rintro v6 nx7 base h hm O;refine gX ?_;refine br hm (λhm=>?_) λhm=>?_
      .refine gX ?_;refine atF hm λx8 hx8 hm=>?_;refine gH ?_;refine fg Tryz.func155 ?_;refine gX ?_;refine br hm (λhm=>?_) λhm=>?_
       .refine gX ?_;exact fe hm O
       .refine gX ?_;refine aJ hm λhm=>?_;refine gH ?_;exact jx (v6+1) hm O
      .refine gX ?_;exact jx () hm O
     .clear hm;rintro _ base h hm O;refine gX ?_;exact fe hm O
    .refine gX ?_;exact fe hm O
   .refine gX ?_;refine aJ hm λhm=>?_;refine gH ?_;exact jx (v2+1) hm O
  .refine gX ?_;exact jx () hm O
 .clear hm;rintro _ base h hm O;refine gX ?_;refine br hm (λhm=>?_) λhm=>?_
  .refine gX ?_;refine fg Tryz.func78 ?_;refine gX ?_
   refine fg Tryz.func124 ?_;conv=>whnf
   apply Cs;conv=>whnf
   apply Cs;refine gH ?_;refine jn hm 19 [] (λs=>s) (λ_ h=>Own vars h0 [] h) (λ_=>[]) (λhm=>?_) ?_
   .refine gX ?_;refine lw 19 [0,1,7] (σ:=Nat) (λs=>s) (λv10 h=>Own vars h0 [] h) (λv10=>[(8,(i64 v10))]) 0 hm O ?_;clear hm;rintro v10 nx11 base h hm O;refine gX ?_;refine br hm (λhm=>?_) λhm=>?_
    .refine gX ?_;refine atF hm λx12 hx12 hm=>?_;refine gH ?_;refine fg Tryz.func155 ?_;refine gX ?_;refine br hm (λhm=>?_) λhm=>?_
     .refine gX ?_;exact fe hm O
     .refine gX ?_;refine aJ hm λhm=>?_;refine gH ?_;exact jx (v10+1) hm O
    .refine gX ?_;exact jx () hm O
   .clear hm;rintro _ base h hm O;refine gX ?_;exact fe hm O
  .refine gX ?_;exact fe hm O
def cE(p0:Circ)(p1:(List Flt))(p2:Pat)(K:Nat->Prop):Prop :=
 aw (α:=Bool) (λk2=>((ltN 65536 p1.length)=true->k2 true)/\((ltN 65536 p1.length)=false->p0.nodes.length*p1.length<2^63/\k2 (ltN 1048576 (p0.nodes.length*p1.length)))) (λv1=>(v1=true->K 3)/\(v1=false->cm p0 (λr3=>((neN r3.2 0)=true->K r3.2)/\((neN r3.2 0)=false->ez p0 (λr4=>((!r4)=true->K 7)/\((!r4)=false->aw (α:=Unit) (λk5=>aF (S:=Nat) (λv6 nx7=>((ltN v6 p1.length)=true->∃x8,p1[v6]?=some x8/\cG p0 x8 (λr11=>((neN r11 0)=true->K r11)/\((neN r11 0)=false->((neN x8.model 0)=true->K 7)/\((neN x8.model 0)=false->v6+1<2^63/\nx7 (v6+1)))))/\((ltN v6 p1.length)=false->k5 ())) 0) (λ_=>ee p0 p2 (λr12=>((neN r12 0)=true->K r12)/\((neN r12 0)=false->dG p2 (λr13=>((!r13)=true->K 1)/\((!r13)=false->K 0)))))))))))
theorem og{p0:Circ}{p1:(List Flt)}{p2:Pat}{K:Nat->Prop}(hm:cE p0 p1 p2 K){h0:Heap}(hB:aH vars h0):∃r,K r/\al Tryz.prog NG 68 ⟨[az p0,(ae 5 ay) p1,aE p2]⟩ h0 (i64 r) h0:=by
 unfold cE at hm
 refine fw Tryz.func68 hB (enc:=i64) (λr=>aq.flat rfl) λO=>?_;conv=>whnf
 refine gX ?_;refine fz ?_;refine gH ?_;refine fz ?_;refine gH ?_
 apply Cs;conv=>whnf
 refine jn hm 61 [1,3,5] (λs=>s) (λv1 h=>Own vars h0 [] h) (λv1=>[(24,(.bool v1))]) (λhm=>?_) ?_
 .refine gX ?_;refine br hm (λhm=>?_) λhm=>?_
  .refine gX ?_;exact jx true hm O
  .refine gX ?_;refine IU hm λhm=>?_;refine gH ?_;exact jx (ltN 1048576 (p0.nodes.length*p1.length)) hm O
 .clear hm;rintro v1 base h hm O;refine gX ?_;refine br hm (λhm=>?_) λhm=>?_
  .refine gX ?_;exact fe hm O
  .refine gX ?_;refine ca (fM hm O.has) λr3 hm=>?_;refine gX ?_;refine br hm (λhm=>?_) λhm=>?_
   .refine gX ?_;exact fe hm O
   .refine gX ?_;refine ca (oi hm O.has) λr4 hm=>?_;refine gX ?_;refine br hm (λhm=>?_) λhm=>?_
    .refine gX ?_;exact fe hm O
    .apply Cs;conv=>whnf
     refine jn hm 61 [3,5] (λs=>s) (λ_ h=>Own vars h0 [] h) (λ_=>[]) (λhm=>?_) ?_
     .refine gX ?_;refine lw 61 [3,5,36,37] (σ:=Nat) (λs=>s) (λv6 h=>Own vars h0 [] h) (λv6=>[(38,(i64 v6))]) 0 hm O ?_;clear hm;rintro v6 nx7 base h hm O;refine gX ?_;refine br hm (λhm=>?_) λhm=>?_
      .refine gX ?_;refine atF hm λx8 hx8 hm=>?_;refine gH ?_;refine O.new (aj (l:=[(n8 0),(i64 0),(z64 0),(n8 0),(i64 0)]) rfl rfl rfl) λg9 h O=>?_;refine gH ?_;refine O.stC 5 (.head _) [(n8 x8.model),(i64 x8.line.node),(z64 x8.line.pin),(n8 x8.value),(i64 x8.other)] λh O=>?_;refine gX ?_;refine ldA O.i0 ?_;refine gH ?_;refine ca (fJ hm O.has) λr11 hm=>?_;refine gX ?_;refine br hm (λhm=>?_) λhm=>?_
       .refine gX ?_;exact fe hm O
       .refine gX ?_;refine br hm (λhm=>?_) λhm=>?_
        .refine gX ?_;exact fe hm O
        .refine gX ?_;refine aJ hm λhm=>?_;refine gH ?_;exact jx (v6+1) hm (O.sel [] (by decide))
      .refine gX ?_;exact jx () hm O
     .clear hm;rintro _ base h hm O;refine gX ?_;refine ca (kD hm O.has) λr12 hm=>?_;refine gX ?_;refine br hm (λhm=>?_) λhm=>?_
      .refine gX ?_;exact fe hm O
      .refine gX ?_;refine ca (oZ hm O.has) λr13 hm=>?_;refine gX ?_;refine br hm (λhm=>?_) λhm=>?_
       .refine gX ?_;exact fe hm O
       .refine gX ?_;exact fe hm O
set_option maxHeartbeats 8000000
def yB(n h:Nat):Nat:=if n<64 then aK h (cH 1 n-1) else h
theorem HR{x:Eng}{l:List Flt}{ts:List Pat}{G:Nat->Nat->Prop}(hm:gY ts x.ins.length λpi=>gZ ts x.state.length λps=>bh x pi ps λgd=>∀(k:Nat) (f:Flt),l[k]?=some f->bH x f gd.1 λy=>bh y pi ps λbd=>bP gd.2 bd.2 λh=>G k (yB ts.length h))
  (ht:ts.length<=64) {h0 h:Heap} {S:List Slot} {A:List (Option Nat)} {R:List (List Nat)} {g9 gi go:Nat} (hl:l.length<2^60) (ok:RowsOk A R) (hn:l.length=R.length) (hR:∀k,k<l.length->R[k]?=some [0]) (m9:(some g9,.cells [.slice (some ⟨go,0,none⟩) l.length l.length] false)∈S) (mi:(some gi,.cells [(i64 0)] false)∈S) (mo:(some go,.cells (aP 1 n64 A R) false)∈S)
  (O:Own vars h0 (S++aS n64 A R) h) :
  ∃u h',al Tryz.prog NG 99 ⟨[eg x,ae 5 ay l,ae 2 aE ts,.func (.func 100) ⟨[]⟩ ⟨[.pointer (some ⟨g9,0,none⟩),.pointer (some ⟨gi,0,none⟩)]⟩]⟩ h u h'/\∃(_u:Unit) (R':List (List Nat)),u=.tuple ⟨[]⟩/\R'.length=l.length/\(∀k,k<l.length->∃v,R'[k]?=some [v]/\G k v)/\aP 1 n64 A R'=aP 1 n64 A R/\RowsOk A R'/\Own vars h0 (S++aS n64 A R') h':=by
 refine fg Tryz.func99 ?_;refine gX ?_;refine fz ?_;refine gX ?_;refine ca (vQ hm O.has) λpi hm=>?_;refine gX ?_;refine ca (wQ hm O.has) λps hm=>?_;refine gX ?_;refine ca (dL hm O.has) λgd hm=>?_;refine gX ?_;refine lM hM (nn:=68) (by kernel_rfl) (σ:=Nat×List (List Nat)) (λs h=>s.1<=l.length/\s.2.length=l.length/\(∀k,k<s.1->∃v,s.2[k]?=some [v]/\G k v)/\(∀k,s.1<=k->k<l.length->s.2[k]?=some [0])/\aP 1 n64 A s.2=aP 1 n64 A R/\RowsOk A s.2/\Own vars h0 (S++aS n64 A s.2) h)
  (λs=>[(1,ae 5 ay l),(2,ae 2 aE ts),(3,.func (.func 100) ⟨[]⟩ ⟨[.pointer (some ⟨g9,0,none⟩),.pointer (some ⟨gi,0,none⟩)]⟩),(4,FP (eg x)),(8,ae 2 an pi),(9,ae 2 an ps),(10,ae 2 an gd.1),(11,ae 2 an gd.2),(34,i64 l.length),(35,i64 s.1)]) (λs=>l.length-s.1) rfl
  ⟨(0,R),⟨L1 _,hn.symm,λk hk=>absurd hk (Mu _),λk _ hk=>hR k hk,rfl,ok,O⟩,rfl,rfl,rfl,rfl,rfl,rfl,rfl,rfl,rfl,rfl,trivial⟩ ?_
 clear O ok;rintro⟨j,R1⟩ base h ⟨hj,hlen,hdone,htodo,hrv,ok,O⟩;dsimp only at hj hlen hdone htodo hrv ok O;refine gX ?_;by_cases hlt:j<l.length
 .refine bt ?_ (congrArg L0 (by show ltN j l.length=true;rw[bj];simp;omega));conv=>whnf
  obtain⟨f,hf⟩:∃f,l[j]?=some f:=⟨_,LU hlt⟩;have hmj:=hm j f hf
  apply Cs;conv=>whnf
  apply Cs;conv=>whnf
  apply Cs;conv=>whnf
  apply Cs;conv=>whnf
  apply Cs;refine gH ?_
  apply Cs;conv=>whnf
  refine CodeS.mV ?_;refine gH ?_;refine atF (W:=λ_=>True) ⟨f,hf,trivial⟩ λf' hf' _=>?_;rw[hf] at hf';cases hf';refine gH ?_;refine ca (kP hmj O.has) λy hmj=>?_;refine gH ?_;refine ca (dL hmj O.has) λbd hmj=>?_;refine gX ?_;refine ca (jb hmj O.has) λhits hmj=>?_;refine gX ?_
  have step:∀v,G j v->(∀k,k<j+1->∃w,(R1.set j [v])[k]?=some [w]/\G k w)/\(∀k,j+1<=k->k<l.length->(R1.set j [v])[k]?=some [0])/\aP 1 n64 A (R1.set j [v])=aP 1 n64 A R:=by
   intro v hv;refine⟨λk hk=>?_,λk hk hk2=>?_,by rw[Ae (htodo j (LV _) hlt)];exact hrv⟩
   .by_cases e:k=j
    .subst e;exact⟨v,by rw[Mp,if_pos rfl,if_pos (by omega)],hv⟩
    .rw[Mp,if_neg (NU e)];exact hdone k (by omega)
   .rw[Mp,if_neg (by omega)];exact htodo k (by omega) hk2
  by_cases hk:ts.length<64
  .have hv:G j (aK hits (cH 1 ts.length-1)):=by rw[yB,if_pos hk] at hmj;exact hmj
   refine bt ?_ (congrArg L0 (by show ltN ts.length 64=true;rw[bj];simp;omega));refine gX ?_;refine JD (a:=1) (b:=ts.length) (W:=True) ⟨by omega,trivial⟩ λ_=>?_;refine gH ?_;refine KD (a:=cH 1 ts.length) (b:=1) (Bl hk).1 (Bl hk).2 ?_;refine gH ?_;refine jt (a:=hits) (b:=cH 1 ts.length-1) ?_;refine gX ?_;obtain⟨_,h2,cd,_,rfl,ok2,O2⟩:=DM (n:=l.length) (v:=aK hits (cH 1 ts.length-1)) ok (htodo j (LV _) hlt) hlen.symm m9 mi (by rw[hrv];exact mo) O;refine⟨_,_,cd,?_⟩;refine gX ?_;refine aJ (a:=j) (b:=1) (W:=True) ⟨by omega,trivial⟩ λ_=>?_;refine gX ?_;exact⟨(j+1,R1.set j [aK hits (cH 1 ts.length-1)]),by show l.length-(j+1)<l.length-j;omega,⟨hlt,by rw[Nj];exact hlen,(step _ hv).1,(step _ hv).2.1,(step _ hv).2.2,ok2,O2⟩,rfl,rfl,rfl,rfl,rfl,rfl,rfl,rfl,rfl,rfl,trivial⟩
  .have hv:G j hits:=by rw[yB,if_neg hk] at hmj;exact hmj
   refine bf ?_ (congrArg L0 (by show ltN ts.length 64=false;rw[bj];simp;omega));refine gX ?_;obtain⟨_,h2,cd,_,rfl,ok2,O2⟩:=DM (n:=l.length) (v:=hits) ok (htodo j (LV _) hlt) hlen.symm m9 mi (by rw[hrv];exact mo) O;refine⟨_,_,cd,?_⟩;refine gX ?_;refine aJ (a:=j) (b:=1) (W:=True) ⟨by omega,trivial⟩ λ_=>?_;refine gX ?_;exact⟨(j+1,R1.set j [hits]),by show l.length-(j+1)<l.length-j;omega,⟨hlt,by rw[Nj];exact hlen,(step _ hv).1,(step _ hv).2.1,(step _ hv).2.2,ok2,O2⟩,rfl,rfl,rfl,rfl,rfl,rfl,rfl,rfl,rfl,rfl,trivial⟩
 .refine bf ?_ (congrArg L0 (by show ltN j l.length=false;rw[bj];simp;omega));refine gX ?_;exact⟨(),R1,rfl,hlen,λk hk=>hdone k (by omega),hrv,ok,O⟩
set_option maxHeartbeats 8000000
theorem BV{c:Circ}{l:List Flt}{ts:List Pat}{G:Nat->Nat->Prop}(hc:cr c l ts (λe=>e=0))(hord:cp c λx=>gY ts x.ins.length λpi=>gZ ts x.state.length λps=>bh x pi ps λgd=>∀(k:Nat) (f:Flt),l[k]?=some f->bH x f gd.1 λy=>bh y pi ps λbd=>bP gd.2 bd.2 λh=>G k (yB ts.length h))(hl:l.length<=65536)(ht:0<ts.length)(ht2:ts.length<=64){h0:Heap}(hB:aH vars h0) :
  ∃r:List (List Nat),(r.length=l.length/\∀k,k<l.length->∃v,r[k]?=some [v]/\G k v)/\al Tryz.prog NG 46 ⟨[az c,ae 5 ay l,ae 2 aE ts]⟩ h0 ((λ(r:List (List Nat))=>MD ⟨[ae 1 (ae 1 n64) r,i64 0]⟩) r) h0:=by
 refine fw Tryz.func46 hB (enc:=λ(r:List (List Nat))=>MD ⟨[ae 1 (ae 1 n64) r,i64 0]⟩) (λr=>aq.tup (ag.cons (cg λ_=>ag.cons (cg λ_=>ag.cons (aq.flat rfl) ag.nil) ag.nil) (ag.cons (aq.flat rfl) ag.nil))) λO=>?_;conv=>whnf
 refine gX ?_;refine fz ?_;refine gX ?_;refine ca (gE hc O.has) λe1 hm1=>?_;obtain rfl:e1=0:=hm1;refine gX ?_;refine bf ?_;refine gX ?_;refine O.Ar (b:=24) n64 1 rfl rfl rfl rfl rfl rfl (by omega) (by omega) λgo h O=>?_;refine gH ?_;refine O.new (aj (l:=[(.slice none 0 0)]) rfl rfl rfl) λg9 h O=>?_;refine gH ?_;refine O.stC 1 (.head _) [.slice (some ⟨go,0,none⟩) l.length l.length] λh O=>?_;refine gX ?_;refine lM hM (nn:=60) (by kernel_rfl) (σ:=Nat×List (Option Nat)) (λs h=>s.1<=l.length/\RowsOk s.2 (ia l.length s.1)/\Own vars h0 ([(some g9,.cells [.slice (some ⟨go,0,none⟩) l.length l.length] false),(some go,.cells (aP 1 n64 s.2 (ia l.length s.1)) false)]++aS n64 s.2 (ia l.length s.1)) h)
  (λs=>[(1,ae 5 ay l),(2,ae 2 aE ts),(3,FP (az c)),(9,.pointer (some ⟨g9,0,none⟩)),(24,i64 l.length),(25,i64 s.1)]) (λs=>l.length-s.1) rfl ⟨(0,LY l.length none),⟨L1 _,BH,O⟩,rfl,rfl,rfl,rfl,rfl,rfl,trivial⟩ ?_
 clear O;rintro⟨j,A⟩ base h ⟨hj,ok,O⟩;dsimp only at hj ok O;refine gX ?_;by_cases hlt:j<l.length
 .refine bt ?_ (congrArg L0 (by show ltN j l.length=true;rw[bj];simp;omega));conv=>whnf
  apply Cs;conv=>whnf
  apply Cs;conv=>whnf
  apply Cs;conv=>whnf
  apply Cs;conv=>whnf
  apply Cs;refine gH ?_;refine CodeS.sc ?_;refine gH ?_;refine⟨.inr (.inr (bw rfl O.i0 rfl rfl)),?_⟩;refine gH ?_;refine aJ (a:=ts.length) (b:=64) (W:=True) ⟨by omega,trivial⟩ λ_=>?_;refine gH ?_;refine vt (a:=ts.length+64) (b:=1) (W:=True) ⟨by omega,by omega,trivial⟩ λ_=>?_;refine gH ?_;refine Ff (a:=ts.length+64-1) (b:=64) (W:=True) ⟨by decide,by omega,trivial⟩ λ_=>?_;refine gH ?_
  have hq:(ts.length+64-1)/64=1:=by omega
  refine O.xa (enc:=n64) (z:=0) (b:=8) (s:=1) (n:=(ts.length+64-1)/64) rfl rfl rfl rfl rfl (by decide) (by kernel_rfl) rfl rfl (by omega) (by omega) λgr h O=>?_;refine gH ?_;rw[hq] at O;refine cb (s:=1) (j:=j) rfl rfl rfl rfl hlt ?_;refine gH ?_
  have hvl:(aP 1 n64 A (ia l.length j)).length=l.length:=by unfold aP;rw[PD,ok.len,R2,sU hj]
  refine O.store (n:=1) (cs':=bJ (aP 1 n64 A (ia l.length j)) (0+j*1) [.slice (some ⟨gr,0,none⟩) ((ts.length+64-1)/64) ((ts.length+64-1)/64)]) (.tail _ (.tail _ (.head _))) rfl rfl rfl rfl (by omega) rfl rfl λh O=>?_
  conv=>whnf
  refine⟨.inl (by kernel_rfl),?_⟩;refine gH ?_;rw[K9 (by omega),hq] at O;refine CodeS.Ab (cs':=(aP 1 n64 A (ia l.length j)).set j (ak 1 (some gr) ([0].map n64))) O (.tail _ (.tail _ (.head _))) (t2:=28) rfl rfl (LLe.set (O.C3 (l:=[0]) (enc:=n64) (s:=1) (n:=1) (.head _) (λ_=>rfl) rfl (ML 0))) λh O=>?_;rw[<- lW ok.len,yf hlt] at O
  have hA:A.set j none=A:=by
   have hrj:=yU hlt
   have haj:A[j]?=some none:=by
    have h1:j<A.length:=by have:=ok.len;rw[sU hj] at this;omega
    have h2:=ok.nil j [] A[j] hrj (LU h1);rw[LU h1,h2.2 rfl]
   apply MH;intro i;rw[Mp];by_cases e:j=i
   .subst e;rw[if_pos rfl,haj];split
    .rfl
    .rename_i hh;rw[Mk (by omega)] at haj;cases haj
   .rw[if_neg e]
  have O2:Own vars h0 ((some gr,.cells (ah (([0]:List Nat).map n64)) false)::([(some g9,.cells [.slice (some ⟨go,0,none⟩) l.length l.length] false),(some go,.cells (aP 1 n64 (A.set j (some gr)) (ia l.length (j+1))) false)]++aS n64 (A.set j none) (ia l.length j))) h:=by rw[hA];exact O
  have O3:=O2.uW (yU hlt) ok;have ok3:=xw ok (j:=j) (g:=gr) (v:=0);rw[yf hlt] at O3 ok3;refine gX ?_;refine aJ (a:=j) (b:=1) (W:=True) ⟨by omega,trivial⟩ λ_=>?_;refine gX ?_;exact⟨(j+1,A.set j (some gr)),by show l.length-(j+1)<l.length-j;omega,⟨hlt,ok3,O3⟩,rfl,rfl,rfl,rfl,rfl,rfl,trivial⟩
 .obtain rfl:j=l.length:=by omega
  refine bf ?_ (congrArg L0 (by show ltN l.length l.length=false;rw[bj];simp));refine gX ?_;refine ca (fV hord O.has) λx hx=>?_;refine gH ?_;refine O.new (aj (l:=[(.slice none 0 0),(.slice none 0 0),(.slice none 0 0),(.slice none 0 0),(.slice none 0 0),(.slice none 0 0),(.slice none 0 0),.nilFunc,.nilFunc]) rfl rfl rfl) λgx h O=>?_;refine gH ?_;refine O.stC 9 (.head _) [((ae 4 au) x.circ.nodes),((ae 1 L5) x.circ.names),((ae 3 bc) x.circ.mems),((ae 1 i64) x.circ.outs),((ae 1 i64) x.order),((ae 1 i64) x.ins),((ae 1 i64) x.state),(fP x.net),(ff x.pin)] λh O=>?_;refine gX ?_;refine O.new (aj (l:=[(i64 0)]) rfl rfl rfl) λgi h O=>?_;refine gH ?_;refine O.stC 1 (.head _) [(i64 0)] λh O=>?_;refine gX ?_;refine lM hM (nn:=60) (by kernel_rfl) (σ:=Nat×Nat×List (List Nat)) (λs h=>(s.1=0/\s.2.2=ia l.length l.length\/s.1=64/\s.2.2.length=l.length/\∀k,k<l.length->∃v,s.2.2[k]?=some [v]/\G k v)/\RowsOk A s.2.2/\Own vars h0 ([(some s.2.1,.cells [(i64 s.1)] false),(some gx,.cells [((ae 4 au) x.circ.nodes),((ae 1 L5) x.circ.names),((ae 3 bc) x.circ.mems),((ae 1 i64) x.circ.outs),((ae 1 i64) x.order),((ae 1 i64) x.ins),((ae 1 i64) x.state),(fP x.net),(ff x.pin)] false),(some g9,.cells [.slice (some ⟨go,0,none⟩) l.length l.length] false),(some go,.cells (aP 1 n64 A s.2.2) false)]++aS n64 A s.2.2) h)
   (λs=>[(1,ae 5 ay l),(2,ae 2 aE ts),(9,.pointer (some ⟨g9,0,none⟩)),(11,.pointer (some ⟨gx,0,none⟩)),(12,.pointer (some ⟨s.2.1,0,none⟩))]) (λs=>64-s.1) rfl ⟨(0,gi,ia l.length l.length),⟨.inl ⟨rfl,rfl⟩,ok,O⟩,rfl,rfl,rfl,rfl,rfl,trivial⟩ ?_
  clear O ok;rintro⟨from_,gi,R⟩ base h ⟨hfr,ok,O⟩;dsimp only at hfr ok O;refine gX ?_
  rcases hfr with⟨rfl,rfl⟩|⟨rfl,hR,hG⟩
  .refine bt ?_ (congrArg L0 (by show ltN 0 ts.length=true;rw[bj];simp;omega));conv=>whnf
   apply Cs;conv=>whnf
   apply Cs;conv=>whnf
   apply Cs;conv=>whnf
   refine CodeS.sc ?_;refine gH ?_;refine ldA (l:=[((ae 4 au) x.circ.nodes),((ae 1 L5) x.circ.names),((ae 3 bc) x.circ.mems),((ae 1 i64) x.circ.outs),((ae 1 i64) x.order),((ae 1 i64) x.ins),((ae 1 i64) x.state),(fP x.net),(ff x.pin)]) O.i1 ?_;refine gH ?_;refine⟨.inr (.inr (aM (l:=[((ae 4 au) x.circ.nodes),((ae 1 L5) x.circ.names),((ae 3 bc) x.circ.mems),((ae 1 i64) x.circ.outs),((ae 1 i64) x.order),((ae 1 i64) x.ins),((ae 1 i64) x.state),(fP x.net),(ff x.pin)]) rfl O.i1 rfl rfl (lbE rfl) rfl)),?_⟩;refine gH ?_;refine aJ (a:=0) (b:=64) (W:=True) ⟨by decide,trivial⟩ λ_=>?_;refine gH ?_;refine⟨_,H5 (a:=0+64) (b:=ts.length) rfl rfl,?_⟩;refine gH ?_;refine HF (s:=2) (enc:=aE) (l:=ts) (i:=0) (j:=min (0+64) ts.length) (L1 _) (O8 _ _) ?_;refine gH ?_
   have hts:List.drop 0 (List.take (min (0+64) ts.length) ts)=ts:=by rw[M0,Mc (by omega)]
   have hR0:∀k,k<l.length->(ia l.length l.length)[k]?=some [0]:=λk hk=>by
    unfold ia;rw[Mb (by simpa using hk),Mt,if_pos hk]
   obtain⟨_,h2,cd,_,R',rfl,hl',hG',hrv',ok',O⟩:=HR (g9:=g9) (gi:=gi) (go:=go) hx ht2 (by omega) ok (sU (LV _)).symm hR0 (.tail _ (.tail _ (.head _))) (.head _) (.tail _ (.tail _ (.tail _ (.head _)))) O;rw[<- hts] at cd;rw[<- hrv'] at O;refine⟨_,_,cd,?_⟩
   conv=>whnf
   refine⟨.inl (by kernel_rfl),?_⟩;refine gX ?_;refine O.new (aj (l:=[(i64 0)]) rfl rfl rfl) λg2 h O=>?_;refine gH ?_;refine O.stC 1 (.head _) [(i64 0)] λh O=>?_;refine gX ?_;refine aJ (a:=0) (b:=64) (W:=True) ⟨by decide,trivial⟩ λ_=>?_;refine gX ?_;refine O.stC 1 (.head _) [(i64 64)] λh O=>?_;refine gX ?_;exact⟨(64,g2,R'),(by show 64-64<64-0;decide),⟨.inr ⟨rfl,hl',hG'⟩,ok',O.Gc [_,_,_,_,_] [0,2,3,4] (by decide)⟩,rfl,rfl,rfl,rfl,rfl,trivial⟩
  .refine bf ?_ (congrArg L0 (by show ltN 64 ts.length=false;rw[bj];simp;omega));refine gX ?_;exact⟨R,⟨hR,hG⟩,O.ext,λh2 F=>VLe.tup (LLe.cons (O.FO F (LV _) (.tail _ (.tail _ (.tail _ (.head _)))) ok (λ_=>rfl) hR.symm) (LLe.cons (VLe.refl _ _) (LLe.nil _)))⟩
end Go.Proofs.YtglgdkineobbeaaGreatDoor
