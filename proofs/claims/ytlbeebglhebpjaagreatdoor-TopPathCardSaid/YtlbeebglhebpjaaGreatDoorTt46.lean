/-
  S2, J0, J1, Tm: parts of the proof.
-/
import Derived.Test.YtlbeebglhebpjaaGreatDoorTt45
namespace Go.Proofs.YtlbeebglhebpjaaGreatDoor
open Go.Abs
set_option maxRecDepth 100000
set_option maxHeartbeats 8000000
def bJ (p0:CData) (K:Circ->Prop):Prop :=
 gD (⟨p0.inp,p0.dffs,p0.data0,p0.data1,p0.bus,false,p0.port0,p0.port1,p0.port2,p0.port3,p0.gates,p0.outs⟩:CData) (fun r5=>K r5)
theorem gP {p0:CData}{K:Circ->Prop} (hm:bJ p0 K) {h0:Heap} (hB:HasB vars h0):∃ r,K r/\CallD Tryz.prog NG 13 ⟨[tM p0]⟩ h0 (ax r) h0:=by
 unfold bJ at hm
 refine fw Tryz.func13 hB (enc:=ax) (fun r=>jq _) fun O=>?_;conv=>whnf
 refine gX ?_
 (first|refine O.new (jo rfl) fun g1 h O=>?_|refine O.bF (jo rfl) fun g1 h O=>?_);refine gH ?_
 (first|refine O.new (ai (l:=[(.slice none 0 0),(.slice none 0 0),(.slice none 0 0),(.slice none 0 0)]) rfl rfl rfl) fun g3 h O=>?_|refine O.bF (ai (l:=[(.slice none 0 0),(.slice none 0 0),(.slice none 0 0),(.slice none 0 0)]) rfl rfl rfl) fun g3 h O=>?_);refine gH ?_
 refine gX ?_
 refine O.stC 1 (.tail _ (.head _)) [(n8 p0.inp),(n8 p0.dffs),(n8 p0.data0),(n8 p0.data1),(.bool p0.bus),(.bool false),(n8 p0.port0),(n8 p0.port1),(n8 p0.port2),(n8 p0.port3),((ah 4 vY) p0.gates),((ah 1 n8) p0.outs)] fun h O=>?_;refine gX ?_
 refine ldA (O.at (.tail _ (.head _))) ?_;refine gH ?_
 refine ca (sb hm O.has) fun r5 hm=>?_;refine gH ?_
 refine O.stC 4 (.head _) [((ah 4 an) r5.nodes),((ah 1 Value.string) r5.names),((ah 3 ay) r5.mems),((ah 1 i64) r5.outs)] fun h O=>?_;refine gX ?_
 refine⟨_,aL rfl rfl (O.at (.head _)) rfl rfl (lbE rfl) rfl,?_⟩;conv=>whnf
 exact fe hm O
def cf (p0:CData) (K:Circ->Prop):Prop :=
 bJ (⟨p0.inp,p0.dffs,p0.data0,p0.data1,false,p0.mem,p0.port0,p0.port1,p0.port2,p0.port3,p0.gates,p0.outs⟩:CData) (fun r5=>K r5)
theorem iD {p0:CData}{K:Circ->Prop} (hm:cf p0 K) {h0:Heap} (hB:HasB vars h0):∃ r,K r/\CallD Tryz.prog NG 4 ⟨[tM p0]⟩ h0 (ax r) h0:=by
 unfold cf at hm
 refine fw Tryz.func4 hB (enc:=ax) (fun r=>jq _) fun O=>?_;conv=>whnf
 refine gX ?_
 (first|refine O.new (jo rfl) fun g1 h O=>?_|refine O.bF (jo rfl) fun g1 h O=>?_);refine gH ?_
 (first|refine O.new (ai (l:=[(.slice none 0 0),(.slice none 0 0),(.slice none 0 0),(.slice none 0 0)]) rfl rfl rfl) fun g3 h O=>?_|refine O.bF (ai (l:=[(.slice none 0 0),(.slice none 0 0),(.slice none 0 0),(.slice none 0 0)]) rfl rfl rfl) fun g3 h O=>?_);refine gH ?_
 refine gX ?_
 refine O.stC 1 (.tail _ (.head _)) [(n8 p0.inp),(n8 p0.dffs),(n8 p0.data0),(n8 p0.data1),(.bool false),(.bool p0.mem),(n8 p0.port0),(n8 p0.port1),(n8 p0.port2),(n8 p0.port3),((ah 4 vY) p0.gates),((ah 1 n8) p0.outs)] fun h O=>?_;refine gX ?_
 refine ldA (O.at (.tail _ (.head _))) ?_;refine gH ?_
 refine ca (gP hm O.has) fun r5 hm=>?_;refine gH ?_
 refine O.stC 4 (.head _) [((ah 4 an) r5.nodes),((ah 1 Value.string) r5.names),((ah 3 ay) r5.mems),((ah 1 i64) r5.outs)] fun h O=>?_;refine gX ?_
 refine⟨_,aL rfl rfl (O.at (.head _)) rfl rfl (lbE rfl) rfl,?_⟩;conv=>whnf
 exact fe hm O
def bC (p0:Circ) (K:(List Nat)->Prop):Prop :=
 cw p0 ([0]:(List Nat)) (fun r1=>K r1)
theorem dK {p0:Circ}{K:(List Nat)->Prop} (hm:bC p0 K) {h0:Heap} (hB:HasB vars h0):∃ r,K r/\CallD Tryz.prog NG 48 ⟨[ax p0]⟩ h0 ((ah 1 i64) r) h0:=by
 unfold bC at hm
 refine fw Tryz.func48 hB (enc:=(ah 1 i64)) (fun r=>cb (fun _=>ag.cons (PureV.flat rfl) ag.nil)) fun O=>?_;conv=>whnf
 refine gX ?_
 refine fz ?_;refine gX ?_
 refine fz ?_;refine gH ?_
 refine ca (gg hm O.has) fun r1 hm=>?_;refine gX ?_
 exact fe hm O
def aV (p0:Circ) (K:(List Nat)->Prop):Prop :=
 cw p0 ([14]:(List Nat)) (fun r1=>K r1)
theorem bX {p0:Circ}{K:(List Nat)->Prop} (hm:aV p0 K) {h0:Heap} (hB:HasB vars h0):∃ r,K r/\CallD Tryz.prog NG 45 ⟨[ax p0]⟩ h0 ((ah 1 i64) r) h0:=by
 unfold aV at hm
 refine fw Tryz.func45 hB (enc:=(ah 1 i64)) (fun r=>cb (fun _=>ag.cons (PureV.flat rfl) ag.nil)) fun O=>?_;conv=>whnf
 refine gX ?_
 refine fz ?_;refine gX ?_
 refine fz ?_;refine gH ?_
 refine ca (gg hm O.has) fun r1 hm=>?_;refine gX ?_
 exact fe hm O
def dW (p0:(List Nat)) (K:Int->Prop):Prop :=
 ar (α:=Unit) (fun k1=>aB (S:=Nat) (fun v2 nx3=>((ltN v2 p0.length)=true->∃ x4,p0[v2]?=some x4/\((ltN 3 x4)=true->K (Int.ofNat v2))/\((ltN 3 x4)=false->v2+1<2 ^ 63/\nx3 (v2+1)))/\((ltN v2 p0.length)=false->k1 ())) 0) (fun _=>K (Int.negSucc 0))
theorem mg {p0:(List Nat)}{K:Int->Prop} (hm:dW p0 K) {h0:Heap} (hB:HasB vars h0):∃ r,K r/\CallD Tryz.prog NG 88 ⟨[(ah 1 n8) p0,(.func (.func 50) ⟨[]⟩ ⟨[]⟩)]⟩ h0 (z64 r) h0:=by
 unfold dW at hm
 refine fw Tryz.func88 hB (enc:=z64) (fun r=>PureV.flat rfl) fun O=>?_;conv=>whnf
 apply Cs;conv=>whnf
 apply Cs;refine gH ?_
 refine jn hm 19 [] (fun s=>s) (fun _ h=>Own vars h0 [] h) (fun _=>[]) (fun hm=>?_) ?_
 ·refine gX ?_
  refine lw 19 [0,1,7] (σ:=Nat) (fun s=>s) (fun v2 h=>Own vars h0 [] h) (fun v2=>[(8,(i64 v2))]) 0 hm O ?_
  clear hm;rintro v2 nx3 base h hm O
  refine gX ?_
  refine br hm (fun hm=>?_) fun hm=>?_
  ·refine gX ?_
   refine atF hm fun x4 hx4 hm=>?_;refine gH ?_
   refine fg Tryz.func50 ?_;refine gX ?_
   refine br hm (fun hm=>?_) fun hm=>?_
   ·refine gX ?_
    exact fe hm O
   ·refine gX ?_
    refine aR hm fun hm=>?_;refine gH ?_
    exact jx (v2+1) hm O
  ·refine gX ?_
   exact jx () hm O
 ·clear hm;rintro _ base h hm O
  refine gX ?_
  exact fe hm O
def cF (p0:(List Nat)) (K:Bool->Prop):Prop :=
 dW p0 (fun r1=>K (!ltI r1 (Int.ofNat 0)))
theorem iG {p0:(List Nat)}{K:Bool->Prop} (hm:cF p0 K) {h0:Heap} (hB:HasB vars h0):∃ r,K r/\CallD Tryz.prog NG 49 ⟨[(ah 1 n8) p0,(.func (.func 50) ⟨[]⟩ ⟨[]⟩)]⟩ h0 (Value.bool r) h0:=by
 unfold cF at hm
 refine fw Tryz.func49 hB (enc:=Value.bool) (fun r=>PureV.flat rfl) fun O=>?_;conv=>whnf
 refine gX ?_
 refine ca (mg hm O.has) fun r1 hm=>?_;refine gX ?_
 exact fe hm O
def dY (p0:SRun) (p1:Nat) (K:Nat->Prop):Prop :=
 ar (α:=Bool) (fun k2=>((ltN p1 0)=true->k2 true)/\((ltN p1 0)=false->k2 (!ltN p1 p0.nets.length))) (fun v1=>(v1=true->K 2)/\(v1=false->∃ x3,p0.nets[p1]?=some x3/\cS x3 (fun r4=>K r4)))
theorem ke {p0:SRun}{p1:Nat}{K:Nat->Prop} (hm:dY p0 p1 K) {h0:Heap} (hB:HasB vars h0):∃ r,K r/\CallD Tryz.prog NG 59 ⟨[AD p0,i64 p1]⟩ h0 (n8 r) h0:=by
 unfold dY at hm
 refine fw Tryz.func59 hB (enc:=n8) (fun r=>PureV.flat rfl) fun O=>?_;conv=>whnf
 refine gX ?_
 refine fz ?_;refine gH ?_
 apply Cs;conv=>whnf
 refine jn hm 20 [1,2] (fun s=>s) (fun v1 h=>Own vars h0 [] h) (fun v1=>[(13,(.bool v1))]) (fun hm=>?_) ?_
 ·refine gX ?_
  refine br hm (fun hm=>?_) fun hm=>?_
  ·refine gX ?_
   exact jx true hm O
  ·refine gX ?_
   exact jx (!ltN p1 p0.nets.length) hm O
 ·clear hm;rintro v1 base h hm O
  refine gX ?_
  refine br hm (fun hm=>?_) fun hm=>?_
  ·refine gX ?_
   exact fe hm O
  ·refine gX ?_
   refine atF hm fun x3 hx3 hm=>?_;refine gH ?_
   refine ca (jv hm O.has) fun r4 hm=>?_;refine gX ?_
   exact fe hm O
def dL (p0:SRun) (K:Rsp->Prop):Prop :=
 ar (α:=(List Nat)) (fun k12=>aB (S:=((List Nat)×Nat)) (fun (v14,v15) nx17=>((ltN v15 p0.circ.outs.length)=true->∃ x18,p0.circ.outs[v15]?=some x18/\dY p0 x18 (fun r19=>(v14.length+([r19]:(List Nat)).length)*1<=2 ^ 47/\v15+1<2 ^ 63/\nx17 ((v14++([r19]:(List Nat))),(v15+1))))/\((ltN v15 p0.circ.outs.length)=false->k12 v14)) (([]:List Nat),0)) (fun v10=>ar (α:=(List Nat)) (fun k28=>aV p0.circ (fun r29=>aB (S:=((List Nat)×Nat)) (fun (v31,v32) nx35=>((ltN v32 r29.length)=true->∃ x36,r29[v32]?=some x36/\ar (α:=Nat) (fun k40=>∃ x41,p0.circ.nodes[x36]?=some x41/\((eqN x41.ins.length 1)=true->∃ x42,x41.ins[0]?=some x42/\dY p0 x42 (fun r43=>bq r43 (fun r44=>k40 r44)))/\((eqN x41.ins.length 1)=false->k40 2)) (fun v37=>(v31.length+([v37]:(List Nat)).length)*1<=2 ^ 47/\v32+1<2 ^ 63/\nx35 ((v31++([v37]:(List Nat))),(v32+1))))/\((ltN v32 r29.length)=false->k28 v31)) (([]:List Nat),0))) (fun v25=>K (⟨v10,v25⟩:Rsp)))
theorem nT {p0:SRun}{K:Rsp->Prop} (hm:dL p0 K) {h0:Heap} (hB:HasB vars h0):∃ r,K r/\CallD Tryz.prog NG 29 ⟨[AD p0]⟩ h0 (fF r) h0:=by
 unfold dL at hm
 refine fw Tryz.func29 hB (enc:=fF) (fun r=>ng _) fun O=>?_;conv=>whnf
 refine gX ?_
 refine fz ?_;refine gH ?_
 have O:=O.bc (.cells (flatC ((([]:List Nat)).map n8)) false)
 have O:=O.bc (.cells (flatC ((([]:List Nat)).map n8)) false)
 (first|refine O.new (ai (l:=[nS,nS]) rfl rfl rfl) fun g1 h O=>?_|refine O.bF (ai (l:=[nS,nS]) rfl rfl rfl) fun g1 h O=>?_);refine gH ?_
 refine gX ?_
 have O:=O.bc (.cells (flatC ((([]:List Nat)).map n8)) false)
 have O:=O.bc (.cells (flatC ((([]:List Nat)).map n8)) false)
 (first|refine O.new (ai (l:=[nS,nS]) rfl rfl rfl) fun g5 h O=>?_|refine O.bF (ai (l:=[nS,nS]) rfl rfl rfl) fun g5 h O=>?_);refine gH ?_
 refine jn (σ:=(List Nat)×Option Nat) hm 65 [1,2,3] (fun s=>s.1) (fun (v10,a9) h=>(a9=none->v10=[])/\Own vars h0 [(sC g1 [(aj 1 none (([]:List Nat).map n8)),(aj 1 none (([]:List Nat).map n8))]),(none,.cells (flatC (([]:List Nat).map n8)) false),(none,.cells (flatC (([]:List Nat).map n8)) false),(sC g5 [(aj 1 a9 (v10.map n8)),(aj 1 none (([]:List Nat).map n8))]),(a9,.cells (flatC (v10.map n8)) false),(none,.cells (flatC (([]:List Nat).map n8)) false)] h) (fun (v10,a9)=>[]) (fun hm=>?_) ?_
 ·refine gX ?_
  refine lw 65 [1,2,3,12,13] (σ:=((List Nat)×Nat)×Option Nat) (fun s=>s.1) (fun ((v14,v15),a13) h=>(a13=none->v14=[])/\Own vars h0 [(sC g1 [(aj 1 none (([]:List Nat).map n8)),(aj 1 none (([]:List Nat).map n8))]),(none,.cells (flatC (([]:List Nat).map n8)) false),(none,.cells (flatC (([]:List Nat).map n8)) false),(sC g5 [(aj 1 a13 (v14.map n8)),(aj 1 none (([]:List Nat).map n8))]),(a13,.cells (flatC (v14.map n8)) false),(none,.cells (flatC (([]:List Nat).map n8)) false)] h) (fun ((v14,v15),a13)=>[(14,(i64 v15))]) ((([]:List Nat),0),none) hm ⟨(fun _=>rfl),(O.sel [3,5,4,0,2,1] (by decide))⟩ ?_
  clear hm;rintro⟨⟨v14,v15⟩,a13⟩ nx17 base h hm ⟨ha16,O⟩
  refine gX ?_
  refine br hm (fun hm=>?_) fun hm=>?_
  ·refine gX ?_
   refine atF hm fun x18 hx18 hm=>?_;refine gX ?_
   refine ldO (O.at (.tail _ (.tail _ (.tail _ (.head _))))) ?_;refine gH ?_
   first|refine⟨.inr (.inr (ae rfl (O.at (.tail _ (.tail _ (.tail _ (.head _))))) rfl rfl)),?_⟩|refine⟨.inr (.inl (by kernel_rfl)),?_⟩
   refine gX ?_
   refine dF ?_
   refine gX ?_
   refine ca (ke hm O.has) fun r19 hm=>?_;refine gH ?_
   (first|refine⟨.inr (.inr (ae rfl (O.at (.head _)) rfl rfl)),?_⟩|refine⟨.inr (.inr (ae rfl (O.at (.tail _ (.head _))) rfl rfl)),?_⟩|refine⟨.inr (.inr (ae rfl (O.at (.tail _ (.tail _ (.head _)))) rfl rfl)),?_⟩|refine⟨.inr (.inr (ae rfl (O.at (.tail _ (.tail _ (.tail _ (.head _))))) rfl rfl)),?_⟩|refine⟨.inr (.inr (ae rfl (O.at (.tail _ (.tail _ (.tail _ (.tail _ (.head _)))))) rfl rfl)),?_⟩|refine⟨.inr (.inr (ae rfl (O.at (.tail _ (.tail _ (.tail _ (.tail _ (.tail _ (.head _))))))) rfl rfl)),?_⟩|refine⟨.inr (.inr (ae rfl (O.at (.tail _ (.tail _ (.tail _ (.tail _ (.tail _ (.tail _ (.head _)))))))) rfl rfl)),?_⟩|refine⟨.inl (Ext.refl _),?_⟩|refine⟨.inr (.inr rfl),?_⟩|refine⟨.inr (by kernel_rfl),?_⟩|refine⟨.inl (by kernel_rfl),?_⟩|refine id ?_);refine gH ?_
   refine O.dq (l:=([r19]:(List Nat))) (enc:=n8) (s:=1) (z:=(n8 0)) rfl rfl (by kernel_rfl) (by kernel_rfl) rfl rfl rfl rfl (fun _=>rfl) fun g20 h O=>?_;refine gH ?_
   refine O.gB (enc:=n8) (l:=v14) (new:=([r19]:(List Nat))) (s:=1) (b:=1) (.tail _ (.tail _ (.tail _ (.tail _ (.tail _ (.head _)))))) ha16 rfl rfl rfl rfl rfl rfl rfl rfl (YOk.own (O.at (.head _)) rfl (fun _=>rfl) rfl) (fun _=>rfl) (fun _=>rfl) (by decide) hm.1 fun a22 h ha23 O=>?_;refine gH ?_
   (first|refine⟨.inr (.inr (ae rfl (O.at (.head _)) rfl rfl)),?_⟩|refine⟨.inr (.inr (ae rfl (O.at (.tail _ (.head _))) rfl rfl)),?_⟩|refine⟨.inr (.inr (ae rfl (O.at (.tail _ (.tail _ (.head _)))) rfl rfl)),?_⟩|refine⟨.inr (.inr (ae rfl (O.at (.tail _ (.tail _ (.tail _ (.head _))))) rfl rfl)),?_⟩|refine⟨.inr (.inr (ae rfl (O.at (.tail _ (.tail _ (.tail _ (.tail _ (.head _)))))) rfl rfl)),?_⟩|refine⟨.inr (.inr (ae rfl (O.at (.tail _ (.tail _ (.tail _ (.tail _ (.tail _ (.head _))))))) rfl rfl)),?_⟩|refine⟨.inr (.inr (ae rfl (O.at (.tail _ (.tail _ (.tail _ (.tail _ (.tail _ (.tail _ (.head _)))))))) rfl rfl)),?_⟩|refine⟨.inl (Ext.refl _),?_⟩|refine⟨.inr (.inr rfl),?_⟩|refine⟨.inr (by kernel_rfl),?_⟩|refine⟨.inl (by kernel_rfl),?_⟩|refine id ?_);refine gH ?_
   replace hm:=hm.2
   refine O.stC 1 (.tail _ (.tail _ (.tail _ (.tail _ (.head _))))) [(aj 1 a22 ((v14++([r19]:(List Nat))).map n8)),(aj 1 none (([]:List Nat).map n8))] fun h O=>?_;refine gH ?_
   (first|refine⟨.inr (.inr (ae rfl (O.at (.head _)) rfl rfl)),?_⟩|refine⟨.inr (.inr (ae rfl (O.at (.tail _ (.head _))) rfl rfl)),?_⟩|refine⟨.inr (.inr (ae rfl (O.at (.tail _ (.tail _ (.head _)))) rfl rfl)),?_⟩|refine⟨.inr (.inr (ae rfl (O.at (.tail _ (.tail _ (.tail _ (.head _))))) rfl rfl)),?_⟩|refine⟨.inr (.inr (ae rfl (O.at (.tail _ (.tail _ (.tail _ (.tail _ (.head _)))))) rfl rfl)),?_⟩|refine⟨.inr (.inr (ae rfl (O.at (.tail _ (.tail _ (.tail _ (.tail _ (.tail _ (.head _))))))) rfl rfl)),?_⟩|refine⟨.inr (.inr (ae rfl (O.at (.tail _ (.tail _ (.tail _ (.tail _ (.tail _ (.tail _ (.head _)))))))) rfl rfl)),?_⟩|refine⟨.inl (Ext.refl _),?_⟩|refine⟨.inr (.inr rfl),?_⟩|refine⟨.inr (by kernel_rfl),?_⟩|refine⟨.inl (by kernel_rfl),?_⟩|refine id ?_);refine gH ?_
   refine gX ?_
   refine aR hm fun hm=>?_;refine gH ?_
   exact jx (((v14++([r19]:(List Nat))),(v15+1)),a22) hm ⟨ha23,(O.sel [1,2,3,4,5,6] (by decide))⟩
  ·refine gX ?_
   exact jx (v14,a13) hm ⟨ha16,O⟩
 ·clear hm;rintro⟨v10,a9⟩ base h hm ⟨ha11,O⟩
  conv=>whnf
  refine jn (σ:=(List Nat)×Option Nat) hm 65 [2,3] (fun s=>s.1) (fun (v25,a24) h=>(a9=none->v10=[])/\(a24=none->v25=[])/\Own vars h0 [(sC g1 [(aj 1 none (([]:List Nat).map n8)),(aj 1 none (([]:List Nat).map n8))]),(none,.cells (flatC (([]:List Nat).map n8)) false),(none,.cells (flatC (([]:List Nat).map n8)) false),(sC g5 [(aj 1 a9 (v10.map n8)),(aj 1 a24 (v25.map n8))]),(a9,.cells (flatC (v10.map n8)) false),(a24,.cells (flatC (v25.map n8)) false)] h) (fun (v25,a24)=>[]) (fun hm=>?_) ?_
  ·refine gX ?_
   refine ca (bX hm O.has) fun r29 hm=>?_;refine gX ?_
   refine lw 65 [1,2,3,29,30] (σ:=((List Nat)×Nat)×Option Nat) (fun s=>s.1) (fun ((v31,v32),a30) h=>(a9=none->v10=[])/\(a30=none->v31=[])/\Own vars h0 [(sC g1 [(aj 1 none (([]:List Nat).map n8)),(aj 1 none (([]:List Nat).map n8))]),(none,.cells (flatC (([]:List Nat).map n8)) false),(none,.cells (flatC (([]:List Nat).map n8)) false),(sC g5 [(aj 1 a9 (v10.map n8)),(aj 1 a30 (v31.map n8))]),(a9,.cells (flatC (v10.map n8)) false),(a30,.cells (flatC (v31.map n8)) false)] h) (fun ((v31,v32),a30)=>[(31,(i64 v32))]) ((([]:List Nat),0),none) hm ⟨ha11,(fun _=>rfl),O⟩ ?_
   clear hm;rintro⟨⟨v31,v32⟩,a30⟩ nx35 base h hm ⟨ha33,ha34,O⟩
   refine gX ?_
   refine br hm (fun hm=>?_) fun hm=>?_
   ·refine gX ?_
    refine atF hm fun x36 hx36 hm=>?_;refine gH ?_
    apply Cs;conv=>whnf
    apply Cs;refine gH ?_
    refine jn hm 65 [1,2,3,29,30,31] (fun s=>s) (fun v37 h=>(a9=none->v10=[])/\(a30=none->v31=[])/\Own vars h0 [(sC g1 [(aj 1 none (([]:List Nat).map n8)),(aj 1 none (([]:List Nat).map n8))]),(none,.cells (flatC (([]:List Nat).map n8)) false),(none,.cells (flatC (([]:List Nat).map n8)) false),(sC g5 [(aj 1 a9 (v10.map n8)),(aj 1 a30 (v31.map n8))]),(a9,.cells (flatC (v10.map n8)) false),(a30,.cells (flatC (v31.map n8)) false)] h) (fun v37=>[(8,(n8 v37))]) (fun hm=>?_) ?_
    ·refine gX ?_
     refine atF hm fun x41 hx41 hm=>?_;refine gX ?_
     refine br hm (fun hm=>?_) fun hm=>?_
     ·refine gX ?_
      refine dF ?_
      refine gX ?_
      refine atF hm fun x42 hx42 hm=>?_;refine gH ?_
      refine ca (ke hm O.has) fun r43 hm=>?_;refine gH ?_
      (first|refine⟨.inr (.inr (ae rfl (O.at (.head _)) rfl rfl)),?_⟩|refine⟨.inr (.inr (ae rfl (O.at (.tail _ (.head _))) rfl rfl)),?_⟩|refine⟨.inr (.inr (ae rfl (O.at (.tail _ (.tail _ (.head _)))) rfl rfl)),?_⟩|refine⟨.inr (.inr (ae rfl (O.at (.tail _ (.tail _ (.tail _ (.head _))))) rfl rfl)),?_⟩|refine⟨.inr (.inr (ae rfl (O.at (.tail _ (.tail _ (.tail _ (.tail _ (.head _)))))) rfl rfl)),?_⟩|refine⟨.inr (.inr (ae rfl (O.at (.tail _ (.tail _ (.tail _ (.tail _ (.tail _ (.head _))))))) rfl rfl)),?_⟩|refine⟨.inr (.inr (ae rfl (O.at (.tail _ (.tail _ (.tail _ (.tail _ (.tail _ (.tail _ (.head _)))))))) rfl rfl)),?_⟩|refine⟨.inl (Ext.refl _),?_⟩|refine⟨.inr (.inr rfl),?_⟩|refine⟨.inr (by kernel_rfl),?_⟩|refine⟨.inl (by kernel_rfl),?_⟩|refine id ?_);refine gH ?_
      refine ca (cC hm O.has) fun r44 hm=>?_;refine gH ?_
      (first|refine⟨.inr (.inr (ae rfl (O.at (.head _)) rfl rfl)),?_⟩|refine⟨.inr (.inr (ae rfl (O.at (.tail _ (.head _))) rfl rfl)),?_⟩|refine⟨.inr (.inr (ae rfl (O.at (.tail _ (.tail _ (.head _)))) rfl rfl)),?_⟩|refine⟨.inr (.inr (ae rfl (O.at (.tail _ (.tail _ (.tail _ (.head _))))) rfl rfl)),?_⟩|refine⟨.inr (.inr (ae rfl (O.at (.tail _ (.tail _ (.tail _ (.tail _ (.head _)))))) rfl rfl)),?_⟩|refine⟨.inr (.inr (ae rfl (O.at (.tail _ (.tail _ (.tail _ (.tail _ (.tail _ (.head _))))))) rfl rfl)),?_⟩|refine⟨.inr (.inr (ae rfl (O.at (.tail _ (.tail _ (.tail _ (.tail _ (.tail _ (.tail _ (.head _)))))))) rfl rfl)),?_⟩|refine⟨.inl (Ext.refl _),?_⟩|refine⟨.inr (.inr rfl),?_⟩|refine⟨.inr (by kernel_rfl),?_⟩|refine⟨.inl (by kernel_rfl),?_⟩|refine id ?_);refine gH ?_
      exact jx r44 hm ⟨ha33,ha34,O⟩
     ·refine gX ?_
      exact jx 2 hm ⟨ha33,ha34,O⟩
    ·clear hm;rintro v37 base h hm ⟨ha38,ha39,O⟩
     refine gX ?_
     refine ldO (O.at (.tail _ (.tail _ (.tail _ (.head _))))) ?_;refine gH ?_
     refine fz ?_;refine gH ?_
     refine O.apL (enc:=n8) (l:=v31) (new:=([v37]:(List Nat))) 1 (.tail _ (.tail _ (.tail _ (.tail _ (.tail _ (.head _)))))) ha39 hm fun a45 h ha46 O hm=>?_;refine gH ?_
     refine O.stC 1 (.tail _ (.tail _ (.tail _ (.head _)))) [(aj 1 a9 (v10.map n8)),(aj 1 a45 ((v31++([v37]:(List Nat))).map n8))] fun h O=>?_;refine gX ?_
     refine aR hm fun hm=>?_;refine gH ?_
     exact jx (((v31++([v37]:(List Nat))),(v32+1)),a45) hm ⟨ha38,ha46,O⟩
   ·refine gX ?_
    exact jx (v31,a30) hm ⟨ha33,ha34,O⟩
  ·clear hm;rintro⟨v25,a24⟩ base h hm ⟨ha26,ha27,O⟩
   refine gX ?_
   refine ldO (O.at (.tail _ (.tail _ (.tail _ (.head _))))) ?_;refine gH ?_
   first|refine⟨.inr (.inr (ae rfl (O.at (.tail _ (.tail _ (.tail _ (.head _))))) rfl rfl)),?_⟩|refine⟨.inr (.inl (by kernel_rfl)),?_⟩
   refine gX ?_
   refine fg Tryz.func60 ?_;refine gX ?_
   refine lT (s:=1) (enc:=n8) (l:=v10) (n:=v10.length) (m:=v10.length) rfl rfl rfl rfl rfl rfl rfl ?_;refine gX ?_
   (first|refine⟨.inr (.inr (ae rfl (O.at (.head _)) rfl rfl)),?_⟩|refine⟨.inr (.inr (ae rfl (O.at (.tail _ (.head _))) rfl rfl)),?_⟩|refine⟨.inr (.inr (ae rfl (O.at (.tail _ (.tail _ (.head _)))) rfl rfl)),?_⟩|refine⟨.inr (.inr (ae rfl (O.at (.tail _ (.tail _ (.tail _ (.head _))))) rfl rfl)),?_⟩|refine⟨.inr (.inr (ae rfl (O.at (.tail _ (.tail _ (.tail _ (.tail _ (.head _)))))) rfl rfl)),?_⟩|refine⟨.inr (.inr (ae rfl (O.at (.tail _ (.tail _ (.tail _ (.tail _ (.tail _ (.head _))))))) rfl rfl)),?_⟩|refine⟨.inr (.inr (ae rfl (O.at (.tail _ (.tail _ (.tail _ (.tail _ (.tail _ (.tail _ (.head _)))))))) rfl rfl)),?_⟩|refine⟨.inl (Ext.refl _),?_⟩|refine⟨.inr (.inr rfl),?_⟩|refine⟨.inr (by kernel_rfl),?_⟩|refine⟨.inl (by kernel_rfl),?_⟩|refine id ?_);refine gH ?_
   refine ldO (O.at (.tail _ (.tail _ (.tail _ (.head _))))) ?_;refine gH ?_
   first|refine⟨.inr (.inr (ae rfl (O.at (.tail _ (.tail _ (.tail _ (.head _))))) rfl rfl)),?_⟩|refine⟨.inr (.inl (by kernel_rfl)),?_⟩
   refine gX ?_
   refine fg Tryz.func60 ?_;refine gX ?_
   refine lT (s:=1) (enc:=n8) (l:=v25) (n:=v25.length) (m:=v25.length) rfl rfl rfl rfl rfl rfl rfl ?_;refine gX ?_
   (first|refine⟨.inr (.inr (ae rfl (O.at (.head _)) rfl rfl)),?_⟩|refine⟨.inr (.inr (ae rfl (O.at (.tail _ (.head _))) rfl rfl)),?_⟩|refine⟨.inr (.inr (ae rfl (O.at (.tail _ (.tail _ (.head _)))) rfl rfl)),?_⟩|refine⟨.inr (.inr (ae rfl (O.at (.tail _ (.tail _ (.tail _ (.head _))))) rfl rfl)),?_⟩|refine⟨.inr (.inr (ae rfl (O.at (.tail _ (.tail _ (.tail _ (.tail _ (.head _)))))) rfl rfl)),?_⟩|refine⟨.inr (.inr (ae rfl (O.at (.tail _ (.tail _ (.tail _ (.tail _ (.tail _ (.head _))))))) rfl rfl)),?_⟩|refine⟨.inr (.inr (ae rfl (O.at (.tail _ (.tail _ (.tail _ (.tail _ (.tail _ (.tail _ (.head _)))))))) rfl rfl)),?_⟩|refine⟨.inl (Ext.refl _),?_⟩|refine⟨.inr (.inr rfl),?_⟩|refine⟨.inr (by kernel_rfl),?_⟩|refine⟨.inl (by kernel_rfl),?_⟩|refine id ?_);refine gH ?_
   refine O.stC 2 (.head _) [(iw a9 (v10.map n8)),(iw a24 (v25.map n8))] fun h O=>?_;refine gH ?_
   (first|refine⟨.inr (.inr (ae rfl (O.at (.head _)) rfl rfl)),?_⟩|refine⟨.inr (.inr (ae rfl (O.at (.tail _ (.head _))) rfl rfl)),?_⟩|refine⟨.inr (.inr (ae rfl (O.at (.tail _ (.tail _ (.head _)))) rfl rfl)),?_⟩|refine⟨.inr (.inr (ae rfl (O.at (.tail _ (.tail _ (.tail _ (.head _))))) rfl rfl)),?_⟩|refine⟨.inr (.inr (ae rfl (O.at (.tail _ (.tail _ (.tail _ (.tail _ (.head _)))))) rfl rfl)),?_⟩|refine⟨.inr (.inr (ae rfl (O.at (.tail _ (.tail _ (.tail _ (.tail _ (.tail _ (.head _))))))) rfl rfl)),?_⟩|refine⟨.inr (.inr (ae rfl (O.at (.tail _ (.tail _ (.tail _ (.tail _ (.tail _ (.tail _ (.head _)))))))) rfl rfl)),?_⟩|refine⟨.inl (Ext.refl _),?_⟩|refine⟨.inr (.inr rfl),?_⟩|refine⟨.inr (by kernel_rfl),?_⟩|refine⟨.inl (by kernel_rfl),?_⟩|refine id ?_);refine gH ?_
   refine gX ?_
   refine⟨_,aL rfl rfl (O.at (.head _)) rfl rfl (lbE rfl) rfl,?_⟩;conv=>whnf
   exact⟨(⟨v10,v25⟩:Rsp),hm,O.ext,fun h2 F=>VLe.agg (LLe.cons (O.mM F (Nat.le_refl _) (.tail _ (.tail _ (.tail _ (.tail _ (.head _))))) ha26 (fun _=>rfl)) (LLe.cons (O.mM F (Nat.le_refl _) (.tail _ (.tail _ (.tail _ (.tail _ (.tail _ (.head _)))))) ha27 (fun _=>rfl)) (LLe.nil _)))⟩
def fx (p0:Circ) (p1:Pat) (K:Nat->Prop):Prop :=
 ar (α:=Bool) (fun k2=>((ltN 0 p0.mems.length)=true->k2 true)/\((ltN 0 p0.mems.length)=false->cw p0 ([15]:(List Nat)) (fun r3=>k2 (ltN 0 r3.length)))) (fun v1=>(v1=true->K 7)/\(v1=false->ar (α:=Bool) (fun k5=>bC p0 (fun r6=>((neN p1.inp.length r6.length)=true->k5 true)/\((neN p1.inp.length r6.length)=false->aV p0 (fun r7=>k5 (neN p1.state.length r7.length))))) (fun v4=>(v4=true->K 8)/\(v4=false->ar (α:=Bool) (fun k9=>cF p1.inp (fun r10=>(r10=true->k9 true)/\(r10=false->cF p1.state (fun r11=>k9 r11)))) (fun v8=>(v8=true->K 1)/\(v8=false->K 0))))))
theorem qI {p0:Circ}{p1:Pat}{K:Nat->Prop} (hm:fx p0 p1 K) {h0:Heap} (hB:HasB vars h0):∃ r,K r/\CallD Tryz.prog NG 25 ⟨[ax p0,dv p1]⟩ h0 (i64 r) h0:=by
 unfold fx at hm
 refine fw Tryz.func25 hB (enc:=i64) (fun r=>PureV.flat rfl) fun O=>?_;conv=>whnf
 refine gX ?_
 refine fz ?_;refine gH ?_
 refine fz ?_;refine gH ?_
 apply Cs;conv=>whnf
 apply Cs;conv=>whnf
 refine jn hm 43 [2,3] (fun s=>s) (fun v1 h=>Own vars h0 [] h) (fun v1=>[(5,(.bool v1))]) (fun hm=>?_) ?_
 ·refine gX ?_
  refine br hm (fun hm=>?_) fun hm=>?_
  ·refine gX ?_
   exact jx true hm O
  ·refine gX ?_
   refine fz ?_;refine gH ?_
   refine ca (gg hm O.has) fun r3 hm=>?_;refine gH ?_
   exact jx (ltN 0 r3.length) hm O
 ·clear hm;rintro v1 base h hm O
  refine gX ?_
  refine br hm (fun hm=>?_) fun hm=>?_
  ·refine gX ?_
   exact fe hm O
  ·refine jn hm 43 [3] (fun s=>s) (fun v4 h=>Own vars h0 [] h) (fun v4=>[(17,(.bool v4))]) (fun hm=>?_) ?_
   ·refine gX ?_
    refine dF ?_
    refine gX ?_
    refine dF ?_
    refine gX ?_
    refine ca (dK hm O.has) fun r6 hm=>?_;refine gH ?_
    (first|refine⟨.inr (.inr (ae rfl (O.at (.head _)) rfl rfl)),?_⟩|refine⟨.inr (.inr (ae rfl (O.at (.tail _ (.head _))) rfl rfl)),?_⟩|refine⟨.inr (.inr (ae rfl (O.at (.tail _ (.tail _ (.head _)))) rfl rfl)),?_⟩|refine⟨.inr (.inr (ae rfl (O.at (.tail _ (.tail _ (.tail _ (.head _))))) rfl rfl)),?_⟩|refine⟨.inr (.inr (ae rfl (O.at (.tail _ (.tail _ (.tail _ (.tail _ (.head _)))))) rfl rfl)),?_⟩|refine⟨.inr (.inr (ae rfl (O.at (.tail _ (.tail _ (.tail _ (.tail _ (.tail _ (.head _))))))) rfl rfl)),?_⟩|refine⟨.inr (.inr (ae rfl (O.at (.tail _ (.tail _ (.tail _ (.tail _ (.tail _ (.tail _ (.head _)))))))) rfl rfl)),?_⟩|refine⟨.inl (Ext.refl _),?_⟩|refine⟨.inr (.inr rfl),?_⟩|refine⟨.inr (by kernel_rfl),?_⟩|refine⟨.inl (by kernel_rfl),?_⟩|refine id ?_);refine gH ?_
    refine br hm (fun hm=>?_) fun hm=>?_
    ·refine gX ?_
     exact jx true hm O
    ·refine gX ?_
     refine dF ?_
     refine gX ?_
     refine dF ?_
     refine gX ?_
     refine ca (bX hm O.has) fun r7 hm=>?_;refine gH ?_
     (first|refine⟨.inr (.inr (ae rfl (O.at (.head _)) rfl rfl)),?_⟩|refine⟨.inr (.inr (ae rfl (O.at (.tail _ (.head _))) rfl rfl)),?_⟩|refine⟨.inr (.inr (ae rfl (O.at (.tail _ (.tail _ (.head _)))) rfl rfl)),?_⟩|refine⟨.inr (.inr (ae rfl (O.at (.tail _ (.tail _ (.tail _ (.head _))))) rfl rfl)),?_⟩|refine⟨.inr (.inr (ae rfl (O.at (.tail _ (.tail _ (.tail _ (.tail _ (.head _)))))) rfl rfl)),?_⟩|refine⟨.inr (.inr (ae rfl (O.at (.tail _ (.tail _ (.tail _ (.tail _ (.tail _ (.head _))))))) rfl rfl)),?_⟩|refine⟨.inr (.inr (ae rfl (O.at (.tail _ (.tail _ (.tail _ (.tail _ (.tail _ (.tail _ (.head _)))))))) rfl rfl)),?_⟩|refine⟨.inl (Ext.refl _),?_⟩|refine⟨.inr (.inr rfl),?_⟩|refine⟨.inr (by kernel_rfl),?_⟩|refine⟨.inl (by kernel_rfl),?_⟩|refine id ?_);refine gH ?_
     exact jx (neN p1.state.length r7.length) hm O
   ·clear hm;rintro v4 base h hm O
    refine gX ?_
    refine br hm (fun hm=>?_) fun hm=>?_
    ·refine gX ?_
     exact fe hm O
    ·refine jn hm 43 [] (fun s=>s) (fun v8 h=>Own vars h0 [] h) (fun v8=>[(34,(.bool v8))]) (fun hm=>?_) ?_
     ·refine gX ?_
      refine ca (iG hm O.has) fun r10 hm=>?_;refine gH ?_
      refine br hm (fun hm=>?_) fun hm=>?_
      ·refine gX ?_
       exact jx true hm O
      ·refine gX ?_
       refine ca (iG hm O.has) fun r11 hm=>?_;refine gH ?_
       exact jx r11 hm O
     ·clear hm;rintro v8 base h hm O
      refine gX ?_
      refine br hm (fun hm=>?_) fun hm=>?_
      ·refine gX ?_
       exact fe hm O
      ·refine gX ?_
       exact fe hm O
def cq (p0:Circ) (p1:Pat) (K:(Rsp×(List Nat)×Nat)->Prop):Prop :=
 aO p0 (fun r5=>ar (α:=Nat) (fun k7=>((eqN r5.2 0)=true->fx p0 p1 (fun r8=>k7 r8))/\((eqN r5.2 0)=false->k7 r5.2)) (fun v6=>((neN v6 0)=true->K ((⟨[],[]⟩:Rsp),[],v6))/\((neN v6 0)=false->1*p0.nodes.length<=2 ^ 48/\p0.nodes.length<2 ^ 63/\ar (α:=(List Nat)) (fun k21=>bC p0 (fun r22=>aB (S:=((List Nat)×Nat)) (fun (v23,v24) nx25=>((ltN v24 r22.length)=true->∃ x26,r22[v24]?=some x26/\∃ x27,p1.inp[v24]?=some x27/\x26<p0.nodes.length/\∃ x28,v23[x26]?=some x28/\v24+1<2 ^ 63/\nx25 ((v23.set x26 x27),(v24+1)))/\((ltN v24 r22.length)=false->k21 v23)) ((List.replicate p0.nodes.length (0:Nat)),0))) (fun v20=>aV p0 (fun r29=>aB (S:=((List Nat)×Nat)) (fun (v30,v31) nx32=>((ltN v31 r29.length)=true->∃ x33,r29[v31]?=some x33/\∃ x34,p1.state[v31]?=some x34/\x33<p0.nodes.length/\∃ x35,v30[x33]?=some x35/\v31+1<2 ^ 63/\nx32 ((v30.set x33 x34),(v31+1)))/\((ltN v31 r29.length)=false->ar (α:=(List Nat)) (fun k39=>aB (S:=((List Nat)×(List Nat)×Nat×Nat)) (fun (v40,v41,v42,v43) nx44=>((ltN v43 r5.1.length)=true->ar (α:=((List Nat)×(List Nat)×Nat)) (fun k48=>∃ x49,r5.1[v43]?=some x49/\∃ x50,p0.nodes[x49]?=some x50/\bN x50.kind (fun r54=>((!r54)=true->k48 (v40,v41,v42))/\((!r54)=false->0<=16/\ar (α:=((List Nat)×Nat)) (fun k57=>aB (S:=((List Nat)×Nat×Nat)) (fun (v58,v59,v60) nx61=>((ltN v60 x50.ins.length)=true->∃ x62,x50.ins[v60]?=some x62/\x62<p0.nodes.length/\∃ x63,v40[x62]?=some x63/\(v59+1)<=16/\(v59+1)<=v58.length/\v60+1<2 ^ 63/\nx61 ((v58.take v59++(([x63]:(List Nat))++v58.drop (v59+1))),(v59+1),(v60+1)))/\((ltN v60 x50.ins.length)=false->k57 (v58,v59))) (v41,0,0)) (fun (v55,v56)=>v56<=v55.length/\ba x50.kind (v55.take v56) (fun r64=>x49<p0.nodes.length/\∃ x66,v40[x49]?=some x66/\k48 ((v40.set x49 r64),v55,v56)))))) (fun (v45,v46,v47)=>v43+1<2 ^ 63/\nx44 (v45,v46,v47,(v43+1))))/\((ltN v43 r5.1.length)=false->k39 v40)) (v30,(List.replicate 16 (0:Nat)),0,0)) (fun v38=>p0.nodes.length=v38.length/\dL (⟨p0,v38⟩:SRun) (fun r68=>K (r68,v38,0))))) (v20,0))))))
theorem eF {p0:Circ}{p1:Pat}{K:(Rsp×(List Nat)×Nat)->Prop} (hm:cq p0 p1 K) {h0:Heap} (hB:HasB vars h0):∃ r,K r/\CallD Tryz.prog NG 8 ⟨[ax p0,dv p1]⟩ h0 ((fun (r:(Rsp×(List Nat)×Nat))=>Value.tuple ⟨[fF (r.1),(ah 1 n8) (r.2.1),i64 (r.2.2)]⟩) r) h0:=by
 unfold cq at hm
 refine fw Tryz.func8 hB (enc:=(fun (r:(Rsp×(List Nat)×Nat))=>Value.tuple ⟨[fF (r.1),(ah 1 n8) (r.2.1),i64 (r.2.2)]⟩)) (fun r=>PureV.tup (ag.cons (ng _) (ag.cons (cb (fun _=>ag.cons (PureV.flat rfl) ag.nil)) (ag.cons (PureV.flat rfl) (ag.nil))))) fun O=>?_;conv=>whnf
 refine gX ?_
 refine fz ?_;refine gH ?_
 refine fz ?_;refine gH ?_
 have O:=O.bc (.cells (flatC ((([]:List Nat)).map n8)) false)
 have O:=O.bc (.cells (flatC ((([]:List Nat)).map n8)) false)
 (first|refine O.new (ai (l:=[nS,nS]) rfl rfl rfl) fun g1 h O=>?_|refine O.bF (ai (l:=[nS,nS]) rfl rfl rfl) fun g1 h O=>?_);refine gH ?_
 refine gX ?_
 refine ca (cm hm O.has) fun r5 hm=>?_;refine gH ?_
 refine jn hm 87 [2,3,4,7] (fun s=>s) (fun v6 h=>Own vars h0 [(sC g1 [(aj 1 none (([]:List Nat).map n8)),(aj 1 none (([]:List Nat).map n8))]),(none,.cells (flatC (([]:List Nat).map n8)) false),(none,.cells (flatC (([]:List Nat).map n8)) false)] h) (fun v6=>[(8,(i64 v6))]) (fun hm=>?_) ?_
 ·refine gX ?_
  refine br hm (fun hm=>?_) fun hm=>?_
  ·refine gX ?_
   refine ca (qI hm O.has) fun r8 hm=>?_;refine gH ?_
   exact jx r8 hm (O.sel [0,2,1] (by decide))
  ·refine gX ?_
   exact jx r5.2 hm (O.sel [0,2,1] (by decide))
 ·clear hm;rintro v6 base h hm O
  refine gX ?_
  refine br hm (fun hm=>?_) fun hm=>?_
  ·refine gX ?_
   refine O.stC 2 (.head _) [nS,nS] fun h O=>?_;refine gX ?_
   refine⟨_,aL rfl rfl (O.at (.head _)) rfl rfl (lbE rfl) rfl,?_⟩;conv=>whnf
   exact⟨((⟨[],[]⟩:Rsp),[],v6),hm,O.ext,fun h2 F=>VLe.tup (LLe.cons (VLe.agg (LLe.cons (VLe.nil _ _) (LLe.cons (VLe.nil _ _) (LLe.nil _)))) (LLe.cons (VLe.nil _ _) (LLe.cons (VLe.refl _ _) (LLe.nil _))))⟩
  ·refine gX ?_
   refine dF ?_
   refine gX ?_
   refine dF ?_
   refine gX ?_
   refine O.BK (enc:=n8) (z:=0) (b:=1) (s:=1) (n:=p0.nodes.length) rfl rfl rfl rfl rfl (by decide) (by kernel_rfl) rfl rfl hm.1 hm.2.1 fun g9 h O=>?_;refine gH ?_
   replace hm:=hm.2.2
   have O:=O.bc (.cells (flatC ((([]:List Node)).map an)) false)
   have O:=O.bc (.cells (flatC ((([]:List ByteArray)).map Value.string)) false)
   have O:=O.bc (.cells (flatC ((([]:List Memo)).map ay)) false)
   have O:=O.bc (.cells (flatC ((([]:List Nat)).map i64)) false)
   have O:=O.bc (.cells (flatC ((([]:List Nat)).map n8)) false)
   (first|refine O.new (ai (l:=[nS,nS,nS,nS,nS]) rfl rfl rfl) fun g11 h O=>?_|refine O.bF (ai (l:=[nS,nS,nS,nS,nS]) rfl rfl rfl) fun g11 h O=>?_);refine gH ?_
   refine O.stC 5 (.head _) [((ah 4 an) p0.nodes),((ah 1 Value.string) p0.names),((ah 3 ay) p0.mems),((ah 1 i64) p0.outs),(.slice (some ⟨g9,0,none⟩) p0.nodes.length p0.nodes.length)] fun h O=>?_;refine gH ?_
   (first|refine⟨.inr (.inr (ae rfl (O.at (.head _)) rfl rfl)),?_⟩|refine⟨.inr (.inr (ae rfl (O.at (.tail _ (.head _))) rfl rfl)),?_⟩|refine⟨.inr (.inr (ae rfl (O.at (.tail _ (.tail _ (.head _)))) rfl rfl)),?_⟩|refine⟨.inr (.inr (ae rfl (O.at (.tail _ (.tail _ (.tail _ (.head _))))) rfl rfl)),?_⟩|refine⟨.inr (.inr (ae rfl (O.at (.tail _ (.tail _ (.tail _ (.tail _ (.head _)))))) rfl rfl)),?_⟩|refine⟨.inr (.inr (ae rfl (O.at (.tail _ (.tail _ (.tail _ (.tail _ (.tail _ (.head _))))))) rfl rfl)),?_⟩|refine⟨.inr (.inr (ae rfl (O.at (.tail _ (.tail _ (.tail _ (.tail _ (.tail _ (.tail _ (.head _)))))))) rfl rfl)),?_⟩|refine⟨.inl (Ext.refl _),?_⟩|refine⟨.inr (.inr rfl),?_⟩|refine⟨.inr (by kernel_rfl),?_⟩|refine⟨.inl (by kernel_rfl),?_⟩|refine id ?_);refine gH ?_
   refine gX ?_
   refine ldA (O.at (.head _)) ?_;refine gH ?_
   refine fg Tryz.func26 ?_;refine gX ?_
   (first|refine O.new (jo rfl) fun g18 h O=>?_|refine O.bF (jo rfl) fun g18 h O=>?_);refine gH ?_
   refine fz ?_;refine gH ?_
   refine jn hm 46 [2,3] (fun s=>s) (fun v20 h=>Own vars h0 [(sC g18 [((ah 4 an) p0.nodes),((ah 1 Value.string) p0.names),((ah 3 ay) p0.mems),((ah 1 i64) p0.outs),(.slice (some ⟨g9,0,none⟩) p0.nodes.length p0.nodes.length)]),(sC g9 (flatC (v20.map n8))),(sC g1 [(aj 1 none (([]:List Nat).map n8)),(aj 1 none (([]:List Nat).map n8))]),(none,.cells (flatC (([]:List Nat).map n8)) false),(none,.cells (flatC (([]:List Nat).map n8)) false),(sC g11 [((ah 4 an) p0.nodes),((ah 1 Value.string) p0.names),((ah 3 ay) p0.mems),((ah 1 i64) p0.outs),(.slice (some ⟨g9,0,none⟩) p0.nodes.length p0.nodes.length)])] h) (fun v20=>[]) (fun hm=>?_) ?_
   ·refine gX ?_
    refine ldA (O.at (.head _)) ?_;refine gH ?_
    refine ca (dK hm O.has) fun r22 hm=>?_;refine gX ?_
    refine lw 46 [2,3,10,11] (σ:=((List Nat)×Nat)) (fun s=>s) (fun (v23,v24) h=>Own vars h0 [(sC g18 [((ah 4 an) p0.nodes),((ah 1 Value.string) p0.names),((ah 3 ay) p0.mems),((ah 1 i64) p0.outs),(.slice (some ⟨g9,0,none⟩) p0.nodes.length p0.nodes.length)]),(sC g9 (flatC (v23.map n8))),(sC g1 [(aj 1 none (([]:List Nat).map n8)),(aj 1 none (([]:List Nat).map n8))]),(none,.cells (flatC (([]:List Nat).map n8)) false),(none,.cells (flatC (([]:List Nat).map n8)) false),(sC g11 [((ah 4 an) p0.nodes),((ah 1 Value.string) p0.names),((ah 3 ay) p0.mems),((ah 1 i64) p0.outs),(.slice (some ⟨g9,0,none⟩) p0.nodes.length p0.nodes.length)])] h) (fun (v23,v24)=>[(12,(i64 v24))]) ((List.replicate p0.nodes.length (0:Nat)),0) hm (O.sel [0,7,8,9,10,1] (by decide)) ?_
    clear hm;rintro⟨v23,v24⟩ nx25 base h hm O
    refine gX ?_
    refine br hm (fun hm=>?_) fun hm=>?_
    ·refine gX ?_
     refine atF hm fun x26 hx26 hm=>?_;refine gX ?_
     first|refine⟨.inr (.inr (ae rfl (O.at (.head _)) rfl rfl)),?_⟩|refine⟨.inr (.inl (by kernel_rfl)),?_⟩
     refine gX ?_
     refine dF ?_
     refine gX ?_
     refine atF hm fun x27 hx27 hm=>?_;refine gH ?_
     refine ix 1 hm fun x28 hx28 hm=>?_;refine gH ?_
     refine O.stE 1 (.tail _ (.head _)) hx28 x27 fun h O=>?_;refine gH ?_
     (first|refine⟨.inr (.inr (ae rfl (O.at (.head _)) rfl rfl)),?_⟩|refine⟨.inr (.inr (ae rfl (O.at (.tail _ (.head _))) rfl rfl)),?_⟩|refine⟨.inr (.inr (ae rfl (O.at (.tail _ (.tail _ (.head _)))) rfl rfl)),?_⟩|refine⟨.inr (.inr (ae rfl (O.at (.tail _ (.tail _ (.tail _ (.head _))))) rfl rfl)),?_⟩|refine⟨.inr (.inr (ae rfl (O.at (.tail _ (.tail _ (.tail _ (.tail _ (.head _)))))) rfl rfl)),?_⟩|refine⟨.inr (.inr (ae rfl (O.at (.tail _ (.tail _ (.tail _ (.tail _ (.tail _ (.head _))))))) rfl rfl)),?_⟩|refine⟨.inr (.inr (ae rfl (O.at (.tail _ (.tail _ (.tail _ (.tail _ (.tail _ (.tail _ (.head _)))))))) rfl rfl)),?_⟩|refine⟨.inl (Ext.refl _),?_⟩|refine⟨.inr (.inr rfl),?_⟩|refine⟨.inr (by kernel_rfl),?_⟩|refine⟨.inl (by kernel_rfl),?_⟩|refine id ?_);refine gH ?_
     refine gX ?_
     refine aR hm fun hm=>?_;refine gH ?_
     exact jx ((v23.set x26 x27),(v24+1)) hm O
    ·refine gX ?_
     exact jx v23 hm O
   ·clear hm;rintro v20 base h hm O
    refine gX ?_
    refine ldA (O.at (.head _)) ?_;refine gH ?_
    refine ca (bX hm O.has) fun r29 hm=>?_;refine gX ?_
    refine lw 46 [2,3,29,30] (σ:=((List Nat)×Nat)) (fun s=>s) (fun (v30,v31) h=>Own vars h0 [(sC g18 [((ah 4 an) p0.nodes),((ah 1 Value.string) p0.names),((ah 3 ay) p0.mems),((ah 1 i64) p0.outs),(.slice (some ⟨g9,0,none⟩) p0.nodes.length p0.nodes.length)]),(sC g9 (flatC (v30.map n8))),(sC g1 [(aj 1 none (([]:List Nat).map n8)),(aj 1 none (([]:List Nat).map n8))]),(none,.cells (flatC (([]:List Nat).map n8)) false),(none,.cells (flatC (([]:List Nat).map n8)) false),(sC g11 [((ah 4 an) p0.nodes),((ah 1 Value.string) p0.names),((ah 3 ay) p0.mems),((ah 1 i64) p0.outs),(.slice (some ⟨g9,0,none⟩) p0.nodes.length p0.nodes.length)])] h) (fun (v30,v31)=>[(31,(i64 v31))]) (v20,0) hm O ?_
    clear hm;rintro⟨v30,v31⟩ nx32 base h hm O
    refine gX ?_
    refine br hm (fun hm=>?_) fun hm=>?_
    ·refine gX ?_
     refine atF hm fun x33 hx33 hm=>?_;refine gX ?_
     first|refine⟨.inr (.inr (ae rfl (O.at (.head _)) rfl rfl)),?_⟩|refine⟨.inr (.inl (by kernel_rfl)),?_⟩
     refine gX ?_
     refine dF ?_
     refine gX ?_
     refine atF hm fun x34 hx34 hm=>?_;refine gH ?_
     refine ix 1 hm fun x35 hx35 hm=>?_;refine gH ?_
     refine O.stE 1 (.tail _ (.head _)) hx35 x34 fun h O=>?_;refine gH ?_
     (first|refine⟨.inr (.inr (ae rfl (O.at (.head _)) rfl rfl)),?_⟩|refine⟨.inr (.inr (ae rfl (O.at (.tail _ (.head _))) rfl rfl)),?_⟩|refine⟨.inr (.inr (ae rfl (O.at (.tail _ (.tail _ (.head _)))) rfl rfl)),?_⟩|refine⟨.inr (.inr (ae rfl (O.at (.tail _ (.tail _ (.tail _ (.head _))))) rfl rfl)),?_⟩|refine⟨.inr (.inr (ae rfl (O.at (.tail _ (.tail _ (.tail _ (.tail _ (.head _)))))) rfl rfl)),?_⟩|refine⟨.inr (.inr (ae rfl (O.at (.tail _ (.tail _ (.tail _ (.tail _ (.tail _ (.head _))))))) rfl rfl)),?_⟩|refine⟨.inr (.inr (ae rfl (O.at (.tail _ (.tail _ (.tail _ (.tail _ (.tail _ (.tail _ (.head _)))))))) rfl rfl)),?_⟩|refine⟨.inl (Ext.refl _),?_⟩|refine⟨.inr (.inr rfl),?_⟩|refine⟨.inr (by kernel_rfl),?_⟩|refine⟨.inl (by kernel_rfl),?_⟩|refine id ?_);refine gH ?_
     refine gX ?_
     refine aR hm fun hm=>?_;refine gH ?_
     exact jx ((v30.set x33 x34),(v31+1)) hm O
    ·refine gX ?_
     refine O.D4 (enc:=n8) (z:=0) (b:=1) (s:=1) (m:=0) (n:=16) rfl rfl rfl rfl rfl (by decide) (by kernel_rfl) rfl rfl (by decide) (by decide) (by decide) fun g36 h O=>?_;refine gH ?_
     refine jn hm 87 [4,9] (fun s=>s) (fun v38 h=>Own vars h0 [(sC g1 [(aj 1 none (([]:List Nat).map n8)),(aj 1 none (([]:List Nat).map n8))]),(none,.cells (flatC (([]:List Nat).map n8)) false),(none,.cells (flatC (([]:List Nat).map n8)) false),(sC g11 [((ah 4 an) p0.nodes),((ah 1 Value.string) p0.names),((ah 3 ay) p0.mems),((ah 1 i64) p0.outs),(.slice (some ⟨g9,0,none⟩) p0.nodes.length p0.nodes.length)]),(sC g9 (flatC (v38.map n8)))] h) (fun v38=>[]) (fun hm=>?_) ?_
     ·refine gX ?_
      refine lw 87 [4,9,40,41] (σ:=((List Nat)×(List Nat)×Nat×Nat)) (fun s=>s) (fun (v40,v41,v42,v43) h=>Own vars h0 [(sC g1 [(aj 1 none (([]:List Nat).map n8)),(aj 1 none (([]:List Nat).map n8))]),(none,.cells (flatC (([]:List Nat).map n8)) false),(none,.cells (flatC (([]:List Nat).map n8)) false),(sC g11 [((ah 4 an) p0.nodes),((ah 1 Value.string) p0.names),((ah 3 ay) p0.mems),((ah 1 i64) p0.outs),(.slice (some ⟨g9,0,none⟩) p0.nodes.length p0.nodes.length)]),(sC g9 (flatC (v40.map n8))),(sC g36 (flatC (v41.map n8)))] h) (fun (v40,v41,v42,v43)=>[(10,(.slice (some ⟨g36,0,none⟩) v42 16)),(42,(i64 v43))]) (v30,(List.replicate 16 (0:Nat)),0,0) hm (O.sel [3,4,5,6,2,0] (by decide)) ?_
      clear hm;rintro⟨v40,v41,v42,v43⟩ nx44 base h hm O
      refine gX ?_
      refine br hm (fun hm=>?_) fun hm=>?_
      ·apply Cs;conv=>whnf
       refine jn hm 87 [4,9,40,41,42] (fun s=>s) (fun (v45,v46,v47) h=>Own vars h0 [(sC g1 [(aj 1 none (([]:List Nat).map n8)),(aj 1 none (([]:List Nat).map n8))]),(none,.cells (flatC (([]:List Nat).map n8)) false),(none,.cells (flatC (([]:List Nat).map n8)) false),(sC g11 [((ah 4 an) p0.nodes),((ah 1 Value.string) p0.names),((ah 3 ay) p0.mems),((ah 1 i64) p0.outs),(.slice (some ⟨g9,0,none⟩) p0.nodes.length p0.nodes.length)]),(sC g9 (flatC (v45.map n8))),(sC g36 (flatC (v46.map n8)))] h) (fun (v45,v46,v47)=>[(10,(.slice (some ⟨g36,0,none⟩) v47 16))]) (fun hm=>?_) ?_
       ·refine gX ?_
        refine atF hm fun x49 hx49 hm=>?_;refine gX ?_
        refine ldO (O.at (.tail _ (.tail _ (.tail _ (.head _))))) ?_;refine gH ?_
        refine atF hm fun x50 hx50 hm=>?_;refine gH ?_
        have O:=O.bc (.cells (flatC ((([]:List Nat)).map i64)) false)
        (first|refine O.new (ai (l:=[(n8 0),nS,(i64 0),(i64 0)]) rfl rfl rfl) fun g51 h O=>?_|refine O.bF (ai (l:=[(n8 0),nS,(i64 0),(i64 0)]) rfl rfl rfl) fun g51 h O=>?_);refine gH ?_
        refine O.stC 4 (.head _) [(n8 x50.kind),((ah 1 i64) x50.ins),(i64 x50.mem),(i64 x50.bit)] fun h O=>?_;refine gX ?_
        refine ca (eK hm O.has) fun r54 hm=>?_;refine gX ?_
        refine br hm (fun hm=>?_) fun hm=>?_
        ·refine gX ?_
         exact jx (v40,v41,v42) hm (O.sel [2,3,4,5,6,7] (by decide))
        ·refine gX ?_
         refine EA (s:=1) (m:=0) rfl rfl rfl rfl hm.1 ?_;refine gH ?_
         replace hm:=hm.2
         refine jn hm 87 [4,9,12,13,40,41,42] (fun s=>s) (fun (v55,v56) h=>Own vars h0 [(sC g1 [(aj 1 none (([]:List Nat).map n8)),(aj 1 none (([]:List Nat).map n8))]),(none,.cells (flatC (([]:List Nat).map n8)) false),(none,.cells (flatC (([]:List Nat).map n8)) false),(sC g11 [((ah 4 an) p0.nodes),((ah 1 Value.string) p0.names),((ah 3 ay) p0.mems),((ah 1 i64) p0.outs),(.slice (some ⟨g9,0,none⟩) p0.nodes.length p0.nodes.length)]),(sC g9 (flatC (v40.map n8))),(sC g36 (flatC (v55.map n8))),(sC g51 [(n8 x50.kind),((ah 1 i64) x50.ins),(i64 x50.mem),(i64 x50.bit)])] h) (fun (v55,v56)=>[(10,(.slice (some ⟨g36,0,none⟩) v56 16))]) (fun hm=>?_) ?_
         ·refine gX ?_
          refine lw 87 [4,9,12,13,40,41,42,59,60] (σ:=((List Nat)×Nat×Nat)) (fun s=>s) (fun (v58,v59,v60) h=>Own vars h0 [(sC g1 [(aj 1 none (([]:List Nat).map n8)),(aj 1 none (([]:List Nat).map n8))]),(none,.cells (flatC (([]:List Nat).map n8)) false),(none,.cells (flatC (([]:List Nat).map n8)) false),(sC g11 [((ah 4 an) p0.nodes),((ah 1 Value.string) p0.names),((ah 3 ay) p0.mems),((ah 1 i64) p0.outs),(.slice (some ⟨g9,0,none⟩) p0.nodes.length p0.nodes.length)]),(sC g9 (flatC (v40.map n8))),(sC g36 (flatC (v58.map n8))),(sC g51 [(n8 x50.kind),((ah 1 i64) x50.ins),(i64 x50.mem),(i64 x50.bit)])] h) (fun (v58,v59,v60)=>[(10,(.slice (some ⟨g36,0,none⟩) v59 16)),(61,(i64 v60))]) (v41,0,0) hm (O.sel [2,3,4,5,6,7,0] (by decide)) ?_
          clear hm;rintro⟨v58,v59,v60⟩ nx61 base h hm O
          refine gX ?_
          refine br hm (fun hm=>?_) fun hm=>?_
          ·refine gX ?_
           refine atF hm fun x62 hx62 hm=>?_;refine gX ?_
           refine ldO (O.at (.tail _ (.tail _ (.tail _ (.head _))))) ?_;refine gH ?_
           refine ix 1 hm fun x63 hx63 hm=>?_;refine gH ?_
           refine ldE (s:=1) (i:=0) (O.at (.tail _ (.tail _ (.tail _ (.tail _ (.head _)))))) hx63 ?_;refine gH ?_
           refine fz ?_;refine gH ?_
           refine O.CE (enc:=n8) (l:=v58) (new:=([x63]:(List Nat))) (s:=1) (b:=1) (.tail _ (.tail _ (.tail _ (.tail _ (.tail _ (.head _)))))) rfl rfl rfl rfl rfl rfl rfl (YOk.fl rfl) (fun _=>rfl) (fun _=>rfl) (Nat.zero_lt_succ _) hm.1 hm.2.1 fun h O=>?_;refine gX ?_
           replace hm:=hm.2.2
           refine aR hm fun hm=>?_;refine gH ?_
           exact jx ((v58.take v59++(([x63]:(List Nat))++v58.drop (v59+1))),(v59+1),(v60+1)) hm O
          ·refine gX ?_
           exact jx (v58,v59) hm O
         ·clear hm;rintro⟨v55,v56⟩ base h hm O
          refine gX ?_
          refine ldO (O.at (.tail _ (.tail _ (.tail _ (.head _))))) ?_;refine gH ?_
          first|refine⟨.inr (.inr (ae rfl (O.at (.tail _ (.tail _ (.tail _ (.head _))))) rfl rfl)),?_⟩|refine⟨.inr (.inl (by kernel_rfl)),?_⟩
          refine gX ?_
          refine ldO (O.at (.tail _ (.tail _ (.tail _ (.tail _ (.tail _ (.tail _ (.head _)))))))) ?_;refine gH ?_
          obtain⟨hn65,hm⟩:=hm
          refine CallD.Ep (fun _ hb=>gN hm hb) (fun _=>rJ rfl) Az O.has (fun h2 F=>(LLe.cons (VLe.refl _ _) (LLe.cons (O.C3 F (Nat.zero_le _) (.tail _ (.tail _ (.tail _ (.tail _ (.tail _ (.head _)))))) (fun _=>rfl) hn65) (LLe.nil _)))) (by kernel_rfl) (fun r64 hm'=>?_);replace hm:=hm';refine gH ?_
          (first|refine⟨.inr (.inr (ae rfl (O.at (.head _)) rfl rfl)),?_⟩|refine⟨.inr (.inr (ae rfl (O.at (.tail _ (.head _))) rfl rfl)),?_⟩|refine⟨.inr (.inr (ae rfl (O.at (.tail _ (.tail _ (.head _)))) rfl rfl)),?_⟩|refine⟨.inr (.inr (ae rfl (O.at (.tail _ (.tail _ (.tail _ (.head _))))) rfl rfl)),?_⟩|refine⟨.inr (.inr (ae rfl (O.at (.tail _ (.tail _ (.tail _ (.tail _ (.head _)))))) rfl rfl)),?_⟩|refine⟨.inr (.inr (ae rfl (O.at (.tail _ (.tail _ (.tail _ (.tail _ (.tail _ (.head _))))))) rfl rfl)),?_⟩|refine⟨.inr (.inr (ae rfl (O.at (.tail _ (.tail _ (.tail _ (.tail _ (.tail _ (.tail _ (.head _)))))))) rfl rfl)),?_⟩|refine⟨.inl (Ext.refl _),?_⟩|refine⟨.inr (.inr rfl),?_⟩|refine⟨.inr (by kernel_rfl),?_⟩|refine⟨.inl (by kernel_rfl),?_⟩|refine id ?_);refine gH ?_
          refine ix 1 hm fun x66 hx66 hm=>?_;refine gH ?_
          refine O.stE 1 (.tail _ (.tail _ (.tail _ (.tail _ (.head _))))) hx66 r64 fun h O=>?_;refine gH ?_
          (first|refine⟨.inr (.inr (ae rfl (O.at (.head _)) rfl rfl)),?_⟩|refine⟨.inr (.inr (ae rfl (O.at (.tail _ (.head _))) rfl rfl)),?_⟩|refine⟨.inr (.inr (ae rfl (O.at (.tail _ (.tail _ (.head _)))) rfl rfl)),?_⟩|refine⟨.inr (.inr (ae rfl (O.at (.tail _ (.tail _ (.tail _ (.head _))))) rfl rfl)),?_⟩|refine⟨.inr (.inr (ae rfl (O.at (.tail _ (.tail _ (.tail _ (.tail _ (.head _)))))) rfl rfl)),?_⟩|refine⟨.inr (.inr (ae rfl (O.at (.tail _ (.tail _ (.tail _ (.tail _ (.tail _ (.head _))))))) rfl rfl)),?_⟩|refine⟨.inr (.inr (ae rfl (O.at (.tail _ (.tail _ (.tail _ (.tail _ (.tail _ (.tail _ (.head _)))))))) rfl rfl)),?_⟩|refine⟨.inl (Ext.refl _),?_⟩|refine⟨.inr (.inr rfl),?_⟩|refine⟨.inr (by kernel_rfl),?_⟩|refine⟨.inl (by kernel_rfl),?_⟩|refine id ?_);refine gH ?_
          exact jx ((v40.set x49 r64),v55,v56) hm (O.sel [0,1,2,3,4,5] (by decide))
       ·clear hm;rintro⟨v45,v46,v47⟩ base h hm O
        refine gX ?_
        refine aR hm fun hm=>?_;refine gH ?_
        exact jx (v45,v46,v47,(v43+1)) hm O
      ·refine gX ?_
       exact jx v40 hm (O.sel [0,1,2,3,4] (by decide))
     ·clear hm;rintro v38 base h hm O
      conv=>whnf
      apply Cs;conv=>whnf
      obtain⟨hn67,hm⟩:=hm
      refine CodeS.BQ (cs2':=[((ah 4 an) p0.nodes),((ah 1 Value.string) p0.names),((ah 3 ay) p0.mems),((ah 1 i64) p0.outs),((ah 1 n8) v38)]) (v:=(.agg ⟨[((ah 4 an) p0.nodes),((ah 1 Value.string) p0.names),((ah 3 ay) p0.mems),((ah 1 i64) p0.outs),((ah 1 n8) v38)]⟩)) O (.tail _ (.tail _ (.tail _ (.tail _ (.head _))))) (.tail _ (.tail _ (.tail _ (.head _)))) (j:=4) (t2:=9) rfl rfl rfl rfl (fun h2 q=>(LLe.cons (VLe.refl _ _) (LLe.cons (VLe.refl _ _) (LLe.cons (VLe.refl _ _) (LLe.cons (VLe.refl _ _) (LLe.cons (VLe.flM q hn67 (fun _=>rfl)) (LLe.nil _))))))) fun h O=>?_;conv=>whnf
      refine CodeS.lN ?_;refine gH ?_
      refine ca (nT hm O.has) fun r68 hm=>?_;refine gH ?_
      refine O.stC 2 (.head _) [((ah 1 n8) r68.out),((ah 1 n8) r68.next)] fun h O=>?_;refine gX ?_
      refine⟨_,aL rfl rfl (O.at (.head _)) rfl rfl (lbE rfl) rfl,?_⟩;conv=>whnf
      exact⟨(r68,v38,0),hm,O.ext,fun h2 F=>VLe.tup (LLe.cons (VLe.refl _ _) (LLe.cons (VLe.refl _ _) (LLe.cons (VLe.refl _ _) (LLe.nil _))))⟩
set_option maxHeartbeats 8000000
def cD (p0:Circ) (K:Nat->Prop):Prop :=
 cJ p0 (fun r1=>((neN r1 0)=true->K r1)/\((neN r1 0)=false->((ltN 0 p0.mems.length)=true->K 7)/\((ltN 0 p0.mems.length)=false->K 0)))
theorem iR {p0:Circ}{K:Nat->Prop} (hm:cD p0 K) {h0:Heap} (hB:HasB vars h0):∃ r,K r/\CallD Tryz.prog NG 40 ⟨[ax p0]⟩ h0 (i64 r) h0:=by
 unfold cD at hm
 refine fw Tryz.func40 hB (enc:=i64) (fun r=>PureV.flat rfl) fun O=>?_;conv=>whnf
 refine gX ?_
 refine fz ?_;refine gX ?_
 refine ca (lF hm O.has) fun r1 hm=>?_;refine gX ?_
 refine br hm (fun hm=>?_) fun hm=>?_
 ·refine gX ?_
  exact fe hm O
 ·refine gX ?_
  refine br hm (fun hm=>?_) fun hm=>?_
  ·refine gX ?_
   exact fe hm O
  ·refine gX ?_
   exact fe hm O
def fE (p0:Circ) (p1:Nat) (K:(List Bool)->Prop):Prop :=
 1*p0.nodes.length<=2 ^ 48/\p0.nodes.length<2 ^ 63/\p1<p0.nodes.length/\∃ x3,(List.replicate p0.nodes.length (false:Bool))[p1]?=some x3/\ar (α:=(List Bool)) (fun k5=>aB (S:=((List Bool)×(List Nat))) (fun (v8,v12) nx15=>((ltN 0 v12.length)=true->1<=v12.length/\v12.length<2 ^ 63/\∃ x16,v12[(v12.length-1)]?=some x16/\1<=v12.length/\v12.length<2 ^ 63/\(v12.length-1)<=v12.length/\∃ x18,p0.nodes[x16]?=some x18/\((eqN x18.kind 14)=true->nx15 (v8,(v12.take (v12.length-1))))/\((eqN x18.kind 14)=false->∃ x19,p0.nodes[x16]?=some x19/\aB (S:=((List Bool)×(List Nat)×Nat)) (fun (v20,v24,v25) nx28=>((ltN v25 x19.ins.length)=true->ar (α:=((List Bool)×(List Nat))) (fun k36=>∃ x37,x19.ins[v25]?=some x37/\x37<p0.nodes.length/\∃ x38,v20[x37]?=some x38/\((!x38)=true->(v24.length+([x37]:(List Nat)).length)*8<=2 ^ 47/\x37<p0.nodes.length/\∃ x44,v20[x37]?=some x44/\k36 ((v20.set x37 true),(v24++([x37]:(List Nat)))))/\((!x38)=false->k36 (v20,v24))) (fun (v29,v33)=>v25+1<2 ^ 63/\nx28 (v29,v33,(v25+1))))/\((ltN v25 x19.ins.length)=false->nx15 (v20,v24))) (v8,(v12.take (v12.length-1)),0)))/\((ltN 0 v12.length)=false->k5 v8)) (((List.replicate p0.nodes.length (false:Bool)).set p1 true),([p1]:(List Nat)))) (fun v4=>p0.nodes.length=v4.length/\K v4)
theorem jr {p0:Circ}{p1:Nat}{K:(List Bool)->Prop} (hm:fE p0 p1 K) {h0:Heap} (hB:HasB vars h0):∃ r,K r/\CallD Tryz.prog NG 119 ⟨[ax p0,i64 p1]⟩ h0 ((ah 1 Value.bool) r) h0:=by
 unfold fE at hm
 refine fw Tryz.func119 hB (enc:=(ah 1 Value.bool)) (fun r=>cb (fun _=>ag.cons (PureV.flat rfl) ag.nil)) fun O=>?_;conv=>whnf
 refine gX ?_
 refine fz ?_;refine gX ?_
 refine O.mkL (enc:=Value.bool) 1 1 false hm fun g1 h O hm=>?_;refine gX ?_
 refine ix 1 hm fun x3 hx3 hm=>?_;refine gH ?_
 refine O.stE 1 (.head _) hx3 true fun h O=>?_;refine gH ?_
 refine jn hm 65 [5] (fun s=>s) (fun v4 h=>Own vars h0 [(sC g1 (flatC (v4.map Value.bool)))] h) (fun v4=>[]) (fun hm=>?_) ?_
 ·refine gX ?_
  refine O.oj (l:=([p1]:(List Nat))) (enc:=i64) (s:=1) (z:=(i64 0)) rfl rfl (by kernel_rfl) (by kernel_rfl) rfl rfl rfl rfl (fun _=>rfl) fun g6 h O=>?_;refine gX ?_
  refine lw 65 [2,5] (σ:=((List Bool)×(List Nat))×(Option Nat×Option Nat×(List Nat))) (fun s=>s.1) (fun ((v8,v12),(a9,a10,a11)) h=>(a9=none->v12++a11=[])/\(a10=none\/a10=some 1)/\Own vars h0 [(sC g1 (flatC (v8.map Value.bool))),(a9,.cells (flatC ((v12++a11).map i64)) false)] h) (fun ((v8,v12),(a9,a10,a11))=>[(6,(stV i64 a9 a10 v12 a11))]) ((((List.replicate p0.nodes.length (false:Bool)).set p1 true),([p1]:(List Nat))),((some g6),none,([]:(List Nat)))) hm ⟨gG,(.inl rfl),(O.sel [1,0] (by decide))⟩ ?_
  clear hm;rintro⟨⟨v8,v12⟩,⟨a9,a10,a11⟩⟩ nx15 base h hm ⟨ha13,ht14,O⟩
  refine gX ?_
  refine br hm (fun hm=>?_) fun hm=>?_
  ·refine gX ?_
   refine rf hm fun hm=>?_;refine gH ?_
   obtain⟨x16,hx16,hm⟩:=hm
   have h9:=hm
   obtain⟨g17,rfl⟩:=DD ha13 hx16
   replace hm:=h9
   refine bV (s:=1) (j:=(v12.length-1)) rfl rfl rfl rfl (ak hx16) ?_;refine gH ?_
   replace hx16:=Es (J:=a11) hx16
   refine ldE (s:=1) (i:=0) (O.at (.tail _ (.head _))) hx16 ?_;refine gX ?_
   refine rf hm fun hm=>?_;refine gH ?_
   refine Ey (enc:=i64) (l:=v12) (J:=a11) (s:=1) (k:=(v12.length-1)) rfl rfl rfl ht14 rfl hm.1 ?_;refine gX ?_
   rw[ER (enc:=i64) v12 a11 (v12.length-1)] at O
   replace hm:=hm.2
   refine atF hm fun x18 hx18 hm=>?_;refine gX ?_
   refine br hm (fun hm=>?_) fun hm=>?_
   ·refine gX ?_
    exact jx ((v8,(v12.take (v12.length-1))),((some g17),a10,(v12.drop (v12.length-1)++a11))) hm ⟨gG,ht14,O⟩
   ·refine gX ?_
    refine atF hm fun x19 hx19 hm=>?_;refine gX ?_
    refine lw 65 [2,5,45,46] (σ:=((List Bool)×(List Nat)×Nat)×(Option Nat×Option Nat×(List Nat))) (fun s=>s.1) (fun ((v20,v24,v25),(a21,a22,a23)) h=>(a21=none->v24++a23=[])/\(a22=none\/a22=some 1)/\Own vars h0 [(sC g1 (flatC (v20.map Value.bool))),(a21,.cells (flatC ((v24++a23).map i64)) false)] h) (fun ((v20,v24,v25),(a21,a22,a23))=>[(6,(stV i64 a21 a22 v24 a23)),(47,(i64 v25))]) ((v8,(v12.take (v12.length-1)),0),((some g17),a10,(v12.drop (v12.length-1)++a11))) hm ⟨gG,ht14,O⟩ ?_
    clear hm;rintro⟨⟨v20,v24,v25⟩,⟨a21,a22,a23⟩⟩ nx28 base h hm ⟨ha26,ht27,O⟩
    refine gX ?_
    refine br hm (fun hm=>?_) fun hm=>?_
    ·apply Cs;conv=>whnf
     refine jn (σ:=((List Bool)×(List Nat))×(Option Nat×Option Nat×(List Nat))) hm 65 [2,5,45,46,47] (fun s=>s.1) (fun ((v29,v33),(a30,a31,a32)) h=>(a30=none->v33++a32=[])/\(a31=none\/a31=some 1)/\Own vars h0 [(sC g1 (flatC (v29.map Value.bool))),(a30,.cells (flatC ((v33++a32).map i64)) false)] h) (fun ((v29,v33),(a30,a31,a32))=>[(6,(stV i64 a30 a31 v33 a32))]) (fun hm=>?_) ?_
     ·refine gX ?_
      refine atF hm fun x37 hx37 hm=>?_;refine gX ?_
      refine ix 1 hm fun x38 hx38 hm=>?_;refine gH ?_
      refine ldE (s:=1) (i:=0) (O.at (.head _)) hx38 ?_;refine gX ?_
      refine br hm (fun hm=>?_) fun hm=>?_
      ·refine gX ?_
       refine fz ?_;refine gH ?_
       refine O.Dl (enc:=i64) (l:=v24) (J:=a23) (new:=([x37]:(List Nat))) (s:=1) (b:=8) (.tail _ (.head _)) ha26 ht27 rfl rfl rfl rfl rfl rfl rfl rfl (YOk.fl rfl) (fun _=>rfl) (fun _=>rfl) (by decide) hm.1 fun a39 a40 a41 h ha42 ht43 O=>?_;refine gH ?_
       replace hm:=hm.2
       refine ix 1 hm fun x44 hx44 hm=>?_;refine gH ?_
       refine O.stE 1 (.head _) hx44 true fun h O=>?_;refine gH ?_
       exact jx (((v20.set x37 true),(v24++([x37]:(List Nat)))),(a39,a40,a41)) hm ⟨ha42,ht43,O⟩
      ·refine gX ?_
       exact jx ((v20,v24),(a21,a22,a23)) hm ⟨ha26,ht27,O⟩
     ·clear hm;rintro⟨⟨v29,v33⟩,⟨a30,a31,a32⟩⟩ base h hm ⟨ha34,ht35,O⟩
      refine gX ?_
      refine aR hm fun hm=>?_;refine gH ?_
      exact jx ((v29,v33,(v25+1)),(a30,a31,a32)) hm ⟨ha34,ht35,O⟩
    ·refine gX ?_
     exact jx ((v20,v24),(a21,a22,a23)) hm ⟨ha26,ht27,O⟩
  ·refine gX ?_
   exact jx v8 hm (O.sel [0] (by decide))
 ·clear hm;rintro v4 base h hm O
  refine gX ?_
  obtain⟨hn45,hm⟩:=hm
  exact⟨v4,hm,O.ext,fun h2 F=>O.iu F (Nat.le_refl _) (.head _) (fun _=>rfl) hn45⟩
def dD (p0:Circ) (p1:LnZ) (K:Bool->Prop):Prop :=
 ((!ltN p1.node 0)=true->((ltN p1.node p0.nodes.length)=true->((!ltI p1.pin (Int.negSucc 0))=true->∃ x1,p0.nodes[p1.node]?=some x1/\K (ltI p1.pin (Int.ofNat x1.ins.length)))/\((!ltI p1.pin (Int.negSucc 0))=false->K false))/\((ltN p1.node p0.nodes.length)=false->K false))/\((!ltN p1.node 0)=false->K false)
theorem oi {p0:Circ}{p1:LnZ}{K:Bool->Prop} (hm:dD p0 p1 K) {h0:Heap} (hB:HasB vars h0):∃ r,K r/\CallD Tryz.prog NG 120 ⟨[ax p0,au p1]⟩ h0 (Value.bool r) h0:=by
 unfold dD at hm
 refine fw Tryz.func120 hB (enc:=Value.bool) (fun r=>PureV.flat rfl) fun O=>?_;conv=>whnf
 refine gX ?_
 refine fz ?_;refine gH ?_
 refine fz ?_;refine gX ?_
 refine br hm (fun hm=>?_) fun hm=>?_
 ·refine gX ?_
  refine dF ?_
  refine gX ?_
  refine br hm (fun hm=>?_) fun hm=>?_
  ·refine gX ?_
   refine br hm (fun hm=>?_) fun hm=>?_
   ·refine gX ?_
    refine dF ?_
    refine gX ?_
    refine atF hm fun x1 hx1 hm=>?_;refine gH ?_
    refine dF ?_
    refine gX ?_
    exact fe hm O
   ·refine gX ?_
    exact fe hm O
  ·refine gX ?_
   refine bf ?_;refine gX ?_
   exact fe hm O
 ·refine gX ?_
  refine bf ?_;refine gH ?_
  refine bf ?_;refine gX ?_
  exact fe hm O
def gh (p0:Circ) (p1:Flt) (K:Nat->Prop):Prop :=
 ar (α:=Bool) (fun k2=>((neZ p1.line.pin (Int.negSucc 0))=true->k2 true)/\((neZ p1.line.pin (Int.negSucc 0))=false->((ltN p1.other 0)=true->k2 true)/\((ltN p1.other 0)=false->((!ltN p1.other p0.nodes.length)=true->k2 true)/\((!ltN p1.other p0.nodes.length)=false->((eqN p1.line.node p1.other)=true->k2 true)/\((eqN p1.line.node p1.other)=false->((eqN p1.model 2)=true->((ltN p1.other p1.line.node)=true->k2 true)/\((ltN p1.other p1.line.node)=false->((eqN p1.model 3)=true->k2 (neN p1.value 0))/\((eqN p1.model 3)=false->k2 false)))/\((eqN p1.model 2)=false->((eqN p1.model 3)=true->k2 (neN p1.value 0))/\((eqN p1.model 3)=false->k2 false))))))) (fun v1=>(v1=true->K 1)/\(v1=false->ar (α:=Bool) (fun k4=>∃ x5,p0.nodes[p1.line.node]?=some x5/\((eqN x5.kind 12)=true->k4 true)/\((eqN x5.kind 12)=false->∃ x6,p0.nodes[p1.other]?=some x6/\k4 (eqN x6.kind 12))) (fun v3=>(v3=true->K 7)/\(v3=false->ar (α:=Bool) (fun k8=>fE p0 p1.line.node (fun r9=>∃ x10,r9[p1.other]?=some x10/\(x10=true->k8 true)/\(x10=false->fE p0 p1.other (fun r11=>∃ x12,r11[p1.line.node]?=some x12/\k8 x12)))) (fun v7=>(v7=true->K 6)/\(v7=false->K 0))))))
theorem mo {p0:Circ}{p1:Flt}{K:Nat->Prop} (hm:gh p0 p1 K) {h0:Heap} (hB:HasB vars h0):∃ r,K r/\CallD Tryz.prog NG 121 ⟨[ax p0,bE p1]⟩ h0 (i64 r) h0:=by
 unfold gh at hm
 refine fw Tryz.func121 hB (enc:=i64) (fun r=>PureV.flat rfl) fun O=>?_;conv=>whnf
 refine gX ?_
 refine fz ?_;refine gH ?_
 refine fz ?_;refine gH ?_
 apply Cs;conv=>whnf
 apply Cs;refine gH ?_
 apply Cs;conv=>whnf
 apply Cs;conv=>whnf
 refine jn hm 85 [2,5,6] (fun s=>s) (fun v1 h=>Own vars h0 [] h) (fun v1=>[(12,(.bool v1))]) (fun hm=>?_) ?_
 ·refine gX ?_
  refine br hm (fun hm=>?_) fun hm=>?_
  ·refine gX ?_
   refine bt ?_;refine gH ?_
   refine bt ?_;refine gH ?_
   refine bt ?_;refine gH ?_
   refine bt ?_;refine gH ?_
   exact jx true hm O
  ·refine gX ?_
   refine br hm (fun hm=>?_) fun hm=>?_
   ·refine gX ?_
    refine bt ?_;refine gH ?_
    refine bt ?_;refine gH ?_
    refine bt ?_;refine gH ?_
    exact jx true hm O
   ·refine gX ?_
    refine br hm (fun hm=>?_) fun hm=>?_
    ·refine gX ?_
     refine bt ?_;refine gH ?_
     refine bt ?_;refine gH ?_
     exact jx true hm O
    ·refine gX ?_
     refine br hm (fun hm=>?_) fun hm=>?_
     ·refine gX ?_
      refine bt ?_;refine gH ?_
      exact jx true hm O
     ·refine gX ?_
      refine br hm (fun hm=>?_) fun hm=>?_
      ·refine gX ?_
       refine br hm (fun hm=>?_) fun hm=>?_
       ·refine gX ?_
        exact jx true hm O
       ·refine gX ?_
        refine br hm (fun hm=>?_) fun hm=>?_
        ·refine gX ?_
         exact jx (neN p1.value 0) hm O
        ·refine gX ?_
         exact jx false hm O
      ·refine gX ?_
       refine bf ?_;refine gH ?_
       refine br hm (fun hm=>?_) fun hm=>?_
       ·refine gX ?_
        exact jx (neN p1.value 0) hm O
       ·refine gX ?_
        exact jx false hm O
 ·clear hm;rintro v1 base h hm O
  refine gX ?_
  refine br hm (fun hm=>?_) fun hm=>?_
  ·refine gX ?_
   exact fe hm O
  ·refine jn hm 85 [2,5,6] (fun s=>s) (fun v3 h=>Own vars h0 [] h) (fun v3=>[(53,(.bool v3))]) (fun hm=>?_) ?_
   ·refine gX ?_
    refine atF hm fun x5 hx5 hm=>?_;refine gH ?_
    refine br hm (fun hm=>?_) fun hm=>?_
    ·refine gX ?_
     exact jx true hm O
    ·refine gX ?_
     refine atF hm fun x6 hx6 hm=>?_;refine gH ?_
     exact jx (eqN x6.kind 12) hm O
   ·clear hm;rintro v3 base h hm O
    refine gX ?_
    refine br hm (fun hm=>?_) fun hm=>?_
    ·refine gX ?_
     exact fe hm O
    ·refine jn hm 85 [] (fun s=>s) (fun v7 h=>Own vars h0 [] h) (fun v7=>[(70,(.bool v7))]) (fun hm=>?_) ?_
     ·refine gX ?_
      refine ca (jr hm O.has) fun r9 hm=>?_;refine gH ?_
      refine atF hm fun x10 hx10 hm=>?_;refine gH ?_
      refine br hm (fun hm=>?_) fun hm=>?_
      ·refine gX ?_
       exact jx true hm O
      ·refine gX ?_
       refine ca (jr hm O.has) fun r11 hm=>?_;refine gH ?_
       refine atF hm fun x12 hx12 hm=>?_;refine gH ?_
       exact jx x12 hm O
     ·clear hm;rintro v7 base h hm O
      refine gX ?_
      refine br hm (fun hm=>?_) fun hm=>?_
      ·refine gX ?_
       exact fe hm O
      ·refine gX ?_
       exact fe hm O
def df (p0:Circ) (p1:Flt) (K:Nat->Prop):Prop :=
 cD p0 (fun r1=>((neN r1 0)=true->K r1)/\((neN r1 0)=false->ar (α:=Bool) (fun k3=>((ltN 3 p1.model)=true->k3 true)/\((ltN 3 p1.model)=false->((ltN 1 p1.value)=true->k3 true)/\((ltN 1 p1.value)=false->dD p0 p1.line (fun r4=>k3 (!r4))))) (fun v2=>(v2=true->K 1)/\(v2=false->((!ltN p1.model 2)=true->gh p0 p1 (fun r5=>K r5))/\((!ltN p1.model 2)=false->((neN p1.other 0)=true->K 1)/\((neN p1.other 0)=false->K 0))))))
theorem nz {p0:Circ}{p1:Flt}{K:Nat->Prop} (hm:df p0 p1 K) {h0:Heap} (hB:HasB vars h0):∃ r,K r/\CallD Tryz.prog NG 96 ⟨[ax p0,bE p1]⟩ h0 (i64 r) h0:=by
 unfold df at hm
 refine fw Tryz.func96 hB (enc:=i64) (fun r=>PureV.flat rfl) fun O=>?_;conv=>whnf
 refine gX ?_
 refine fz ?_;refine gH ?_
 refine fz ?_;refine gX ?_
 refine ca (iR hm O.has) fun r1 hm=>?_;refine gX ?_
 refine br hm (fun hm=>?_) fun hm=>?_
 ·refine gX ?_
  exact fe hm O
 ·apply Cs;conv=>whnf
  apply Cs;conv=>whnf
  apply Cs;conv=>whnf
  refine jn hm 38 [2,3] (fun s=>s) (fun v2 h=>Own vars h0 [] h) (fun v2=>[(11,(.bool v2))]) (fun hm=>?_) ?_
  ·refine gX ?_
   refine br hm (fun hm=>?_) fun hm=>?_
   ·refine gX ?_
    refine bt ?_;refine gH ?_
    exact jx true hm O
   ·refine gX ?_
    refine br hm (fun hm=>?_) fun hm=>?_
    ·refine gX ?_
     exact jx true hm O
    ·refine gX ?_
     refine ca (oi hm O.has) fun r4 hm=>?_;refine gH ?_
     exact jx (!r4) hm O
  ·clear hm;rintro v2 base h hm O
   refine gX ?_
   refine br hm (fun hm=>?_) fun hm=>?_
   ·refine gX ?_
    exact fe hm O
   ·refine gX ?_
    refine br hm (fun hm=>?_) fun hm=>?_
    ·refine gX ?_
     refine ca (mo hm O.has) fun r5 hm=>?_;refine gX ?_
     exact fe hm O
    ·refine gX ?_
     refine br hm (fun hm=>?_) fun hm=>?_
     ·refine gX ?_
      exact fe hm O
     ·refine gX ?_
      exact fe hm O
def bw (p0:Circ) (K:((List LnZ)×Nat)->Prop):Prop :=
 cD p0 (fun r1=>((neN r1 0)=true->K ([],r1))/\((neN r1 0)=false->ar (α:=(List LnZ)) (fun k6=>aB (S:=((List LnZ)×Nat)) (fun (v8,v9) nx11=>((ltN v9 p0.nodes.length)=true->ar (α:=(List LnZ)) (fun k15=>∃ x16,p0.nodes[v9]?=some x16/\x16.ins.length+1<2 ^ 63/\aB (S:=((List LnZ)×Nat)) (fun (v20,v21) nx23=>((ltN v21 (x16.ins.length+1))=true -> -(2 ^ 63)<=((Int.ofNat v21)-(Int.ofNat 1))/\((Int.ofNat v21)-(Int.ofNat 1))<2 ^ 63/\(v20.length+([(⟨v9,((Int.ofNat v21)-(Int.ofNat 1))⟩:LnZ)]:(List LnZ)).length)*16<=2 ^ 47/\v21+1<2 ^ 63/\nx23 ((v20++([(⟨v9,((Int.ofNat v21)-(Int.ofNat 1))⟩:LnZ)]:(List LnZ))),(v21+1)))/\((ltN v21 (x16.ins.length+1))=false->k15 v20)) (v8,0)) (fun v13=>v9+1<2 ^ 63/\nx11 (v13,(v9+1))))/\((ltN v9 p0.nodes.length)=false->k6 v8)) (([]:List LnZ),0)) (fun v4=>K (v4,0))))
theorem dr {p0:Circ}{K:((List LnZ)×Nat)->Prop} (hm:bw p0 K) {h0:Heap} (hB:HasB vars h0):∃ r,K r/\CallD Tryz.prog NG 14 ⟨[ax p0]⟩ h0 ((fun (r:((List LnZ)×Nat))=>Value.tuple ⟨[(ah 2 au) (r.1),i64 (r.2)]⟩) r) h0:=by
 unfold bw at hm
 refine fw Tryz.func14 hB (enc:=(fun (r:((List LnZ)×Nat))=>Value.tuple ⟨[(ah 2 au) (r.1),i64 (r.2)]⟩)) (fun r=>PureV.tup (ag.cons (cb (fun _=>tt _)) (ag.cons (PureV.flat rfl) (ag.nil)))) fun O=>?_;conv=>whnf
 refine gX ?_
 refine fz ?_;refine gX ?_
 refine ca (iR hm O.has) fun r1 hm=>?_;refine gX ?_
 refine br hm (fun hm=>?_) fun hm=>?_
 ·refine gX ?_
  exact⟨([],r1),hm,O.ext,fun h2 F=>VLe.tup (LLe.cons (VLe.nil _ _) (LLe.cons (VLe.refl _ _) (LLe.nil _)))⟩
 ·apply Cs;conv=>whnf
  apply Cs;conv=>whnf
  apply Cs;refine gH ?_
  have O:=O.bc (.cells (flatC ((([]:List LnZ)).map au)) false)
  refine jn (σ:=(List LnZ)×Option Nat) hm 40 [] (fun s=>s.1) (fun (v4,a3) h=>(a3=none->v4=[])/\Own vars h0 [(a3,.cells (flatC (v4.map au)) false)] h) (fun (v4,a3)=>[(5,(aj 2 a3 (v4.map au)))]) (fun hm=>?_) ?_
  ·refine gX ?_
   refine lw 40 [15,16] (σ:=((List LnZ)×Nat)×Option Nat) (fun s=>s.1) (fun ((v8,v9),a7) h=>(a7=none->v8=[])/\Own vars h0 [(a7,.cells (flatC (v8.map au)) false)] h) (fun ((v8,v9),a7)=>[(5,(aj 2 a7 (v8.map au))),(17,(i64 v9))]) ((([]:List LnZ),0),none) hm ⟨(fun _=>rfl),O⟩ ?_
   clear hm;rintro⟨⟨v8,v9⟩,a7⟩ nx11 base h hm ⟨ha10,O⟩
   refine gX ?_
   refine br hm (fun hm=>?_) fun hm=>?_
   ·apply Cs;conv=>whnf
    refine jn (σ:=(List LnZ)×Option Nat) hm 40 [15,16,17] (fun s=>s.1) (fun (v13,a12) h=>(a12=none->v13=[])/\Own vars h0 [(a12,.cells (flatC (v13.map au)) false)] h) (fun (v13,a12)=>[(5,(aj 2 a12 (v13.map au)))]) (fun hm=>?_) ?_
    ·refine gX ?_
     refine atF hm fun x16 hx16 hm=>?_;refine gH ?_
     (first|refine O.new (ai (l:=[(n8 0),nS,(i64 0),(i64 0)]) rfl rfl rfl) fun g17 h O=>?_|refine O.bF (ai (l:=[(n8 0),nS,(i64 0),(i64 0)]) rfl rfl rfl) fun g17 h O=>?_);refine gH ?_
     refine O.stC 4 (.head _) [(n8 x16.kind),((ah 1 i64) x16.ins),(i64 x16.mem),(i64 x16.bit)] fun h O=>?_;refine gX ?_
     refine aR hm fun hm=>?_;refine gX ?_
     refine lw 40 [6,15,16,17,25] (σ:=((List LnZ)×Nat)×Option Nat) (fun s=>s.1) (fun ((v20,v21),a19) h=>(a19=none->v20=[])/\Own vars h0 [(a19,.cells (flatC (v20.map au)) false)] h) (fun ((v20,v21),a19)=>[(5,(aj 2 a19 (v20.map au))),(26,(i64 v21))]) ((v8,0),a7) hm ⟨ha10,(O.sel [1] (by decide))⟩ ?_
     clear hm;rintro⟨⟨v20,v21⟩,a19⟩ nx23 base h hm ⟨ha22,O⟩
     refine gX ?_
     refine br hm (fun hm=>?_) fun hm=>?_
     ·refine gX ?_
      refine⟨_,zN (a:=(Int.ofNat v21)) (b:=(Int.ofNat 1)) rfl rfl hm.1 hm.2.1,?_⟩;refine gH ?_
      replace hm:=hm.2.2
      refine fz ?_;refine gH ?_
      refine O.apL (enc:=au) (l:=v20) (new:=([(⟨v9,((Int.ofNat v21)-(Int.ofNat 1))⟩:LnZ)]:(List LnZ))) 2 (.head _) ha22 hm fun a24 h ha25 O hm=>?_;refine gX ?_
      refine aR hm fun hm=>?_;refine gH ?_
      exact jx (((v20++([(⟨v9,((Int.ofNat v21)-(Int.ofNat 1))⟩:LnZ)]:(List LnZ))),(v21+1)),a24) hm ⟨ha25,O⟩
     ·refine gX ?_
      exact jx (v20,a19) hm ⟨ha22,O⟩
    ·clear hm;rintro⟨v13,a12⟩ base h hm ⟨ha14,O⟩
     refine gX ?_
     refine aR hm fun hm=>?_;refine gH ?_
     exact jx ((v13,(v9+1)),a12) hm ⟨ha14,O⟩
   ·refine gX ?_
    exact jx (v8,a7) hm ⟨ha10,O⟩
  ·clear hm;rintro⟨v4,a3⟩ base h hm ⟨ha5,O⟩
   refine gX ?_
   refine fg Tryz.func22 ?_;refine gX ?_
   refine lT (s:=2) (enc:=au) (l:=v4) (n:=v4.length) (m:=v4.length) rfl rfl rfl rfl rfl rfl rfl ?_;refine gX ?_
   exact⟨(v4,0),hm,O.ext,fun h2 F=>VLe.tup (LLe.cons (O.mM F (Nat.le_refl _) (.head _) ha5 (fun _=>rfl)) (LLe.cons (VLe.refl _ _) (LLe.nil _)))⟩
set_option maxHeartbeats 8000000
abbrev clo (f:FuncId) (l:List Value):Value:=.func (.func f) ⟨[]⟩ ⟨l⟩
abbrev cy (c:Circ) (s f g:Value):List Value:=[(ah 4 an) c.nodes,(ah 1 Value.string) c.names,(ah 3 ay) c.mems,(ah 1 i64) c.outs,s,f,g]
def bM (p0:(List Nat)) (p1:(List Nat)) (K:(List Nat)->Prop):Prop :=
 ar (α:=(List Nat)) (fun k5=>aB (S:=((List Nat)×Nat)) (fun (v7,v8) nx10=>((ltN v8 (min p0.length p1.length))=true->ar (α:=(List Nat)) (fun k14=>ar (α:=Bool) (fun k17=>∃ x18,p0[v8]?=some x18/\((!ltN 1 x18)=true->∃ x19,p1[v8]?=some x19/\((!ltN 1 x19)=true->∃ x20,p0[v8]?=some x20/\∃ x21,p1[v8]?=some x21/\k17 (neN x20 x21))/\((!ltN 1 x19)=false->k17 false))/\((!ltN 1 x18)=false->k17 false)) (fun v15=>(v15=true->(v7.length+([v8]:(List Nat)).length)*8<=2 ^ 47/\k14 (v7++([v8]:(List Nat))))/\(v15=false->k14 v7))) (fun v12=>v8+1<2 ^ 63/\nx10 (v12,(v8+1))))/\((ltN v8 (min p0.length p1.length))=false->k5 v7)) (([]:List Nat),0)) (fun v3=>K v3)
theorem gI {p0:(List Nat)}{p1:(List Nat)}{K:(List Nat)->Prop} (hm:bM p0 p1 K) {h0:Heap} (hB:HasB vars h0):∃ r,K r/\CallD Tryz.prog NG 137 ⟨[(ah 1 n8) p0,(ah 1 n8) p1]⟩ h0 ((ah 1 i64) r) h0:=by
 unfold bM at hm
 refine fw Tryz.func137 hB (enc:=(ah 1 i64)) (fun r=>cb (fun _=>ag.cons (PureV.flat rfl) ag.nil)) fun O=>?_;conv=>whnf
 apply Cs;conv=>whnf
 apply Cs;refine gH ?_
 apply Cs;conv=>whnf
 apply Cs;refine gH ?_
 have O:=O.bc (.cells (flatC ((([]:List Nat)).map i64)) false)
 refine jn (σ:=(List Nat)×Option Nat) hm 45 [] (fun s=>s.1) (fun (v3,a2) h=>(a2=none->v3=[])/\Own vars h0 [(a2,.cells (flatC (v3.map i64)) false)] h) (fun (v3,a2)=>[(5,(aj 1 a2 (v3.map i64)))]) (fun hm=>?_) ?_
 ·refine gX ?_
  refine⟨_,Dp (a:=p0.length) (b:=p1.length) rfl rfl,?_⟩;refine gX ?_
  refine lw 45 [0,1,11] (σ:=((List Nat)×Nat)×Option Nat) (fun s=>s.1) (fun ((v7,v8),a6) h=>(a6=none->v7=[])/\Own vars h0 [(a6,.cells (flatC (v7.map i64)) false)] h) (fun ((v7,v8),a6)=>[(5,(aj 1 a6 (v7.map i64))),(12,(i64 v8))]) ((([]:List Nat),0),none) hm ⟨(fun _=>rfl),O⟩ ?_
  clear hm;rintro⟨⟨v7,v8⟩,a6⟩ nx10 base h hm ⟨ha9,O⟩
  refine gX ?_
  refine br hm (fun hm=>?_) fun hm=>?_
  ·apply Cs;conv=>whnf
   refine jn (σ:=(List Nat)×Option Nat) hm 45 [0,1,11,12] (fun s=>s.1) (fun (v12,a11) h=>(a11=none->v12=[])/\Own vars h0 [(a11,.cells (flatC (v12.map i64)) false)] h) (fun (v12,a11)=>[(5,(aj 1 a11 (v12.map i64)))]) (fun hm=>?_) ?_
   ·apply Cs;conv=>whnf
    apply Cs;conv=>whnf
    apply Cs;refine gH ?_
    refine jn hm 45 [0,1,5,6,11,12] (fun s=>s) (fun v15 h=>(a6=none->v7=[])/\Own vars h0 [(a6,.cells (flatC (v7.map i64)) false)] h) (fun v15=>[(37,(.bool v15))]) (fun hm=>?_) ?_
    ·refine gX ?_
     refine atF hm fun x18 hx18 hm=>?_;refine gH ?_
     refine br hm (fun hm=>?_) fun hm=>?_
     ·refine gX ?_
      refine atF hm fun x19 hx19 hm=>?_;refine gH ?_
      refine br hm (fun hm=>?_) fun hm=>?_
      ·refine gX ?_
       refine atF hm fun x20 hx20 hm=>?_;refine gH ?_
       refine atF hm fun x21 hx21 hm=>?_;refine gH ?_
       exact jx (neN x20 x21) hm ⟨ha9,O⟩
      ·refine gX ?_
       exact jx false hm ⟨ha9,O⟩
     ·refine gX ?_
      refine bf ?_;refine gH ?_
      exact jx false hm ⟨ha9,O⟩
    ·clear hm;rintro v15 base h hm ⟨ha16,O⟩
     refine gX ?_
     refine br hm (fun hm=>?_) fun hm=>?_
     ·refine gX ?_
      refine fz ?_;refine gH ?_
      refine O.apL (enc:=i64) (l:=v7) (new:=([v8]:(List Nat))) 1 (.head _) ha16 hm fun a22 h ha23 O hm=>?_;refine gH ?_
      exact jx ((v7++([v8]:(List Nat))),a22) hm ⟨ha23,O⟩
     ·refine gX ?_
      exact jx (v7,a6) hm ⟨ha16,O⟩
   ·clear hm;rintro⟨v12,a11⟩ base h hm ⟨ha13,O⟩
    refine gX ?_
    refine aR hm fun hm=>?_;refine gH ?_
    exact jx ((v12,(v8+1)),a11) hm ⟨ha13,O⟩
  ·refine gX ?_
   exact jx (v7,a6) hm ⟨ha9,O⟩
 ·clear hm;rintro⟨v3,a2⟩ base h hm ⟨ha4,O⟩
  refine gX ?_
  refine fg Tryz.func87 ?_;refine gX ?_
  refine lT (s:=1) (enc:=i64) (l:=v3) (n:=v3.length) (m:=v3.length) rfl rfl rfl rfl rfl rfl rfl ?_;refine gX ?_
  exact⟨v3,hm,O.ext,fun h2 F=>O.mM F (Nat.le_refl _) (.head _) ha4 (fun _=>rfl)⟩
def cU (p0:Rsp) (p1:Rsp) (K:((List Nat)×(List Nat))->Prop):Prop :=
 bM p0.out p1.out (fun r1=>bM p0.next p1.next (fun r2=>K (r1,r2)))
theorem ma {p0:Rsp}{p1:Rsp}{K:((List Nat)×(List Nat))->Prop} (hm:cU p0 p1 K) {h0:Heap} (hB:HasB vars h0):∃ r,K r/\CallD Tryz.prog NG 109 ⟨[fF p0,fF p1]⟩ h0 ((fun (r:((List Nat)×(List Nat)))=>Value.tuple ⟨[(ah 1 i64) (r.1),(ah 1 i64) (r.2)]⟩) r) h0:=by
 unfold cU at hm
 refine fw Tryz.func109 hB (enc:=(fun (r:((List Nat)×(List Nat)))=>Value.tuple ⟨[(ah 1 i64) (r.1),(ah 1 i64) (r.2)]⟩)) (fun r=>PureV.tup (ag.cons (cb (fun _=>ag.cons (PureV.flat rfl) ag.nil)) (ag.cons (cb (fun _=>ag.cons (PureV.flat rfl) ag.nil)) (ag.nil)))) fun O=>?_;conv=>whnf
 refine gX ?_
 refine fz ?_;refine gH ?_
 refine fz ?_;refine gX ?_
 refine dF ?_
 refine gX ?_
 refine dF ?_
 refine gX ?_
 refine ca (gI hm O.has) fun r1 hm=>?_;refine gH ?_
 (first|refine⟨.inr (.inr (ae rfl (O.at (.head _)) rfl rfl)),?_⟩|refine⟨.inr (.inr (ae rfl (O.at (.tail _ (.head _))) rfl rfl)),?_⟩|refine⟨.inr (.inr (ae rfl (O.at (.tail _ (.tail _ (.head _)))) rfl rfl)),?_⟩|refine⟨.inr (.inr (ae rfl (O.at (.tail _ (.tail _ (.tail _ (.head _))))) rfl rfl)),?_⟩|refine⟨.inr (.inr (ae rfl (O.at (.tail _ (.tail _ (.tail _ (.tail _ (.head _)))))) rfl rfl)),?_⟩|refine⟨.inr (.inr (ae rfl (O.at (.tail _ (.tail _ (.tail _ (.tail _ (.tail _ (.head _))))))) rfl rfl)),?_⟩|refine⟨.inr (.inr (ae rfl (O.at (.tail _ (.tail _ (.tail _ (.tail _ (.tail _ (.tail _ (.head _)))))))) rfl rfl)),?_⟩|refine⟨.inl (Ext.refl _),?_⟩|refine⟨.inr (.inr rfl),?_⟩|refine⟨.inr (by kernel_rfl),?_⟩|refine⟨.inl (by kernel_rfl),?_⟩|refine id ?_);refine gH ?_
 refine dF ?_
 refine gX ?_
 refine dF ?_
 refine gX ?_
 refine ca (gI hm O.has) fun r2 hm=>?_;refine gH ?_
 (first|refine⟨.inr (.inr (ae rfl (O.at (.head _)) rfl rfl)),?_⟩|refine⟨.inr (.inr (ae rfl (O.at (.tail _ (.head _))) rfl rfl)),?_⟩|refine⟨.inr (.inr (ae rfl (O.at (.tail _ (.tail _ (.head _)))) rfl rfl)),?_⟩|refine⟨.inr (.inr (ae rfl (O.at (.tail _ (.tail _ (.tail _ (.head _))))) rfl rfl)),?_⟩|refine⟨.inr (.inr (ae rfl (O.at (.tail _ (.tail _ (.tail _ (.tail _ (.head _)))))) rfl rfl)),?_⟩|refine⟨.inr (.inr (ae rfl (O.at (.tail _ (.tail _ (.tail _ (.tail _ (.tail _ (.head _))))))) rfl rfl)),?_⟩|refine⟨.inr (.inr (ae rfl (O.at (.tail _ (.tail _ (.tail _ (.tail _ (.tail _ (.tail _ (.head _)))))))) rfl rfl)),?_⟩|refine⟨.inl (Ext.refl _),?_⟩|refine⟨.inr (.inr rfl),?_⟩|refine⟨.inr (by kernel_rfl),?_⟩|refine⟨.inl (by kernel_rfl),?_⟩|refine id ?_);refine gH ?_
 refine gX ?_
 exact⟨(r1,r2),hm,O.ext,fun h2 F=>VLe.tup (LLe.cons (VLe.refl _ _) (LLe.cons (VLe.refl _ _) (LLe.nil _)))⟩
def dw (p0:Rsp) (p1:Rsp) (K:Bool->Prop):Prop :=
 cU p0 p1 (fun r1=>r1.1.length+r1.2.length<2 ^ 63/\K (ltN 0 (r1.1.length+r1.2.length)))
theorem oI {p0:Rsp}{p1:Rsp}{K:Bool->Prop} (hm:dw p0 p1 K) {h0:Heap} (hB:HasB vars h0):∃ r,K r/\CallD Tryz.prog NG 77 ⟨[fF p0,fF p1]⟩ h0 (Value.bool r) h0:=by
 unfold dw at hm
 refine fw Tryz.func77 hB (enc:=Value.bool) (fun r=>PureV.flat rfl) fun O=>?_;conv=>whnf
 refine gX ?_
 refine fz ?_;refine gH ?_
 refine fz ?_;refine gX ?_
 refine ca (ma hm O.has) fun r1 hm=>?_;refine gX ?_
 refine aR hm fun hm=>?_;refine gX ?_
 exact fe hm O
set_option maxHeartbeats 8000000
theorem C9 {P:Program}{ρ:Operand->Value}{d:Option Tmp}{ty:TypeId}{pos:String}{af:Array Edge}{gd:Option (Nat×Bool)}{t yt:TypeId}{x y:Operand}{a b:Int}{j:Nat} (hx:ρ x=.int .i64 a) (hy:ρ y=.int .i64 b) (hz:a-b=Int.ofNat j) (hj:j<2 ^ 63) :
  av P ρ { dst:=d,op:=.binOp .sub t x y yt,type:=ty,pos:=pos,after:=af,guard:=gd }=some (.int .i64 (Int.ofNat j)):=by
 have h1:a-b=(j:Int):=hz
 have:=zN (P:=P) (d:=d) (ty:=ty) (pos:=pos) (af:=af) (gd:=gd) (t:=t) (yt:=yt) hx hy (by omega) (by omega)
 rw[this,hz]
structure PairT where
 first:Pat
 second:Pat
def tH (x:PairT):Value:=.agg ⟨cl (dv x.first)++cl (dv x.second)⟩
def iV (x y c:Nat) (K:Nat×Nat->Prop):Prop:=x+y<2 ^ 62/\c=0/\K (x+y,0)
def iT (c:Circ) (l:LnZ) (K:List Nat->Prop):Prop:=∃ x,c.nodes[l.node]?=some x/\x.ins.length<=1024/\∃ j:Nat,l.pin=Int.ofNat j/\j<x.ins.length/\K (x.ins.eraseIdx j)
theorem xt (x y:Nat):bR Tryz.prog (callFunc 18 ⟨[n64 x,n64 y,n64 0]⟩)=some (.value (Go.Extern.MathBitsCarry.pair ((x+y+0)%Go.Extern.MathBitsCarry.m64) ((x+y+0)/Go.Extern.MathBitsCarry.m64))):=by kernel_rfl
theorem jX {x y c:Nat}{K:Nat×Nat->Prop} (hm:iV x y c K) {h0:Heap} (_hB:HasB vars h0):∃ r,K r/\CallD Tryz.prog NG 18 ⟨[n64 x,n64 y,n64 c]⟩ h0 ((fun (r:(Nat×Nat))=>Value.tuple ⟨[n64 (r.1),n64 (r.2)]⟩) r) h0:=by
 obtain⟨h1,rfl,hk⟩:=hm
 refine⟨(x+y,0),hk,Nat.le_refl _,fun ι w vs' _ r=>.inr ⟨.tuple ⟨[n64 (x+y),n64 0]⟩,?_,?_,rfl⟩⟩
 ·rw[ARel.bo r (by simp[n64,plain,aA])]
  have h2:(x+y+0)%Go.Extern.MathBitsCarry.m64=x+y:=Nat.mod_eq_of_lt (by unfold Go.Extern.MathBitsCarry.m64;omega)
  have h3:(x+y+0)/Go.Extern.MathBitsCarry.m64=0:=Nat.div_eq_of_lt (by unfold Go.Extern.MathBitsCarry.m64;omega)
  have:=lY (xt x y) w
  rw[h2,h3] at this
  exact this
 ·exact VRel.iY (by simp[jT,n64,plain,aA])
def vc (l:List Nat) (j:Nat):List Nat :=
 List.take (j+(l.drop (j+1)).length) (l.take j++(l.drop (j+1)++l.drop (j+(l.drop (j+1)).length))) ++
  (List.replicate (l.length-(j+(l.drop (j+1)).length)) 0++List.drop (j+(l.drop (j+1)).length+(l.length-(j+(l.drop (j+1)).length))) (l.take j++(l.drop (j+1)++l.drop (j+(l.drop (j+1)).length))))
theorem zC {l:List Nat}{j:Nat} (h:j<l.length):List.take (j+(l.drop (j+1)).length) (l.take j++(l.drop (j+1)++l.drop (j+(l.drop (j+1)).length)))=l.eraseIdx j:=by
 rw[<- List.append_assoc,List.take_left' (by rw[List.length_append,List.length_take];omega),List.eraseIdx_eq_take_drop_succ]
theorem AE {l:List Nat}{j:Nat} (h:j<l.length):(vc l j).length=l.length:=by
 unfold vc
 simp only[List.length_append,List.length_take,List.length_drop,List.length_replicate]
 omega
theorem zk {l:List Nat}{j:Nat} (h:j<l.length):(vc l j).take (j+(l.drop (j+1)).length)=l.eraseIdx j:=by
 unfold vc
 rw[zC h,List.take_left']
 rw[List.length_eraseIdx,if_pos h,List.length_drop]
 omega
theorem pJ {p0:Circ}{p1:LnZ}{K:List Nat->Prop} (hm:iT p0 p1 K) {h0:Heap} (hB:HasB vars h0):∃ r,K r/\CallD Tryz.prog NG 69 ⟨[ax p0,au p1]⟩ h0 ((ah 1 i64) r) h0:=by
 obtain⟨x,hx,hf,j,hj,hlt,hk⟩:=hm
 obtain⟨kd,ins,mm,bt0⟩:=x
 dsimp only at hf hlt hk
 obtain⟨i0,r0,rfl⟩:∃ i0 r0,ins=i0::r0:=by
  cases ins with
  |nil=>cases hlt
  |cons a b=>exact⟨a,b,rfl⟩
 obtain⟨pn,pp⟩:=p1
 dsimp only at hx hj
 subst hj
 refine fw Tryz.func69 hB (enc:=ah 1 i64) (fun r=>cb (fun _=>ag.cons (PureV.flat rfl) ag.nil)) fun O=>?_;conv=>whnf
 apply Cs;conv=>whnf
 apply Cs;refine gH ?_
 refine fz ?_;refine gH ?_
 refine fz ?_;refine gH ?_
 apply Cs;conv=>whnf
 refine CodeS.lN ?_;refine gH ?_
 refine atF (W:=fun _=>True) ⟨_,hx,trivial⟩ fun x' hx' _=>?_
 rw[hx] at hx';cases hx'
 refine gH ?_
 refine fg Tryz.func103 ?_;refine gX ?_
 refine⟨.bool false,by kernel_rfl,?_⟩;refine gX ?_
 refine bf ?_;refine gX ?_
 refine O.tW rfl rfl rfl fun g1 h O=>?_;refine gX ?_
 refine O.apS (enc:=i64) (l:=([]:List Nat)) (new:=i0::r0) (b:=8) (W:=True) 1 (.head _) rfl ⟨by simp only[List.length_nil];omega,trivial⟩ fun g2 sp2 h O _=>?_;refine gX ?_
 refine aR (a:=j) (b:=1) (W:=True) ⟨by omega,trivial⟩ fun _=>?_;refine gX ?_
 refine fg Tryz.func102 ?_;refine gX ?_
 have hz:(if sp2=true then some 1 else none)=none\/(if sp2=true then some 1 else none)=some 1:=by cases sp2 <;> simp
 have hl:(List.map i64 ([]++i0::r0)).length=(i0::r0).length:=by simp
 have hl2:([]++i0::r0).length=(i0::r0).length:=rfl
 refine EF (g:=g2) (s:=1) (sp:=if sp2=true then some 1 else none) (n:=(List.map i64 ([]++i0::r0)).length) (cap:=(List.map i64 ([]++i0::r0)).length) (i:=j) (j:=j+1) (m:=([]++i0::r0).length) (by omega) (by omega) (by omega) ?_;refine gX ?_
 refine bf ?_ (congrArg Value.bool (by show eqN j (j+1)=false;rw[iB];simp));refine gX ?_
 refine EO (g:=g2) (s:=1) (n:=(List.map i64 ([]++i0::r0)).length) (cap:=(List.map i64 ([]++i0::r0)).length) (j:=j) hz (by omega) ?_;refine gX ?_
 refine DA (g:=g2) (s:=1) (n:=(List.map i64 ([]++i0::r0)).length) (cap:=(List.map i64 ([]++i0::r0)).length) (i:=j+1) hz (by omega) ?_;refine gX ?_
 refine O.xV (enc:=i64) (l:=[]++i0::r0) (new:=([]++i0::r0).drop (j+1)) (s:=1) (b:=8) (n:=j) (cap:=(List.map i64 ([]++i0::r0)).length) (.head _) rfl rfl rfl rfl rfl rfl rfl
  ?y (fun _=>rfl) (fun _=>rfl) ?_ ?_ (.inl ?_) fun h O=>?_
 case y =>
  conv=>enter [3];whnf
  refine YOk.from (g:=g2) (n:=(List.map i64 ([]++i0::r0)).length-(j+1)) (c:=(List.map i64 ([]++i0::r0)).length-(j+1)) (sp:=if sp2=true then some 1 else none) (i:=j+1) (O.at (.head _)) rfl (fun _=>rfl) (by omega) (by omega)
 ·rw[List.length_drop];omega
 ·omega
 ·rw[List.length_drop];omega
 conv=>whnf
 refine⟨.inl (by kernel_rfl),?_⟩;refine gX ?_
 have hm:(List.drop (j+1) ([]++i0::r0)).length=(i0::r0).length-(j+1):=List.length_drop
 refine ED (g:=g2) (s:=1) (n:=j+(List.drop (j+1) ([]++i0::r0)).length) (cap:=(List.map i64 ([]++i0::r0)).length) (i:=j+(List.drop (j+1) ([]++i0::r0)).length) (j:=([]++i0::r0).length) hz (by omega) (by omega) ?_;refine gX ?_
 refine O.DS (enc:=i64) (z:=0) (s:=1) (o:=j+(List.drop (j+1) ([]++i0::r0)).length) (n:=([]++i0::r0).length-(j+(List.drop (j+1) ([]++i0::r0)).length)) (.head _) rfl rfl rfl (by kernel_rfl) rfl rfl (fun _=>rfl) (by decide) (fun _=>rfl) ?_ fun h O=>?_
 ·simp only[List.length_append,List.length_take,List.length_drop,List.length_nil,List.length_cons] at hlt hf ⊢
  omega
 refine gX ?_
 have e1:=zk (l:=[]++i0::r0) hlt
 have e2:=AE (l:=[]++i0::r0) hlt
 exact⟨_,(congrArg K e1).mpr hk,O.ext,fun h2 F=>O.C3 F (Nat.le_refl _) (.head _) (fun _=>rfl) (by
  show _<=(vc ([]++i0::r0) j).length
  omega)⟩
end Go.Proofs.YtlbeebglhebpjaaGreatDoor
