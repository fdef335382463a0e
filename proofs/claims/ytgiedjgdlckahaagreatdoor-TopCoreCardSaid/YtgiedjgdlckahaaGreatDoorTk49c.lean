/-
  Kn and more: parts of the proof.
-/
import Derived.Test.YtgiedjgdlckahaaGreatDoorTk49b
namespace Go.Proofs.YtgiedjgdlckahaaGreatDoor
open Go.Abs
set_option maxRecDepth 100000
def ow (c:Circ) (l:List Flt) (K:List (List Nat)×Nat->Prop):Prop:=c=pv/\l=I9/\K (JM,0)
theorem ss {p0:Circ}{p1:List Flt}{K:List (List Nat)×Nat->Prop} (hm:ow p0 p1 K) {h0:Heap} (hB:HasB vars h0):∃ r,K r/\CallD Tryz.prog NG 43 ⟨[ar p0,ah 5 az p1]⟩ h0 (xD r) h0:=by
 obtain⟨rfl,rfl,hk⟩:=hm;exact FnV.walk (enc:=xD) (FnV.closed hM rfl ze hP (fun f vs h v e=>gS f vs h v e) zk Fq (EA _) (by kernel_rfl) (by decide)) hk hB
def vW (c:Circ) (f:Flt) (t:List Pat) (K:List FailT×Nat->Prop):Prop:=c=pv/\f=IS/\t=I0/\K ([⟨1,false,0⟩],0)
theorem yX {p0:Circ}{p1:Flt}{p2:List Pat}{K:List FailT×Nat->Prop} (hm:vW p0 p1 p2 K) {h0:Heap} (hB:HasB vars h0):∃ r,K r/\CallD Tryz.prog NG 44 ⟨[ar p0,az p1,ah 2 aP p2]⟩ h0 (xx r) h0:=by
 obtain⟨rfl,rfl,rfl,hk⟩:=hm;exact FnV.walk (enc:=xx) (FnV.closed hM rfl ze hP (fun f vs h v e=>gS f vs h v e) Hu EW (Fj _) (by kernel_rfl) (by decide)) hk hB
set_option maxRecDepth 100000
set_option maxHeartbeats 8000000
def bI  (K:Bool->Prop):Prop :=
 iH (⟨([(⟨0,([]:(List Nat)),0,0⟩:Node),(⟨0,([]:(List Nat)),0,0⟩:Node),(⟨8,([0,1]:(List Nat)),0,0⟩:Node)]:(List Node)),([(⟨#[97]⟩:ByteArray),(⟨#[98]⟩:ByteArray),(⟨#[121]⟩:ByteArray)]:(List ByteArray)),([]:(List Memo)),([2]:(List Nat))⟩:Circ) 0 (fun r3=>ow (⟨([(⟨0,([]:(List Nat)),0,0⟩:Node),(⟨0,([]:(List Nat)),0,0⟩:Node),(⟨8,([0,1]:(List Nat)),0,0⟩:Node)]:(List Node)),([(⟨#[97]⟩:ByteArray),(⟨#[98]⟩:ByteArray),(⟨#[121]⟩:ByteArray)]:(List ByteArray)),([]:(List Memo)),([2]:(List Nat))⟩:Circ) r3.1 (fun r4=>vW (⟨([(⟨0,([]:(List Nat)),0,0⟩:Node),(⟨0,([]:(List Nat)),0,0⟩:Node),(⟨8,([0,1]:(List Nat)),0,0⟩:Node)]:(List Node)),([(⟨#[97]⟩:ByteArray),(⟨#[98]⟩:ByteArray),(⟨#[121]⟩:ByteArray)]:(List ByteArray)),([]:(List Memo)),([2]:(List Nat))⟩:Circ) (⟨0,(⟨2,(Int.negSucc 0)⟩:LnZ),0,0⟩:Flt) ([(⟨([1,0]:(List Nat)),([]:(List Nat))⟩:Pat),(⟨([0,0]:(List Nat)),([]:(List Nat))⟩:Pat)]:(List Pat)) (fun r5=>((eqN r3.2 0)=true->((eqN r4.2 0)=true->((eqN r5.2 0)=true->((eqN r3.1.length 10)=true->((eqN r4.1.length 4)=true->((eqN r5.1.length 1)=true->∃ x6,r5.1[0]?=some x6/\K ((eqZ x6.test (Int.ofNat 1))&&((x6.next==false)&&((eqZ x6.index (Int.ofNat 0))&&true))))/\((eqN r5.1.length 1)=false->K false))/\((eqN r4.1.length 4)=false->K false))/\((eqN r3.1.length 10)=false->K false))/\((eqN r5.2 0)=false->K false))/\((eqN r4.2 0)=false->K false))/\((eqN r3.2 0)=false->K false))))
theorem fN  {K:Bool->Prop} (hm:bI  K) {h0:Heap} (hB:HasB vars h0):∃ r,K r/\CallD Tryz.prog NG 11 ⟨[]⟩ h0 (Value.bool r) h0:=by
 unfold bI at hm
 refine fw Tryz.func11 hB (enc:=Value.bool) (fun r=>PureV.flat rfl) fun O=>?_;conv=>whnf
 refine gX ?_;refine fz ?_;refine gH ?_;refine NewG.frzW rfl (VLe.els (s:=4) (es':=([(⟨0,([]:(List Nat)),0,0⟩:Node),(⟨0,([]:(List Nat)),0,0⟩:Node),(⟨8,([0,1]:(List Nat)),0,0⟩:Node)]).map aj) rfl (aZ (enc:=aj) (s:=4) (fun _=>rfl) _) (LLe.cons (VLe.refl _ _) (LLe.cons (VLe.nil _ _) (LLe.cons (VLe.refl _ _) (LLe.cons (VLe.refl _ _) (LLe.cons (VLe.refl _ _) (LLe.cons (VLe.nil _ _) (LLe.cons (VLe.refl _ _) (LLe.cons (VLe.refl _ _) (LLe.cons (VLe.refl _ _) (LLe.cons (VLe.refl _ _) (LLe.cons (VLe.refl _ _) (LLe.cons (VLe.refl _ _) (LLe.nil _)))))))))))))) ?_;refine gH ?_;refine fz ?_;refine gH ?_;refine fz ?_;refine gH ?_;refine O.new (ai (l:=[(.slice none 0 0),(.slice none 0 0),(.slice none 0 0),(.slice none 0 0)]) rfl rfl rfl) fun g1 h O=>?_;refine gH ?_;refine O.stC 4 (.head _) [((ah 4 aj) ([(⟨0,([]:(List Nat)),0,0⟩:Node),(⟨0,([]:(List Nat)),0,0⟩:Node),(⟨8,([0,1]:(List Nat)),0,0⟩:Node)]:(List Node))),((ah 1 Value.string) ([(⟨#[97]⟩:ByteArray),(⟨#[98]⟩:ByteArray),(⟨#[121]⟩:ByteArray)]:(List ByteArray))),(.slice none 0 0),((ah 1 i64) ([2]:(List Nat)))] fun h O=>?_;refine gX ?_;refine ldA O.i0 ?_;refine gH ?_;refine caW (mh hm O.has) (LLe.cons (VLe.agg (LLe.cons (VLe.refl _ _) (LLe.cons (VLe.refl _ _) (LLe.cons (VLe.nil _ _) (LLe.cons (VLe.refl _ _) (LLe.nil _)))))) (LLe.cons (VLe.refl _ _) (LLe.nil _))) fun r3 hm=>?_;refine gX ?_;refine ldA O.i0 ?_;refine gH ?_;refine caW (ss hm O.has) (LLe.cons (VLe.agg (LLe.cons (VLe.refl _ _) (LLe.cons (VLe.refl _ _) (LLe.cons (VLe.nil _ _) (LLe.cons (VLe.refl _ _) (LLe.nil _)))))) (LLe.cons (VLe.refl _ _) (LLe.nil _))) fun r4 hm=>?_;refine gX ?_;refine ldA O.i0 ?_;refine gH ?_;refine fz ?_;refine gH ?_;refine fz ?_;refine gH ?_;refine NewG.frzW rfl (VLe.els (s:=2) (es':=([(⟨([1,0]:(List Nat)),([]:(List Nat))⟩:Pat),(⟨([0,0]:(List Nat)),([]:(List Nat))⟩:Pat)]).map aP) rfl (aZ (enc:=aP) (s:=2) (fun _=>rfl) _) (LLe.cons (VLe.refl _ _) (LLe.cons (VLe.nil _ _) (LLe.cons (VLe.refl _ _) (LLe.cons (VLe.nil _ _) (LLe.nil _)))))) ?_;refine gH ?_;refine caW (yX hm O.has) (LLe.cons (VLe.agg (LLe.cons (VLe.refl _ _) (LLe.cons (VLe.refl _ _) (LLe.cons (VLe.nil _ _) (LLe.cons (VLe.refl _ _) (LLe.nil _)))))) (LLe.cons (VLe.refl _ _) (LLe.cons (VLe.refl _ _) (LLe.nil _)))) fun r5 hm=>?_;refine gX ?_;refine br hm (fun hm=>?_) fun hm=>?_
 ·refine gX ?_;refine br hm (fun hm=>?_) fun hm=>?_
  ·refine gX ?_;refine br hm (fun hm=>?_) fun hm=>?_
   ·refine gX ?_;refine br hm (fun hm=>?_) fun hm=>?_
    ·refine gX ?_;refine br hm (fun hm=>?_) fun hm=>?_
     ·refine gX ?_;refine br hm (fun hm=>?_) fun hm=>?_
      ·refine gX ?_;refine atF hm fun x6 hx6 hm=>?_;refine gH ?_;refine⟨.bool ((eqZ x6.test (Int.ofNat 1))&&((x6.next==false)&&((eqZ x6.index (Int.ofNat 0))&&true))),by kernel_rfl,?_⟩;refine gX ?_;exact fe hm O
      ·refine gX ?_;exact fe hm O
     ·refine gX ?_;refine bf ?_;refine gX ?_;exact fe hm O
    ·refine gX ?_;refine bf ?_;refine gH ?_;refine bf ?_;refine gX ?_;exact fe hm O
   ·refine gX ?_;refine bf ?_;refine gH ?_;refine bf ?_;refine gH ?_;refine bf ?_;refine gX ?_;exact fe hm O
  ·refine gX ?_;refine bf ?_;refine gH ?_;refine bf ?_;refine gH ?_;refine bf ?_;refine gH ?_;refine bf ?_;refine gX ?_;exact fe hm O
 ·refine gX ?_;refine bf ?_;refine gH ?_;refine bf ?_;refine gH ?_;refine bf ?_;refine gH ?_;refine bf ?_;refine gH ?_;refine bf ?_;refine gX ?_;exact fe hm O
theorem Hg:(bl pv).length=10:=by decide +kernel
theorem vP {K:Bool->Prop} (h:K true):bI K:=by
 unfold bI;refine Ct (c:=pv) G8 ⟨rfl,rfl,rfl,rfl,rfl,?_⟩;have e0:eqN 0 0=true:=dA.2 rfl;refine⟨fun _=>⟨fun _=>⟨fun _=>⟨fun _=>⟨fun _=>⟨fun _=>⟨_,rfl,h⟩,fun q=>absurd rfl (cY.1 q)⟩,fun q=>absurd rfl (cY.1 q)⟩,fun q=>absurd Hg (cY.1 q)⟩,fun q=>absurd rfl (cY.1 q)⟩,fun q=>absurd rfl (cY.1 q)⟩,fun q=>absurd rfl (cY.1 q)⟩
set_option maxHeartbeats 8000000
def bL (p0:Circ) (p1:(List PData)) (K:(List Pat)->Prop):Prop :=
 an (α:=(List Pat)) (fun k6=>aF (S:=((List Pat)×Nat)) (fun (v8,v9) nx11=>an (α:=Bool) (fun k14=>((ltN v9 p1.length)=true->k14 (ltN v9 20))/\((ltN v9 p1.length)=false->k14 false)) (fun v12=>(v12=true->∃ x15,p1[v9]?=some x15/\fu x15 p0 (fun r16=>(v8.length+([r16]:(List Pat)).length)*48<=2 ^ 47/\v9+1<2 ^ 63/\nx11 ((v8++([r16]:(List Pat))),(v9+1))))/\(v12=false->k6 v8))) (([]:List Pat),0)) (fun v4=>K v4)
theorem jY {p0:Circ}{p1:(List PData)}{K:(List Pat)->Prop} (hm:bL p0 p1 K) {h0:Heap} (hB:HasB vars h0):∃ r,K r/\CallD Tryz.prog NG 21 ⟨[ar p0,(ah 2 CY) p1]⟩ h0 ((ah 2 aP) r) h0:=by
 unfold bL at hm
 refine fw Tryz.func21 hB (enc:=(ah 2 aP)) (fun r=>cF (fun _=>rC _)) fun O=>?_;conv=>whnf
 refine gX ?_;refine fz ?_;refine gH ?_;have O:=O.bC (.cells (flatC ((([]:List Pat)).map aP)) false)
 apply Cs;conv=>whnf
 apply Cs;refine gH ?_;have O:=O.bC (.cells (flatC ((([]:List Pat)).map aP)) false);refine jn (σ:=(List Pat)×Option Nat) hm 27 [] (fun s=>s.1) (fun (v4,a3) h=>(a3=none->v4=[])/\Own vars h0 [(a3,.cells (flatC (v4.map aP)) false)] h) (fun (v4,a3)=>[(5,(ae 2 a3 (v4.map aP)))]) (fun hm=>?_) ?_
 ·refine gX ?_;refine lw 27 [1,2] (σ:=((List Pat)×Nat)×Option Nat) (fun s=>s.1) (fun ((v8,v9),a7) h=>(a7=none->v8=[])/\Own vars h0 [(a7,.cells (flatC (v8.map aP)) false)] h) (fun ((v8,v9),a7)=>[(5,(ae 2 a7 (v8.map aP))),(6,(i64 v9))]) ((([]:List Pat),0),none) hm ⟨(fun _=>rfl),(O.sel [0] (by decide))⟩ ?_;clear hm;rintro⟨⟨v8,v9⟩,a7⟩ nx11 base h hm ⟨ha10,O⟩
  conv=>whnf
  apply Cs;conv=>whnf
  refine jn hm 27 [1,2,5,6] (fun s=>s) (fun v12 h=>(a7=none->v8=[])/\Own vars h0 [(a7,.cells (flatC (v8.map aP)) false)] h) (fun v12=>[(14,(.bool v12))]) (fun hm=>?_) ?_
  ·refine gX ?_;refine br hm (fun hm=>?_) fun hm=>?_
   ·refine gX ?_;exact jx (ltN v9 20) hm ⟨ha10,O⟩
   ·refine gX ?_;exact jx false hm ⟨ha10,O⟩
  ·clear hm;rintro v12 base h hm ⟨ha13,O⟩;refine gX ?_;refine br hm (fun hm=>?_) fun hm=>?_
   ·refine gX ?_;refine atF hm fun x15 hx15 hm=>?_;refine gH ?_;refine dF ?_;refine gX ?_;refine dF ?_;refine gX ?_;refine ca (sA hm O.has) fun r16 hm=>?_;refine gH ?_;refine⟨.inl (Ext.refl _),?_⟩;refine gH ?_;refine O.dJ (l:=([r16]:(List Pat))) (enc:=aP) (s:=2) (z:=(.agg ⟨[nS,nS]⟩)) rfl rfl (by kernel_rfl) (by kernel_rfl) rfl rfl rfl rfl (fun _=>rfl) fun g17 h O=>?_;refine gH ?_;refine O.gR (enc:=aP) (l:=v8) (new:=([r16]:(List Pat))) (s:=2) (b:=48) (.tail _ (.head _)) ha13 rfl rfl rfl rfl rfl rfl rfl rfl (YOk.own O.i0 rfl (fun _=>rfl) rfl) (fun _=>rfl) (fun _=>rfl) (by decide) hm.1 fun a19 h ha20 O=>?_;refine gH ?_;replace hm:=hm.2;refine gX ?_;refine aH hm fun hm=>?_;refine gH ?_;exact jx (((v8++([r16]:(List Pat))),(v9+1)),a19) hm ⟨ha20,(O.sel [1] (by decide))⟩
   ·refine gX ?_;exact jx (v8,a7) hm ⟨ha13,O⟩
 ·clear hm;rintro⟨v4,a3⟩ base h hm ⟨ha5,O⟩;refine gX ?_;exact⟨v4,hm,O.ext,fun h2 F=>O.jR F (Nat.le_refl _) (.head _) ha5 (fun _=>rfl)⟩
def cy (p0:CData) (p1:(List PData)) (K:Bool->Prop):Prop :=
 cg p0 (fun r1=>bL r1 p1 (fun r4=>iH r1 0 (fun r5=>dg r1 r5.1 (fun r6=>an (α:=Bool) (fun k8=>((neN r5.2 0)=true->k8 true)/\((neN r5.2 0)=false->k8 (neN r6.2 0))) (fun v7=>(v7=true->K false)/\(v7=false->an (α:=(List Flt)) (fun k13=>aF (S:=((List Flt)×Nat)) (fun (v15,v16) nx18=>((ltN v16 r6.1.length)=true->an (α:=Bool) (fun k21=>∃ x22,r6.1[v16]?=some x22/\((ltN x22 0)=true->k21 true)/\((ltN x22 0)=false->∃ x23,r6.1[v16]?=some x23/\k21 (!ltN x23 r5.1.length))) (fun v19=>(v19=true->K false)/\(v19=false->∃ x24,r6.1[v16]?=some x24/\∃ x25,r5.1[x24]?=some x25/\(v15.length+([x25]:(List Flt)).length)*40<=2 ^ 47/\v16+1<2 ^ 63/\nx18 ((v15++([x25]:(List Flt))),(v16+1)))))/\((ltN v16 r6.1.length)=false->k13 v15)) (([]:List Flt),0)) (fun v11=>dU r1 v11 r4 1 (fun r28=>an (α:=Bool) (fun k32=>((neN r28.2 0)=true->k32 true)/\((neN r28.2 0)=false->k32 (neN r28.1.first.length r6.1.length))) (fun v31=>(v31=true->K false)/\(v31=false->an (α:=(List Nat)) (fun k37=>aF (S:=((List Nat)×Nat)) (fun (v39,v40) nx42=>((ltN v40 r6.1.length)=true->an (α:=(List Nat)) (fun k46=>∃ x47,r28.1.first[v40]?=some x47/\((!ltI x47 (Int.ofNat 0))=true->∀ j48:Nat,x47=Int.ofNat j48->∃ x49,r6.1[v40]?=some x49/\(v39.length+([x49]:(List Nat)).length)*8<=2 ^ 47/\k46 (v39++([x49]:(List Nat))))/\((!ltI x47 (Int.ofNat 0))=false->k46 v39)) (fun v44=>v40+1<2 ^ 63/\nx42 (v44,(v40+1))))/\((ltN v40 r6.1.length)=false->k37 v39)) (([]:List Nat),0)) (fun v35=>kq r28.1 (fun r53=>an (α:=(List Pat)) (fun k58=>aF (S:=((List Pat)×Nat)) (fun (v60,v61) nx64=>((ltN v61 r53.length)=true->an (α:=Bool) (fun k68=>∃ x69,r53[v61]?=some x69/\((ltN x69 0)=true->k68 true)/\((ltN x69 0)=false->∃ x70,r53[v61]?=some x70/\k68 (!ltN x70 r4.length))) (fun v65=>(v65=true->K false)/\(v65=false->∃ x71,r53[v61]?=some x71/\∃ x72,r4[x71]?=some x72/\(v60.length+([x72]:(List Pat)).length)*48<=2 ^ 47/\v61+1<2 ^ 63/\nx64 ((v60++([x72]:(List Pat))),(v61+1)))))/\((ltN v61 r53.length)=false->k58 v60)) (([]:List Pat),0)) (fun v55=>ji r1 r5.1 v35 (fun r75=>fm r1 r5.1 v55 (fun r76=>an (α:=Bool) (fun k81=>((neN r75.2 0)=true->k81 true)/\((neN r75.2 0)=false->((neN r76.2 0)=true->k81 true)/\((neN r76.2 0)=false->k81 (neN r76.1.count.length r5.1.length)))) (fun v79=>(v79=true->K false)/\(v79=false->an (α:=Unit) (fun k83=>aF (S:=Nat) (fun v84 nx86=>((ltN v84 r75.1.length)=true->an (α:=Bool) (fun k89=>∃ x90,r75.1[v84]?=some x90/\((ltN x90 0)=true->k89 true)/\((ltN x90 0)=false->∃ x91,r75.1[v84]?=some x91/\((!ltN x91 r5.1.length)=true->k89 true)/\((!ltN x91 r5.1.length)=false->∃ x92,r75.1[v84]?=some x92/\∃ x93,r76.1.count[x92]?=some x93/\k89 (eqN x93 0)))) (fun v87=>(v87=true->K false)/\(v87=false->v84+1<2 ^ 63/\nx86 (v84+1))))/\((ltN v84 r75.1.length)=false->k83 ())) 0) (fun _=>cD r76.1 1 (fun r94=>((eqN r94.2 r5.1.length)=true->((ltN v35.length r6.1.length)=true->bI  (fun r95=>K r95))/\((ltN v35.length r6.1.length)=false->((eqN r94.1 r94.2)=true->bI  (fun r96=>K r96))/\((eqN r94.1 r94.2)=false->K false)))/\((eqN r94.2 r5.1.length)=false->K false))))))))))))))))))))
theorem kf {p0:CData}{p1:(List PData)}{K:Bool->Prop} (hm:cy p0 p1 K) {h0:Heap} (hB:HasB vars h0):∃ r,K r/\CallD Tryz.prog NG 5 ⟨[bO p0,(ah 2 CY) p1]⟩ h0 (Value.bool r) h0:=by
 unfold cy at hm
 refine fw Tryz.func5 hB (enc:=Value.bool) (fun r=>PureV.flat rfl) fun O=>?_;conv=>whnf
 refine gX ?_;refine fz ?_;refine gX ?_;refine ca (jr hm O.has) fun r1 hm=>?_;refine gH ?_;refine O.new (ai (l:=[nS,nS,nS,nS]) rfl rfl rfl) fun g2 h O=>?_;refine gH ?_;refine O.stC 4 (.head _) [((ah 4 aj) r1.nodes),((ah 1 Value.string) r1.names),((ah 3 aD) r1.mems),((ah 1 i64) r1.outs)] fun h O=>?_;refine gX ?_;refine ldA O.i0 ?_;refine gH ?_;refine ca (jY hm O.has) fun r4 hm=>?_;refine gX ?_;refine ldA O.i0 ?_;refine gH ?_;refine ca (mh hm O.has) fun r5 hm=>?_;refine gX ?_;refine ldA O.i0 ?_;refine gH ?_;refine ca (nY hm O.has) fun r6 hm=>?_;refine gH ?_
 apply Cs;conv=>whnf
 refine jn hm 230 [5,6,7,9] (fun s=>s) (fun v7 h=>Own vars h0 [(sC g2 [((ah 4 aj) r1.nodes),((ah 1 Value.string) r1.names),((ah 3 aD) r1.mems),((ah 1 i64) r1.outs)])] h) (fun v7=>[(48,(.bool v7))]) (fun hm=>?_) ?_
 ·refine gX ?_;refine br hm (fun hm=>?_) fun hm=>?_
  ·refine gX ?_;exact jx true hm O
  ·refine gX ?_;exact jx (neN r6.2 0) hm O
 ·clear hm;rintro v7 base h hm O;refine gX ?_;refine br hm (fun hm=>?_) fun hm=>?_
  ·refine gX ?_;exact fe hm O
  ·apply Cs;conv=>whnf
   apply Cs;conv=>whnf
   apply Cs;refine gH ?_;have O:=O.bC (.cells (flatC ((([]:List Flt)).map az)) false);refine jn (σ:=(List Flt)×Option Nat) hm 230 [5,6,7,9] (fun s=>s.1) (fun (v11,a10) h=>(a10=none->v11=[])/\Own vars h0 [(sC g2 [((ah 4 aj) r1.nodes),((ah 1 Value.string) r1.names),((ah 3 aD) r1.mems),((ah 1 i64) r1.outs)]),(a10,.cells (flatC (v11.map az)) false)] h) (fun (v11,a10)=>[(11,(ae 5 a10 (v11.map az)))]) (fun hm=>?_) ?_
   ·refine gX ?_;refine lw 230 [5,6,7,9] (σ:=((List Flt)×Nat)×Option Nat) (fun s=>s.1) (fun ((v15,v16),a14) h=>(a14=none->v15=[])/\Own vars h0 [(sC g2 [((ah 4 aj) r1.nodes),((ah 1 Value.string) r1.names),((ah 3 aD) r1.mems),((ah 1 i64) r1.outs)]),(a14,.cells (flatC (v15.map az)) false)] h) (fun ((v15,v16),a14)=>[(11,(ae 5 a14 (v15.map az))),(12,(i64 v16))]) ((([]:List Flt),0),none) hm ⟨(fun _=>rfl),(O.sel [1,0] (by decide))⟩ ?_;clear hm;rintro⟨⟨v15,v16⟩,a14⟩ nx18 base h hm ⟨ha17,O⟩;refine gX ?_;refine lmC ?_;refine gX ?_;refine br hm (fun hm=>?_) fun hm=>?_
    ·apply Cs;conv=>whnf
     apply Cs;conv=>whnf
     apply Cs;conv=>whnf
     apply Cs;conv=>whnf
     refine jn hm 230 [5,6,7,9,11,12] (fun s=>s) (fun v19 h=>(a14=none->v15=[])/\Own vars h0 [(sC g2 [((ah 4 aj) r1.nodes),((ah 1 Value.string) r1.names),((ah 3 aD) r1.mems),((ah 1 i64) r1.outs)]),(a14,.cells (flatC (v15.map az)) false)] h) (fun v19=>[(68,(.bool v19))]) (fun hm=>?_) ?_
     ·refine gX ?_;refine atC hm fun x22 hx22 hm=>?_;refine gH ?_;refine br hm (fun hm=>?_) fun hm=>?_
      ·refine gX ?_;exact jx true hm ⟨ha17,O⟩
      ·refine gX ?_;refine atC hm fun x23 hx23 hm=>?_;refine gH ?_;exact jx (!ltN x23 r5.1.length) hm ⟨ha17,O⟩
     ·clear hm;rintro v19 base h hm ⟨ha20,O⟩;refine gX ?_;refine br hm (fun hm=>?_) fun hm=>?_
      ·refine gX ?_;exact fe hm O
      ·refine gX ?_;refine atC hm fun x24 hx24 hm=>?_;refine gH ?_;refine atF hm fun x25 hx25 hm=>?_;refine gH ?_;refine fz ?_;refine gH ?_;refine O.apL (enc:=az) (l:=v15) (new:=([x25]:(List Flt))) 5 (.tail _ (.head _)) ha20 hm fun a26 h ha27 O hm=>?_;refine gX ?_;refine aH hm fun hm=>?_;refine gH ?_;exact jx (((v15++([x25]:(List Flt))),(v16+1)),a26) hm ⟨ha27,O⟩
    ·refine gX ?_;exact jx (v15,a14) hm ⟨ha17,O⟩
   ·clear hm;rintro⟨v11,a10⟩ base h hm ⟨ha12,O⟩;refine gX ?_;refine ldA O.i0 ?_;refine gH ?_;refine O.GI (fun _ hb=>pJ hm hb) (.tail _ (.head _)) ha12 (fun _=>rfl) (i:=1) rfl (by kernel_rfl) (fun h2 q=>(LLe.cons (VLe.refl _ _) (LLe.cons (q) (LLe.cons (VLe.refl _ _) (LLe.cons (VLe.refl _ _) (LLe.nil _)))))) (fun r28 h hm' O=>?_);replace hm:=hm';refine gH ?_;refine O.new (ai (l:=[nS,nS,(i64 0)]) rfl rfl rfl) fun g29 h O=>?_;refine gH ?_;refine O.stC 3 (.head _) [((ah 1 z64) r28.1.first),((ah 1 i64) r28.1.count),(i64 r28.1.tests)] fun h O=>?_;refine gH ?_
    apply Cs;conv=>whnf
    refine jn hm 230 [5,6,7,9,13] (fun s=>s) (fun v31 h=>Own vars h0 [(sC g2 [((ah 4 aj) r1.nodes),((ah 1 Value.string) r1.names),((ah 3 aD) r1.mems),((ah 1 i64) r1.outs)]),(sC g29 [((ah 1 z64) r28.1.first),((ah 1 i64) r28.1.count),(i64 r28.1.tests)])] h) (fun v31=>[(95,(.bool v31))]) (fun hm=>?_) ?_
    ·refine gX ?_;refine br hm (fun hm=>?_) fun hm=>?_
     ·refine gX ?_;exact jx true hm (O.sel [1,0] (by decide))
     ·refine gX ?_;refine lmC ?_;refine gH ?_;exact jx (neN r28.1.first.length r6.1.length) hm (O.sel [1,0] (by decide))
    ·clear hm;rintro v31 base h hm O;refine gX ?_;refine br hm (fun hm=>?_) fun hm=>?_
     ·refine gX ?_;exact fe hm O
     ·apply Cs;conv=>whnf
      apply Cs;conv=>whnf
      apply Cs;refine gH ?_;have O:=O.bC (.cells (flatC ((([]:List Nat)).map i64)) false);refine jn (σ:=(List Nat)×Option Nat) hm 230 [5,6,7,9,13] (fun s=>s.1) (fun (v35,a34) h=>(a34=none->v35=[])/\Own vars h0 [(sC g2 [((ah 4 aj) r1.nodes),((ah 1 Value.string) r1.names),((ah 3 aD) r1.mems),((ah 1 i64) r1.outs)]),(sC g29 [((ah 1 z64) r28.1.first),((ah 1 i64) r28.1.count),(i64 r28.1.tests)]),(a34,.cells (flatC (v35.map i64)) false)] h) (fun (v35,a34)=>[(15,(ae 1 a34 (v35.map i64)))]) (fun hm=>?_) ?_
      ·refine gX ?_;refine lw 230 [5,6,7,9,13] (σ:=((List Nat)×Nat)×Option Nat) (fun s=>s.1) (fun ((v39,v40),a38) h=>(a38=none->v39=[])/\Own vars h0 [(sC g2 [((ah 4 aj) r1.nodes),((ah 1 Value.string) r1.names),((ah 3 aD) r1.mems),((ah 1 i64) r1.outs)]),(sC g29 [((ah 1 z64) r28.1.first),((ah 1 i64) r28.1.count),(i64 r28.1.tests)]),(a38,.cells (flatC (v39.map i64)) false)] h) (fun ((v39,v40),a38)=>[(15,(ae 1 a38 (v39.map i64))),(16,(i64 v40))]) ((([]:List Nat),0),none) hm ⟨(fun _=>rfl),(O.sel [1,2,0] (by decide))⟩ ?_;clear hm;rintro⟨⟨v39,v40⟩,a38⟩ nx42 base h hm ⟨ha41,O⟩;refine gX ?_;refine lmC ?_;refine gX ?_;refine br hm (fun hm=>?_) fun hm=>?_
       ·apply Cs;conv=>whnf
        refine jn (σ:=(List Nat)×Option Nat) hm 230 [5,6,7,9,13,16] (fun s=>s.1) (fun (v44,a43) h=>(a43=none->v44=[])/\Own vars h0 [(sC g2 [((ah 4 aj) r1.nodes),((ah 1 Value.string) r1.names),((ah 3 aD) r1.mems),((ah 1 i64) r1.outs)]),(sC g29 [((ah 1 z64) r28.1.first),((ah 1 i64) r28.1.count),(i64 r28.1.tests)]),(a43,.cells (flatC (v44.map i64)) false)] h) (fun (v44,a43)=>[(15,(ae 1 a43 (v44.map i64)))]) (fun hm=>?_) ?_
        ·refine gX ?_;refine atF hm fun x47 hx47 hm=>?_;refine gX ?_;refine⟨_,rfl,fun hc=>?_,fun hc=>?_⟩
         ·replace hm:=hm.1 hc;obtain⟨j48,rfl⟩:=Jr hc;replace hm:=hm j48 rfl;refine gX ?_;refine atC hm fun x49 hx49 hm=>?_;refine gH ?_;refine fz ?_;refine gH ?_;refine O.apL (enc:=i64) (l:=v39) (new:=([x49]:(List Nat))) 1 (.tail _ (.tail _ (.head _))) ha41 hm fun a50 h ha51 O hm=>?_;refine gH ?_;exact jx ((v39++([x49]:(List Nat))),a50) hm ⟨ha51,O⟩
         ·replace hm:=hm.2 hc;refine gX ?_;exact jx (v39,a38) hm ⟨ha41,O⟩
        ·clear hm;rintro⟨v44,a43⟩ base h hm ⟨ha45,O⟩;refine gX ?_;refine aH hm fun hm=>?_;refine gH ?_;exact jx ((v44,(v40+1)),a43) hm ⟨ha45,O⟩
       ·refine gX ?_;exact jx (v39,a38) hm ⟨ha41,O⟩
      ·clear hm;rintro⟨v35,a34⟩ base h hm ⟨ha36,O⟩;refine gX ?_;have O:=O.bC (.cells (flatC ((([]:List Pat)).map aP)) false);refine ldA O.i2 ?_;refine gH ?_;refine ca (nZ hm O.has) fun r53 hm=>?_;refine gH ?_;refine jn (σ:=(List Pat)×Option Nat) hm 230 [5,7,9,15] (fun s=>s.1) (fun (v55,a54) h=>(a34=none->v35=[])/\(a54=none->v55=[])/\Own vars h0 [(sC g2 [((ah 4 aj) r1.nodes),((ah 1 Value.string) r1.names),((ah 3 aD) r1.mems),((ah 1 i64) r1.outs)]),(a34,.cells (flatC (v35.map i64)) false),(a54,.cells (flatC (v55.map aP)) false)] h) (fun (v55,a54)=>[(17,(ae 2 a54 (v55.map aP)))]) (fun hm=>?_) ?_
       ·refine gX ?_;refine lw 230 [5,6,7,9,15,18] (σ:=((List Pat)×Nat)×Option Nat) (fun s=>s.1) (fun ((v60,v61),a59) h=>(a34=none->v35=[])/\(a59=none->v60=[])/\Own vars h0 [(sC g2 [((ah 4 aj) r1.nodes),((ah 1 Value.string) r1.names),((ah 3 aD) r1.mems),((ah 1 i64) r1.outs)]),(a34,.cells (flatC (v35.map i64)) false),(a59,.cells (flatC (v60.map aP)) false)] h) (fun ((v60,v61),a59)=>[(17,(ae 2 a59 (v60.map aP))),(19,(i64 v61))]) ((([]:List Pat),0),none) hm ⟨ha36,(fun _=>rfl),(O.sel [1,3,0] (by decide))⟩ ?_;clear hm;rintro⟨⟨v60,v61⟩,a59⟩ nx64 base h hm ⟨ha62,ha63,O⟩;refine gX ?_;refine br hm (fun hm=>?_) fun hm=>?_
        ·apply Cs;conv=>whnf
         apply Cs;conv=>whnf
         apply Cs;conv=>whnf
         apply Cs;conv=>whnf
         refine jn hm 230 [5,6,7,9,15,17,18,19] (fun s=>s) (fun v65 h=>(a34=none->v35=[])/\(a59=none->v60=[])/\Own vars h0 [(sC g2 [((ah 4 aj) r1.nodes),((ah 1 Value.string) r1.names),((ah 3 aD) r1.mems),((ah 1 i64) r1.outs)]),(a34,.cells (flatC (v35.map i64)) false),(a59,.cells (flatC (v60.map aP)) false)] h) (fun v65=>[(136,(.bool v65))]) (fun hm=>?_) ?_
         ·refine gX ?_;refine atF hm fun x69 hx69 hm=>?_;refine gH ?_;refine br hm (fun hm=>?_) fun hm=>?_
          ·refine gX ?_;exact jx true hm ⟨ha62,ha63,O⟩
          ·refine gX ?_;refine atF hm fun x70 hx70 hm=>?_;refine gH ?_;exact jx (!ltN x70 r4.length) hm ⟨ha62,ha63,O⟩
         ·clear hm;rintro v65 base h hm ⟨ha66,ha67,O⟩;refine gX ?_;refine br hm (fun hm=>?_) fun hm=>?_
          ·refine gX ?_;exact fe hm O
          ·refine gX ?_;refine atF hm fun x71 hx71 hm=>?_;refine gH ?_;refine atF hm fun x72 hx72 hm=>?_;refine gH ?_;refine fz ?_;refine gH ?_;refine O.apL (enc:=aP) (l:=v60) (new:=([x72]:(List Pat))) 2 (.tail _ (.tail _ (.head _))) ha67 hm fun a73 h ha74 O hm=>?_;refine gX ?_;refine aH hm fun hm=>?_;refine gH ?_;exact jx (((v60++([x72]:(List Pat))),(v61+1)),a73) hm ⟨ha66,ha74,O⟩
        ·refine gX ?_;exact jx (v60,a59) hm ⟨ha62,ha63,O⟩
       ·clear hm;rintro⟨v55,a54⟩ base h hm ⟨ha56,ha57,O⟩;refine gX ?_;refine ldA O.i0 ?_;refine gH ?_;refine O.GI (fun _ hb=>ml hm hb) (.tail _ (.head _)) ha56 (fun _=>rfl) (i:=2) rfl (by kernel_rfl) (fun h2 q=>(LLe.cons (VLe.refl _ _) (LLe.cons (VLe.refl _ _) (LLe.cons (q) (LLe.nil _))))) (fun r75 h hm' O=>?_);replace hm:=hm';refine gX ?_;refine ldA O.i0 ?_;refine gH ?_;refine O.GI (fun _ hb=>sv hm hb) (.tail _ (.tail _ (.head _))) ha57 (fun _=>rfl) (i:=2) rfl (by kernel_rfl) (fun h2 q=>(LLe.cons (VLe.refl _ _) (LLe.cons (VLe.refl _ _) (LLe.cons (q) (LLe.nil _))))) (fun r76 h hm' O=>?_);replace hm:=hm';refine gH ?_;refine O.new (ai (l:=[nS,nS,(i64 0)]) rfl rfl rfl) fun g77 h O=>?_;refine gH ?_;refine O.stC 3 (.head _) [((ah 1 z64) r76.1.first),((ah 1 i64) r76.1.count),(i64 r76.1.tests)] fun h O=>?_;refine gH ?_
        apply Cs;conv=>whnf
        refine jn hm 230 [7,9,15,20,22] (fun s=>s) (fun v79 h=>(a34=none->v35=[])/\Own vars h0 [(a34,.cells (flatC (v35.map i64)) true),(sC g77 [((ah 1 z64) r76.1.first),((ah 1 i64) r76.1.count),(i64 r76.1.tests)])] h) (fun v79=>[(174,(.bool v79))]) (fun hm=>?_) ?_
        ·refine gX ?_;refine br hm (fun hm=>?_) fun hm=>?_
         ·refine gX ?_;refine bt ?_;refine gH ?_;exact jx true hm ⟨ha56,(O.sel [2,0] (by decide))⟩
         ·refine gX ?_;refine br hm (fun hm=>?_) fun hm=>?_
          ·refine gX ?_;exact jx true hm ⟨ha56,(O.sel [2,0] (by decide))⟩
          ·refine gX ?_;exact jx (neN r76.1.count.length r5.1.length) hm ⟨ha56,(O.sel [2,0] (by decide))⟩
        ·clear hm;rintro v79 base h hm ⟨ha80,O⟩;refine gX ?_;refine br hm (fun hm=>?_) fun hm=>?_
         ·refine gX ?_;exact fe hm O
         ·apply Cs;conv=>whnf
          refine jn hm 230 [7,9,15,22] (fun s=>s) (fun _ h=>(a34=none->v35=[])/\Own vars h0 [(a34,.cells (flatC (v35.map i64)) true),(sC g77 [((ah 1 z64) r76.1.first),((ah 1 i64) r76.1.count),(i64 r76.1.tests)])] h) (fun _=>[]) (fun hm=>?_) ?_
          ·refine gX ?_;refine lw 230 [7,9,15,20,22] (σ:=Nat) (fun s=>s) (fun v84 h=>(a34=none->v35=[])/\Own vars h0 [(a34,.cells (flatC (v35.map i64)) true),(sC g77 [((ah 1 z64) r76.1.first),((ah 1 i64) r76.1.count),(i64 r76.1.tests)])] h) (fun v84=>[(24,(i64 v84))]) 0 hm ⟨ha80,O⟩ ?_;clear hm;rintro v84 nx86 base h hm ⟨ha85,O⟩;refine gX ?_;refine lmC ?_;refine gX ?_;refine br hm (fun hm=>?_) fun hm=>?_
           ·apply Cs;conv=>whnf
            apply Cs;conv=>whnf
            apply Cs;conv=>whnf
            refine jn hm 230 [7,9,15,20,22,24] (fun s=>s) (fun v87 h=>(a34=none->v35=[])/\Own vars h0 [(a34,.cells (flatC (v35.map i64)) true),(sC g77 [((ah 1 z64) r76.1.first),((ah 1 i64) r76.1.count),(i64 r76.1.tests)])] h) (fun v87=>[(205,(.bool v87))]) (fun hm=>?_) ?_
            ·refine gX ?_;refine atC hm fun x90 hx90 hm=>?_;refine gH ?_;refine br hm (fun hm=>?_) fun hm=>?_
             ·refine gX ?_;refine bt ?_;refine gH ?_;exact jx true hm ⟨ha85,O⟩
             ·refine gX ?_;refine atC hm fun x91 hx91 hm=>?_;refine gH ?_;refine br hm (fun hm=>?_) fun hm=>?_
              ·refine gX ?_;exact jx true hm ⟨ha85,O⟩
              ·refine gX ?_
               first|refine⟨.inr (.inr (bz rfl O.i1 rfl rfl)),?_⟩|refine⟨.inr (.inl (by kernel_rfl)),?_⟩
               refine gX ?_;refine atC hm fun x92 hx92 hm=>?_;refine gH ?_;refine atF hm fun x93 hx93 hm=>?_;refine gH ?_;exact jx (eqN x93 0) hm ⟨ha85,O⟩
            ·clear hm;rintro v87 base h hm ⟨ha88,O⟩;refine gX ?_;refine br hm (fun hm=>?_) fun hm=>?_
             ·refine gX ?_;exact fe hm O
             ·refine gX ?_;refine aH hm fun hm=>?_;refine gH ?_;exact jx (v84+1) hm ⟨ha88,O⟩
           ·refine gX ?_;exact jx () hm ⟨ha85,O⟩
          ·clear hm;rintro _ base h hm ⟨ha82,O⟩;refine gX ?_;refine ldA O.i1 ?_;refine gH ?_;refine ca (mr hm O.has) fun r94 hm=>?_;refine gX ?_;refine br hm (fun hm=>?_) fun hm=>?_
           ·refine gX ?_;refine lmC ?_;refine gH ?_;refine br hm (fun hm=>?_) fun hm=>?_
            ·refine gX ?_;refine bt ?_;refine gH ?_;refine ca (fN hm O.has) fun r95 hm=>?_;refine gX ?_;exact fe hm O
            ·refine gX ?_;refine br hm (fun hm=>?_) fun hm=>?_
             ·refine gX ?_;refine ca (fN hm O.has) fun r96 hm=>?_;refine gX ?_;exact fe hm O
             ·refine gX ?_;exact fe hm O
           ·refine gX ?_;refine bf ?_;refine gX ?_;exact fe hm O
def RtN (ps:List Nat):Nat->Nat->Nat->Prop
 |0,i,r=>ps[i]?=some i/\i=r
 |n+1,i,r=>∃ j,ps[i]?=some j/\j≠i/\RtN ps n j r
theorem RtN.uniq {ps:List Nat}:∀ {n i r m s},RtN ps n i r->RtN ps m i s->n=m/\r=s
 |0,i,r,0,s,h,g=>⟨rfl,h.2.symm.trans g.2⟩
 |0,i,r,m+1,s,h,g=>by
  obtain⟨j,g1,g2,_⟩:=g;rw[h.1] at g1;exact absurd (Option.some.inj g1).symm g2
 |n+1,i,r,0,s,h,g=>by
  obtain⟨j,g1,g2,_⟩:=h;rw[g.1] at g1;exact absurd (Option.some.inj g1).symm g2
 |n+1,i,r,m+1,s,h,g=>by
  obtain⟨j,h1,_,h3⟩:=h;obtain⟨k,g1,_,g3⟩:=g;rw[h1] at g1;cases g1;obtain⟨rfl,rfl⟩:=RtN.uniq h3 g3;exact⟨rfl,rfl⟩
theorem RtN.root {ps:List Nat}:∀ {n i r},RtN ps n i r->ps[r]?=some r
 |0,_,_,h=>h.2 ▸ h.1
 |_+1,_,_,⟨_,_,_,h⟩=>RtN.root h
theorem RtN.yU {ps:List Nat}{i j k:Nat} (hi:ps[i]?=some j) (hj:ps[j]?=some k) (hne:j≠i):∀ {n x r},RtN ps n x r->∃ m,m<=n/\RtN (ps.set i k) m x r:=by
 have hlt:i<ps.length:=(List.getElem?_eq_some_iff.1 hi).1;intro n
 induction n using Nat.strongRecOn with
 |_ n ih =>
  intro x r h
  match n,h with
  |0,h =>
   refine⟨0,Nat.le_refl _,?_,h.2⟩;rw[List.getElem?_set_ne,h.1];rintro rfl;rw[h.1] at hi;exact hne (Option.some.inj hi).symm
  |n+1,⟨y,h1,h2,h3⟩ =>
   by_cases c:i=x
   ·subst c;rw[hi] at h1;cases h1
    match n,h3 with
    |0,h3 =>
     rw[h3.1] at hj;cases hj;obtain⟨m,_,hm⟩:=ih 0 (by omega) h3
     obtain⟨rfl,e⟩:m=0/\r=r:=by
      refine⟨?_,rfl⟩;omega
     exact⟨1,by omega,j,by rw[List.getElem?_set_self hlt],hne,hm⟩
    |n+1,⟨k',g1,g2,g3⟩ =>
     rw[hj] at g1;cases g1
     have hk:k≠i:=by
      rintro rfl;have:=(RtN.uniq g3 (show RtN ps (n+2) k r from⟨j,hi,hne,k,hj,g2,g3⟩)).1;omega
     obtain⟨m,hm1,hm⟩:=ih n (by omega) g3;exact⟨m+1,by omega,k,by rw[List.getElem?_set_self hlt],hk,hm⟩
   ·obtain⟨m,hm1,hm⟩:=ih n (by omega) h3;exact⟨m+1,by omega,y,by rw[List.getElem?_set_ne c,h1],h2,hm⟩
def Rt (ps:List Nat) (i r:Nat):Prop:=∃ n,RtN ps n i r
theorem Rt.uniq {ps:List Nat}{i r s:Nat} (h:Rt ps i r) (g:Rt ps i s):r=s:=by
 obtain⟨n,h⟩:=h;obtain⟨m,g⟩:=g;exact (RtN.uniq h g).2
theorem Rt.root {ps:List Nat}{i r:Nat} (h:Rt ps i r):ps[r]?=some r:=by
 obtain⟨n,h⟩:=h;exact h.root
theorem Rt.self {ps:List Nat}{r:Nat} (h:ps[r]?=some r):Rt ps r r:=⟨0,h,rfl⟩
theorem Rt.lt {ps:List Nat}{i r:Nat} (h:Rt ps i r):r<ps.length:=(List.getElem?_eq_some_iff.1 h.root).1
theorem Rt.lt1 {ps:List Nat}{i r:Nat}:Rt ps i r->i<ps.length
 |⟨0,h⟩=>(List.getElem?_eq_some_iff.1 h.1).1
 |⟨_+1,_,h,_⟩=>(List.getElem?_eq_some_iff.1 h).1
def Fo (ps:List Nat):Prop:=∀ i,i<ps.length->∃ r,Rt ps i r
structure SameR (ps qs:List Nat):Prop where
 len:qs.length=ps.length
 rt:∀ i r,Rt ps i r->Rt qs i r
theorem SameR.refl (ps:List Nat):SameR ps ps:=⟨rfl,fun _ _ h=>h⟩
theorem SameR.trans {a b d:List Nat} (h:SameR a b) (g:SameR b d):SameR a d:=⟨g.len.trans h.len,fun i r q=>g.rt i r (h.rt i r q)⟩
theorem SameR.fo {ps qs:List Nat} (h:SameR ps qs) (F:Fo ps):Fo qs:=fun i hi=>by
 obtain⟨r,hr⟩:=F i (h.len ▸ hi);exact⟨r,h.rt i r hr⟩
theorem SameR.back {ps qs:List Nat} (h:SameR ps qs) (F:Fo ps) {i r:Nat} (g:Rt qs i r):Rt ps i r:=by
 obtain⟨s,hs⟩:=F i (h.len ▸ g.lt1);have:=(h.rt i s hs).uniq g;exact this ▸ hs
theorem SameR.yU {ps:List Nat}{i j k:Nat} (hi:ps[i]?=some j) (hj:ps[j]?=some k) (hne:j≠i):SameR ps (ps.set i k) :=
 ⟨List.length_set ..,fun x r ⟨n,h⟩=>by
  obtain⟨m,_,hm⟩:=RtN.yU hi hj hne h
  exact⟨m,hm⟩⟩
theorem RtN.link {ps:List Nat}{a b:Nat} (ha:ps[a]?=some a) (hb:ps[b]?=some b) (hne:a≠b):∀ {n i r},RtN ps n i r->Rt (ps.set a b) i (if r=a then b else r)
 |0,i,r,h=>by
  obtain⟨h1,rfl⟩:=h;have hl:a<ps.length:=(List.getElem?_eq_some_iff.1 ha).1;by_cases c:i=a
  ·subst c;rw[if_pos rfl];exact⟨1,b,by rw[List.getElem?_set_self hl],fun e=>hne e.symm,by rw[List.getElem?_set_ne hne,hb],rfl⟩
  ·rw[if_neg c];exact Rt.self (by rw[List.getElem?_set_ne (fun e=>c e.symm),h1])
 |n+1,i,r,⟨j,h1,h2,h3⟩=>by
  obtain⟨m,hm⟩:=RtN.link ha hb hne h3
  have c:a≠i:=by
   rintro rfl;rw[ha] at h1;exact h2 (Option.some.inj h1).symm
  exact⟨m+1,j,by rw[List.getElem?_set_ne c,h1],h2,hm⟩
theorem Rt.link {ps:List Nat}{a b:Nat} (ha:ps[a]?=some a) (hb:ps[b]?=some b) {i r:Nat} (h:Rt ps i r):Rt (ps.set a b) i (if r=a then b else r):=by
 by_cases c:a=b
 ·subst c;have hl:a<ps.length:=(List.getElem?_eq_some_iff.1 ha).1
  have e:ps.set a a=ps:=by
   apply List.ext_getElem?;intro j;by_cases q:a=j
   ·subst q;rw[List.getElem?_set_self hl,ha]
   ·rw[List.getElem?_set_ne q]
  rw[e];split
  ·rename_i q;exact q ▸ h
  ·exact h
 ·obtain⟨n,h⟩:=h;exact h.link ha hb c
inductive Cn {α:Type} (E:α->α->Prop):α->α->Prop
 |refl (a:α):Cn E a a
 |fwd {a b d:α}:E a b->Cn E b d->Cn E a d
 |bwd {a b d:α}:E b a->Cn E b d->Cn E a d
theorem Cn.trans {α:Type}{E:α->α->Prop}{a b d:α} (h:Cn E a b) (g:Cn E b d):Cn E a d:=by
 induction h with
 |refl=>exact g
 |fwd e _ ih=>exact .fwd e (ih g)
 |bwd e _ ih=>exact .bwd e (ih g)
theorem Cn.one {α:Type}{E:α->α->Prop}{a b:α} (h:E a b):Cn E a b:=.fwd h (.refl _)
theorem Cn.symm {α:Type}{E:α->α->Prop}{a b:α} (h:Cn E a b):Cn E b a:=by
 induction h with
 |refl=>exact .refl _
 |fwd e _ ih=>exact ih.trans (.bwd e (.refl _))
 |bwd e _ ih=>exact ih.trans (.fwd e (.refl _))
theorem Cn.mono {α:Type}{E F:α->α->Prop} (hE:∀ a b,E a b->F a b) {a b:α} (h:Cn E a b):Cn F a b:=by
 induction h with
 |refl=>exact .refl _
 |fwd e _ ih=>exact .fwd (hE _ _ e) ih
 |bwd e _ ih=>exact .bwd (hE _ _ e) ih
theorem Cn.inv {α β:Type}{E:α->α->Prop}{f:α->β} (hE:∀ a b,E a b->f a=f b) {a b:α} (h:Cn E a b):f a=f b:=by
 induction h with
 |refl=>rfl
 |fwd e _ ih=>exact (hE _ _ e).trans ih
 |bwd e _ ih=>exact (hE _ _ e).symm.trans ih
theorem Cn.add {α:Type}{E:α->α->Prop}{x y a b:α} (h:Cn (fun u v=>E u v\/u=x/\v=y) a b):Cn E a b\/(Cn E a x\/Cn E a y)/\(Cn E b x\/Cn E b y):=by
 induction h with
 |refl=>exact .inl (.refl _)
 |fwd e _ ih =>
  rcases e with e|⟨rfl,rfl⟩
  ·rcases ih with ih|⟨h1,h2⟩
   ·exact .inl (.fwd e ih)
   ·exact .inr ⟨h1.imp (.fwd e) (.fwd e),h2⟩
  ·rcases ih with ih|⟨h1,h2⟩
   ·exact .inr ⟨.inl (.refl _),.inr ih.symm⟩
   ·exact .inr ⟨.inl (.refl _),h2⟩
 |bwd e _ ih =>
  rcases e with e|⟨rfl,rfl⟩
  ·rcases ih with ih|⟨h1,h2⟩
   ·exact .inl (.bwd e ih)
   ·exact .inr ⟨h1.imp (.bwd e) (.bwd e),h2⟩
  ·rcases ih with ih|⟨h1,h2⟩
   ·exact .inr ⟨.inr (.refl _),.inl ih.symm⟩
   ·exact .inr ⟨.inr (.refl _),h2⟩
structure UfI {α:Type} (V:α->Prop) (num:α->Nat) (E:α->α->Prop) (ps:List Nat) (np:Nat):Prop where
 len:ps.length=np
 fo:Fo ps
 lt:∀ a,V a->num a<np
 cn:∀ a b r s,V a->V b->Rt ps (num a) r->Rt ps (num b) s->(r=s↔Cn E a b)
theorem UfI.same {α:Type}{V:α->Prop}{num:α->Nat}{E:α->α->Prop}{ps qs:List Nat}{np:Nat} (U:UfI V num E ps np) (h:SameR ps qs):UfI V num E qs np :=
 ⟨h.len.trans U.len,h.fo U.fo,U.lt,fun a b r s ha hb h1 h2=>U.cn a b r s ha hb (h.back U.fo h1) (h.back U.fo h2)⟩
theorem UfI.join {α:Type}{V:α->Prop}{num:α->Nat}{E:α->α->Prop}{ps:List Nat}{np:Nat} (U:UfI V num E ps np) {x y:α} (hx:V x) (hy:V y) {rx ry:Nat} (h1:Rt ps (num x) rx) (h2:Rt ps (num y) ry) :
  UfI V num (fun u v=>E u v\/u=x/\v=y) (ps.set rx ry) np:=by
 have R:=@Rt.link ps rx ry h1.root h2.root;refine⟨(List.length_set ..).trans U.len,fun i hi=>?_,U.lt,fun a b r s ha hb g1 g2=>?_⟩
 ·rw[List.length_set] at hi;obtain⟨r,hr⟩:=U.fo i hi;exact⟨_,R hr⟩
 ·obtain⟨r0,hr0⟩:=U.fo (num a) (U.len ▸ U.lt a ha);obtain⟨s0,hs0⟩:=U.fo (num b) (U.len ▸ U.lt b hb);have e1:=g1.uniq (R hr0);have e2:=g2.uniq (R hs0);have hE:∀ u v,Cn E u v->Cn (fun u v=>E u v\/u=x/\v=y) u v:=fun u v h=>h.mono fun _ _ h=>.inl h;have hxy:Cn (fun u v=>E u v\/u=x/\v=y) x y:=.one (.inr ⟨rfl,rfl⟩);have ax:=U.cn a x r0 rx ha hx hr0 h1;have ay:=U.cn a y r0 ry ha hy hr0 h2;have bx:=U.cn b x s0 rx hb hx hs0 h1;have by_:=U.cn b y s0 ry hb hy hs0 h2;have ab:=U.cn a b r0 s0 ha hb hr0 hs0;constructor
  ·intro e;rw[e1,e2] at e;by_cases c1:r0=rx
   ·by_cases c2:s0=rx
    ·exact hE _ _ (ab.1 (c1.trans c2.symm))
    ·rw[if_pos c1,if_neg c2] at e;exact (hE _ _ (ax.1 c1)).trans (hxy.trans (hE _ _ (by_.1 e.symm)).symm)
   ·by_cases c2:s0=rx
    ·rw[if_neg c1,if_pos c2] at e;exact (hE _ _ (ay.1 e)).trans (hxy.symm.trans (hE _ _ (bx.1 c2)).symm)
    ·rw[if_neg c1,if_neg c2] at e;exact hE _ _ (ab.1 e)
  ·intro h;rw[e1,e2]
   rcases h.add with h|⟨h1,h2⟩
   ·rw[ab.2 h]
   ·have key:∀ (z z0:Nat),(z=rx\/z=ry)->(if z=rx then ry else z)=ry:=by
     intro z _ h
     rcases h with rfl|rfl
     ·rw[if_pos rfl]
     ·split <;> rfl
    rw[key r0 0 (h1.imp ax.2 ay.2),key s0 0 (h2.imp bx.2 by_.2)]
def lh {α:Type} (down:α->Option α):Nat->α->α
 |0,a=>a
 |n+1,a=>match down a with|some b=>lh down n b|none=>a
theorem xV {α:Type}{down:α->Option α}:∀ n a,Cn (fun u v=>down u=some v) a (lh down n a)
 |0,a=>.refl _
 |n+1,a=>by
  rw[lh]
  cases h:down a with
  |none=>exact .refl _
  |some b=>exact .fwd h (xV n b)
theorem wB {α:Type}{down:α->Option α}{μ:α->Nat} (hμ:∀ a b,down a=some b->μ b<μ a):∀ n a m,μ a<=n->μ a<=m->lh down n a=lh down m a
 |0,a,m,h,_=>by
  have:down a=none:=by
   cases e:down a with
   |none=>rfl
   |some b=>have:=hμ a b e;omega
  cases m with
  |zero=>rfl
  |succ m=>rw[lh,lh,this]
 |n+1,a,0,_,h=>by
  have:down a=none:=by
   cases e:down a with
   |none=>rfl
   |some b=>have:=hμ a b e;omega
  rw[lh,lh,this]
 |n+1,a,m+1,h1,h2=>by
  rw[lh,lh]
  cases e:down a with
  |none=>rfl
  |some b=>have:=hμ a b e;exact wB hμ n b m (by omega) (by omega)
theorem CZ {α:Type}{down:α->Option α}{μ:α->Nat} (hμ:∀ a b,down a=some b->μ b<μ a) {N:Nat}{a b:α} (hN:μ a<=N) (h:down a=some b):lh down N a=lh down N b:=by
 have:=hμ a b h
 cases N with
 |zero=>omega
 |succ N =>
  rw[lh,h];exact wB hμ N b (N+1) (by omega) (by omega)
theorem IK {α:Type}{down:α->Option α}{μ:α->Nat} (hμ:∀ a b,down a=some b->μ b<μ a) {N:Nat} (hN:∀ a,μ a<=N) {a b:α}:Cn (fun u v=>down u=some v) a b↔lh down N a=lh down N b:=by
 constructor
 ·exact Cn.inv fun u v h=>CZ hμ (hN u) h
 ·intro e;have h1:=xV (down:=down) N a;rw[e] at h1;exact h1.trans (xV N b).symm
structure Si where
 node:Nat
 pin:Nat
 v:Nat
deriving DecidableEq
structure VS (c:Circ) (s:Si):Prop where
 node:s.node<c.nodes.length
 pin:s.pin<=(insOf c s.node).length
 v:s.v<=1
def eqR (k n:Nat):List Rul :=
 if k=3\/k=13/\n=1 then [⟨0,0⟩,⟨1,1⟩] else if k=4 then [⟨0,1⟩,⟨1,0⟩] else if k=5 then [⟨0,0⟩] else if k=6 then [⟨0,1⟩] else if k=7 then [⟨1,1⟩] else if k=8 then [⟨1,0⟩] else []
theorem tI {k n:Nat}{r:Rul} (h:r∈eqR k n):r.pin<=1/\r.out<=1:=by
 unfold eqR at h;split at h
 ·simp only[List.mem_cons,List.not_mem_nil,or_false] at h
  rcases h with rfl|rfl <;> decide
 split at h
 ·simp only[List.mem_cons,List.not_mem_nil,or_false] at h
  rcases h with rfl|rfl <;> decide
 split at h
 ·rw[List.mem_singleton] at h;subst h;decide
 split at h
 ·rw[List.mem_singleton] at h;subst h;decide
 split at h
 ·rw[List.mem_singleton] at h;subst h;decide
 split at h
 ·rw[List.mem_singleton] at h;subst h;decide
 ·cases h
theorem HB (k n:Nat):(eqR k n).length<=2:=by
 unfold eqR
 repeat' split
 all_goals decide
def IP (n:Nat) (r:Rul) (j:Nat):Si×Si:=(⟨n,j+1,r.pin⟩,⟨n,0,r.out⟩)
def Bh (c:Circ) (n:Nat) (r:Rul):List (Si×Si):=(List.range (insOf c n).length).map (IP n r)
def EO (c:Circ) (n:Nat):List (Si×Si):=(eqR (kd c n) (insOf c n).length).flatMap (Bh c n)
def gO (c:Circ) (i:Nat):List (Si×Si):=(List.range i).flatMap (EO c)
def om (c:Circ) (n:Nat):Option Ln:=match fanOf c n with
 |[l]=>if n∈c.outs then none else some l
 |_=>none
def CR (c:Circ) (n:Nat):List (Si×Si):=match om c n with
 |some l=>[(⟨n,0,0⟩,⟨l.node,l.pin+1,0⟩),(⟨n,0,1⟩,⟨l.node,l.pin+1,1⟩)]
 |none=>[]
def kF (c:Circ) (i:Nat):List (Si×Si):=(List.range i).flatMap (CR c)
def edgesN (c:Circ):List (Si×Si):=gO c c.nodes.length++kF c c.nodes.length
theorem zb (c:Circ) (i:Nat):gO c (i+1)=gO c i++EO c i:=by
 unfold gO;rw[List.range_succ,List.flatMap_append];simp
theorem sc (c:Circ) (i:Nat):kF c (i+1)=kF c i++CR c i:=by
 unfold kF;rw[List.range_succ,List.flatMap_append];simp
def eo (c:Circ):Nat->Nat
 |0=>0
 |i+1=>eo c i+2*((insOf c i).length+1)
def fsN (c:Circ):List Nat:=(List.range c.nodes.length).map (eo c)
def npN (c:Circ):Nat:=eo c c.nodes.length
def jv (c:Circ) (s:Si):Nat:=eo c s.node+2*s.pin+s.v
theorem mG {c:Circ}{i j:Nat} (h:i<=j):eo c i<=eo c j:=by
 induction j with
 |zero =>
    have:i=0:=by omega
    rw[this];exact Nat.le_refl _
 |succ j ih =>
  by_cases q:i=j+1
  ·rw[q];exact Nat.le_refl _
  ·have:=ih (by omega);rw[eo];omega
theorem xP {c:Circ}{s:Si} (h:VS c s):jv c s<eo c (s.node+1):=by
 have:=h.pin;have:=h.v;unfold jv;rw[eo];omega
theorem lH {c:Circ}{s:Si} (h:VS c s):jv c s<npN c:=Nat.lt_of_lt_of_le (xP h) (mG h.node)
theorem D9 {c:Circ}{s t:Si} (h:VS c s) (g:VS c t) (e:jv c s=jv c t):s=t:=by
 have h1:=xP h;have h2:=xP g
 have hn:s.node=t.node:=by
  rcases Nat.lt_trichotomy s.node t.node with q|q|q
  ·have:=mG (c:=c) (show s.node+1<=t.node from q)
   have:eo c t.node<=jv c t:=by unfold jv;omega
   omega
  ·exact q
  ·have:=mG (c:=c) (show t.node+1<=s.node from q)
   have:eo c s.node<=jv c s:=by unfold jv;omega
   omega
 have a1:=h.v;have a2:=g.v;obtain⟨n,p,v⟩:=s;obtain⟨n',p',v'⟩:=t;dsimp only at hn a1 a2;subst hn;unfold jv at e;dsimp only at e
 obtain rfl:p=p':=by omega
 obtain rfl:v=v':=by omega
 rfl
theorem qN {c:Circ} (C:Cir c):∀ i,i<=c.nodes.length->eo c i<=i*34
 |0,_=>Nat.le_refl _
 |i+1,h=>by
  have:=qN C i (by omega);obtain⟨x,hx⟩:=av (show i<c.nodes.length from h);have:=(C.good.node i x hx).few;rw[eo,ch hx];omega
theorem A4 {c:Circ} (C:Cir c):npN c<=544:=by
 have:=qN C _ (Nat.le_refl _);have:=C.len;unfold npN;omega
theorem HF {c:Circ}{i:Nat} (h:i<c.nodes.length):(fsN c)[i]?=some (eo c i):=by
 unfold fsN;rw[List.getElem?_map,List.getElem?_range h];rfl
theorem HK {c:Circ} (C:Cir c) {K:List Nat×List Nat×Nat->Prop} (h:K (fsN c,List.range (npN c),npN c)):er c K:=by
 have hlen:=C.len;have hnp:=A4 C;unfold er;refine aA (fun s=>s.2.2<=c.nodes.length/\s.1=(List.range s.2.2).map (eo c)/\s.2.1=eo c s.2.2) (fun s=>c.nodes.length-s.2.2) (fun s=>s=(fsN c,npN c)) ?_ ⟨Nat.zero_le _,rfl,rfl⟩ ?_
 ·rintro k ⟨fs,n,i⟩ nx ⟨hi,hf,hn⟩ hnx hk;dsimp only at hi hf hn;refine⟨fun q=>?_,fun q=>hk _ ?_⟩
  ·have q:i<c.nodes.length:=aO.1 q;obtain⟨x,hx⟩:=av q;have hfew:=(C.good.node i x hx).few;have:=qN C i (by omega);refine⟨x,hx,?_,by omega,by omega,by omega,by omega,hnx _ ⟨q,?_,?_⟩ (by dsimp only;omega)⟩
   ·rw[hf,List.length_map,List.length_range,List.length_singleton];omega
   ·dsimp only;rw[hf,hn,List.range_succ,List.map_append];rfl
   ·dsimp only;rw[eo,ch hx,hn]
  ·have q:c.nodes.length<=i:=bk.1 q
   obtain rfl:i=c.nodes.length:=by omega
   rw[hf,hn];rfl
 ·rintro _ rfl;refine⟨by omega,by omega,?_⟩;refine aA (fun s=>s.2<=npN c/\s.1=List.range s.2++List.replicate (npN c-s.2) 0) (fun s=>npN c-s.2) (fun s=>s=List.range (npN c)) ?_ ⟨Nat.zero_le _,by simp⟩ (fun _ e=>e ▸ h);rintro k ⟨ps,i⟩ nx ⟨hi,hp⟩ hnx hk;dsimp only at hi hp;refine⟨fun q=>?_,fun q=>hk _ ?_⟩
  ·have q:i<npN c:=aO.1 q
   have hl:i<ps.length:=by rw[hp];simp;omega
   refine⟨q,_,List.getElem?_eq_getElem hl,by omega,hnx _ ⟨q,?_⟩ (by dsimp only;omega)⟩;dsimp only;rw[hp,List.set_append_right _ _ (by simp),List.range_succ,List.append_assoc];congr 1;rw[List.length_range,Nat.sub_self,show npN c-i=(npN c-(i+1))+1 by omega,List.replicate_succ];rfl
  ·have q:npN c<=i:=bk.1 q
   obtain rfl:i=npN c:=by omega
   rw[hp];simp
theorem CU {S:Type}{body:S->(S->Prop)->Prop} (Inv:Nat->S->Prop) (step:∀ n s next,Inv n s->(∀ m s',m<n->Inv m s'->next s')->body s next) {n:Nat}{s:S} (h:Inv n s):aF body s:=by
 have key:∀ N n s,Inv n s->n<N->Ag body N s:=by
  intro N
  induction N with
  |zero=>intro n s _ h;omega
  |succ N ih=>exact fun n s hI hn=>step n s _ hI fun m s' h1 h2=>ih m s' h2 (by omega)
 exact⟨n+1,key _ n s h (by omega)⟩
theorem pK {np i r:Nat}{fs ps:List Nat} (hl:ps.length=np) (hr:Rt ps i r) {K:List Nat×Nat->Prop} (h:∀ qs,SameR ps qs->K (qs,r)):bV np fs ps i K:=by
 obtain⟨n,hn⟩:=hr;unfold bV;refine CU (fun n s=>SameR ps s.1/\RtN s.1 n s.2 r) ?_ (n:=n) ⟨SameR.refl ps,hn⟩;rintro n ⟨qs,i⟩ nx ⟨hs,hq⟩ hnx;dsimp only at hs hq;have hlq:qs.length=np:=hs.len.trans hl;have hi:i<np:=hlq ▸ Rt.lt1 ⟨n,hq⟩
 match n,hq with
 |0,hq =>
  obtain⟨h1,rfl⟩:=hq;exact⟨hi,i,h1,(fun q=>absurd rfl (fx.1 q)),fun _=>h qs hs⟩
 |n+1,⟨j,h1,h2,h3⟩ =>
  have hj:j<np:=hlq ▸ Rt.lt1 ⟨n,h3⟩;obtain⟨k,hk⟩:=av (l:=qs) (i:=j) (by rw[hlq];exact hj);refine⟨hi,j,h1,fun _=>⟨hi,j,h1,hj,k,hk,hi,j,h1,hi,k,List.getElem?_set_self (by rw[hlq];exact hi),?_⟩,fun q=>absurd (yC.1 q) h2⟩
  obtain⟨m,hm1,hm⟩:∃ m,m<=n/\RtN (qs.set i k) m k r:=by
   match n,h3 with
   |0,h3 =>
    obtain⟨e,rfl⟩:=h3;rw[e] at hk;cases hk;obtain⟨m,hm,g⟩:=RtN.yU h1 e h2 (show RtN qs 0 j j from⟨e,rfl⟩);exact⟨m,hm,g⟩
   |n+1,⟨k',e,_,h3⟩ =>
    rw[hk] at e;cases e;obtain⟨m,hm,g⟩:=RtN.yU h1 hk h2 h3;exact⟨m,by omega,g⟩
  exact hnx m _ (by omega) ⟨hs.trans (SameR.yU h1 hk h2),hm⟩
theorem ud {c:Circ} (C:Cir c) {s:Si} (hs:VS c s) {np:Nat}{ps:List Nat}{pin:Int} (hp:pin+Int.ofNat 1=Int.ofNat s.pin) {K:Nat->Prop} (h:K (jv c s)):bY np (fsN c) ps s.node pin s.v K:=by
 have h1:=lH hs;have h2:=A4 C;have h3:=hs.v;unfold jv at h1;unfold bY;exact⟨_,HF hs.node,s.pin,hp,by omega,by omega,by omega,by omega,by omega,h⟩
abbrev EdgeI (c:Circ) (es:List (Si×Si)) (ps:List Nat):Prop:=UfI (VS c) (jv c) (fun u w=>(u,w)∈es) ps (npN c)
theorem UfI.congr {α:Type}{V:α->Prop}{num:α->Nat}{E F:α->α->Prop}{ps:List Nat}{np:Nat} (U:UfI V num E ps np) (h:∀ a b,E a b↔F a b):UfI V num F ps np:=by
 have:E=F:=by funext a b;exact propext (h a b)
 exact this ▸ U
theorem Cp {c:Circ}{es:List (Si×Si)}{ps:List Nat} (U:EdgeI c es ps) {x y:Si} (hx:VS c x) (hy:VS c y) {fs:List Nat}{K:List Nat->Prop} (h:∀ qs,EdgeI c (es++[(x,y)]) qs->K qs):dw (npN c) fs ps (jv c x) (jv c y) K:=by
 obtain⟨rx,hrx⟩:=U.fo (jv c x) (U.len ▸ lH hx);obtain⟨ry,hry⟩:=U.fo (jv c y) (U.len ▸ lH hy);unfold dw;refine pK U.len hrx fun qs hq=>?_;have U1:=U.same hq;refine pK U1.len (hq.rt _ _ hry) fun qs2 hq2=>?_;have U2:=U1.same hq2;have h1:=hq2.rt _ _ (hq.rt _ _ hrx);have h2:=hq2.rt _ _ (hq.rt _ _ hry);refine⟨by rw[<- U2.len];exact h1.lt,_,h1.root,h _ ((U2.join hx hy h1 h2).congr fun a b=>?_)⟩;rw[List.mem_append,List.mem_singleton,Prod.mk.injEq]
theorem sa {k:Nat}{K:Rul×Bool->Prop} (h5:k=5->K (⟨0,0⟩,true)) (h6:k=6->K (⟨0,1⟩,true)) (h7:k=7->K (⟨1,1⟩,true)) (h8:k=8->K (⟨1,0⟩,true)) (h:k≠5->k≠6->k≠7->k≠8->K (⟨0,0⟩,false)):bw k K :=
 ⟨fun q=>h5 (dA.1 q),fun q5=>⟨fun q=>h6 (dA.1 q),fun q6=>⟨fun q=>h7 (dA.1 q),fun q7=>⟨fun q=>h8 (dA.1 q),fun q8=>h (cY.1 q5) (cY.1 q6) (cY.1 q7) (cY.1 q8)⟩⟩⟩⟩
theorem D5 {x:Node}{K:List Rul->Prop} (h:K (eqR x.kind x.ins.length)):cR x K:=by
 have fin:(x.kind≠3)->¬ (x.kind=13/\x.ins.length=1)->x.kind≠4->bw x.kind (fun r2=>(r2.2=true->K ([(⟨r2.1.pin,r2.1.out⟩:Rul)]:(List Rul)))/\(r2.2=false->K ([]))):=by
  intro h3 h13 h4
  have e:eqR x.kind x.ins.length=if x.kind=5 then [⟨0,0⟩] else if x.kind=6 then [⟨0,1⟩] else if x.kind=7 then [⟨1,1⟩] else if x.kind=8 then [⟨1,0⟩] else []:=by
   unfold eqR;rw[if_neg (fun q=>q.elim h3 h13),if_neg h4]
  rw[e] at h;refine sa (fun q=>?_) (fun q=>?_) (fun q=>?_) (fun q=>?_) fun q5 q6 q7 q8=>?_
  ·exact⟨fun _=>by simpa[q] using h,fun q=>by cases q⟩
  ·exact⟨fun _=>by simpa[q] using h,fun q=>by cases q⟩
  ·exact⟨fun _=>by simpa[q] using h,fun q=>by cases q⟩
  ·exact⟨fun _=>by simpa[q] using h,fun q=>by cases q⟩
  ·exact⟨(fun q=>by cases q),fun _=>by simpa[q5,q6,q7,q8] using h⟩
 unfold cR;refine⟨fun q=>?_,fun q3=>⟨fun q13=>⟨fun q1=>?_,fun q1=>?_⟩,fun q13=>⟨fun q4=>?_,fun q4=>?_⟩⟩⟩
 ·have q:=dA.1 q;simpa[eqR,q] using h
 ·have q13:=dA.1 q13;have q1:=dA.1 q1;simpa[eqR,q13,q1] using h
 ·have q13:=dA.1 q13;exact fin (cY.1 q3) (fun q=>cY.1 q1 q.2) (by omega)
 ·have q4:=dA.1 q4;simpa[eqR,q4] using h
 ·exact fin (cY.1 q3) (fun q=>cY.1 q13 q.1) (cY.1 q4)
theorem Gp {l:List Nat}{x:Nat} (hl:l.length<2 ^ 60) {K:Int->Prop} (h1:x∈l->∀ i:Nat,K (Int.ofNat i)) (h2:x ∉ l->K (Int.negSucc 0)):gZ l x K:=by
 unfold gZ;refine aA (fun i=>i<=l.length/\x ∉ l.take i) (fun i=>l.length-i) (fun _=>x ∉ l) ?_ ⟨Nat.zero_le _,by simp⟩ (fun _ q=>h2 q);rintro k i nx ⟨hi,hn⟩ hnx hk;refine⟨fun q=>?_,fun q=>hk _ ?_⟩
 ·have q:i<l.length:=aO.1 q;obtain⟨y,hy⟩:=av q;refine⟨y,hy,fun e=>h1 ?_ i,fun e=>⟨by omega,hnx _ ⟨q,?_⟩ (by omega)⟩⟩
  ·rw[dA.1 e];exact List.mem_of_getElem? hy
  ·rw[eU hy,bj];exact fun m=>m.elim hn (cY.1 e)
 ·have q:l.length<=i:=bk.1 q;rw[List.take_of_length_le q] at hn;exact hn
theorem xw {l:List Nat}{x:Nat} (hl:l.length<2 ^ 60) {K:Bool->Prop} (h:K (decide (x∈l))):dT l x K:=by
 unfold dT;refine Gp hl (fun m i=>?_) fun m=>?_
 ·rw[decide_eq_true m] at h;rw[Fh i];exact h
 ·rw[decide_eq_false m] at h;exact h
theorem DK {c:Circ}{n:Nat}{x:Node} (hx:c.nodes[n]?=some x) {r:Rul} (hr:r∈eqR x.kind x.ins.length):VS c ⟨n,0,r.out⟩:=⟨ag hx,Nat.zero_le _,(tI hr).2⟩
theorem DD {c:Circ}{n j:Nat}{x:Node} (hx:c.nodes[n]?=some x) (hj:j<x.ins.length) {r:Rul} (hr:r∈eqR x.kind x.ins.length):VS c ⟨n,j+1,r.pin⟩:=⟨ag hx,by rw[ch hx];exact hj,(tI hr).1⟩
theorem BS {c:Circ}{n:Nat}{l:Ln} (h:l∈fanOf c n):∃ x,c.nodes[l.node]?=some x/\x.ins[l.pin]?=some n:=by
 unfold fanOf at h;obtain⟨p,h1,h2⟩:=List.mem_flatMap.1 h;unfold bD at h2;obtain⟨q,hq,rfl⟩:=List.mem_map.1 h2;obtain⟨hq1,hq2⟩:=List.mem_filter.1 hq;have h1:=List.mem_zipIdx_iff_getElem?.1 h1;have hq1:=List.mem_zipIdx_iff_getElem?.1 hq1
 have hq2:q.1=n:=by simpa using hq2
 exact⟨p.1,h1,hq2 ▸ hq1⟩
theorem rj {c:Circ}{n:Nat}{l:Ln} (h:om c n=some l):fanOf c n=[l]/\n ∉ c.outs:=by
 unfold om at h;split at h
 ·rename_i l' e;split at h
  ·cases h
  ·cases h
   exact⟨e,by assumption⟩
 ·cases h
theorem De {c:Circ} (C:Cir c) {K:List Nat×List Nat×Nat->Prop} (h:∀ ps,EdgeI c (edgesN c) ps->K (fsN c,ps,npN c)):dv c K:=by
 have hlen:=C.len;have hnp:=A4 C;unfold dv;refine HK C ?_
 have U0:EdgeI c [] (List.range (npN c)):=by
  have hr:∀ i r,Rt (List.range (npN c)) i r->i=r:=by
   rintro i r ⟨n,h⟩
   cases n with
   |zero=>exact h.2
   |succ n =>
    obtain⟨j,h1,h2,_⟩:=h;obtain⟨h3,h4⟩:=List.getElem?_eq_some_iff.1 h1;rw[List.getElem_range] at h4;exact absurd h4.symm h2
  refine⟨List.length_range,fun i hi=>⟨i,Rt.self ?_⟩,fun a ha=>lH ha,fun a b r s ha hb h1 h2=>?_⟩
  ·rw[List.length_range] at hi;exact List.getElem?_range hi
  ·rw[<- hr _ _ h1,<- hr _ _ h2];constructor
   ·intro e;rw[D9 ha hb e];exact .refl _
   ·intro q;have:a=b:=q.inv (f:=id) (fun _ _ m=>by cases m);rw[this]
 refine aA (fun s=>s.2<=c.nodes.length/\EdgeI c (gO c s.2) s.1) (fun s=>c.nodes.length-s.2) (fun s=>EdgeI c (gO c c.nodes.length) s) ?_ ⟨Nat.zero_le _,(show EdgeI c (gO c 0) (List.range (npN c)) from U0)⟩ ?_
 ·rintro k ⟨ps,i⟩ nx ⟨hi,hU⟩ hnx hk;dsimp only at hi hU;refine⟨fun q=>?_,fun q=>hk _ ?_⟩
  ·have q:i<c.nodes.length:=aO.1 q;obtain⟨x,hx⟩:=av q;have hfew:=(C.good.node i x hx).few;refine dG (fun s=>EdgeI c (gO c (i+1)) s) (fun k2 hk2=>⟨x,hx,D5 ?_⟩) fun ps2 hU2=>⟨by omega,hnx _ ⟨q,hU2⟩ (by dsimp only;omega)⟩;have hlen2:=HB x.kind x.ins.length;refine bo (fun s=>s.2<=(eqR x.kind x.ins.length).length/\EdgeI c (gO c i++((eqR x.kind x.ins.length).take s.2).flatMap (Bh c i)) s.1) (fun s=>(eqR x.kind x.ins.length).length-s.2) ?_ ⟨Nat.zero_le _,by simpa using hU⟩;rintro⟨ps,t⟩ nx3 ⟨ht,hU⟩ hnx3;dsimp only at ht hU;refine⟨fun q3=>?_,fun q3=>hk2 _ ?_⟩
   ·have q3:t<(eqR x.kind x.ins.length).length:=aO.1 q3;obtain⟨r,hr⟩:=av q3;have hrm:=List.mem_of_getElem? hr;refine dG (fun s=>EdgeI c (gO c i++((eqR x.kind x.ins.length).take t).flatMap (Bh c i)++Bh c i r) s) (fun k4 hk4=>⟨r,hr,?_⟩) fun ps2 hU2=>⟨by omega,hnx3 _ ⟨q3,?_⟩ (by dsimp only;omega)⟩
    ·refine bo (fun s=>s.2<=x.ins.length/\EdgeI c (gO c i++((eqR x.kind x.ins.length).take t).flatMap (Bh c i)++(List.range s.2).map (IP i r)) s.1) (fun s=>x.ins.length-s.2) ?_ ⟨Nat.zero_le _,by simpa using hU⟩;rintro⟨ps,j⟩ nx5 ⟨hj,hU⟩ hnx5;dsimp only at hj hU;refine⟨fun q5=>?_,fun q5=>hk4 _ ?_⟩
     ·have q5:j<x.ins.length:=aO.1 q5;have v1:=DD hx q5 hrm;have v2:=DK hx hrm;refine ud C v1 (by simp only[Int.ofNat_eq_natCast];omega) (ud C v2 (by rfl) (Cp hU v1 v2 fun qs hQ=>⟨by omega,hnx5 _ ⟨q5,?_⟩ (by dsimp only;omega)⟩));dsimp only;rw[List.range_succ,List.map_append,<- List.append_assoc];exact hQ
     ·have q5:x.ins.length<=j:=bk.1 q5
      obtain rfl:j=x.ins.length:=by omega
      have e:Bh c i r=(List.range x.ins.length).map (IP i r):=by unfold Bh;rw[ch hx]
      rw[e];exact hU
    ·dsimp only;rw[eU hr,List.flatMap_append,<- List.append_assoc];simpa using hU2
   ·have q3:(eqR x.kind x.ins.length).length<=t:=bk.1 q3;rw[List.take_of_length_le q3] at hU;rw[zb];unfold EO;rw[ch hx,ia hx];exact hU
  ·have q:c.nodes.length<=i:=bk.1 q
   obtain rfl:i=c.nodes.length:=by omega
   exact hU
 ·intro ps1 hU1;refine dG (fun s=>EdgeI c (edgesN c) s) (fun k hk=>⟨C.good.fanOk,?_⟩) (fun ps hU=>h ps hU)
  have hfl:(FI c).length=c.nodes.length:=by unfold FI oa;simp
  refine bo (fun s=>s.2<=c.nodes.length/\EdgeI c (gO c c.nodes.length++kF c s.2) s.1) (fun s=>c.nodes.length-s.2) ?_ ⟨Nat.zero_le _,by simpa[kF] using hU1⟩;rintro⟨ps,i⟩ nx ⟨hi,hU⟩ hnx;dsimp only at hi hU;refine⟨fun q=>?_,fun q=>hk _ ?_⟩
  ·have q:i<c.nodes.length:=hfl ▸ aO.1 q
   have hget:(FI c)[i]?=some ((fanOf c i).map Ln.toZ):=by
    unfold FI;rw[List.getElem?_map,uZ q];rfl
   refine dG (fun s=>EdgeI c (gO c c.nodes.length++kF c (i+1)) s) (fun k2 hk2=>⟨_,hget,?_⟩) fun ps2 hU2=>⟨by omega,hnx _ ⟨q,hU2⟩ (by dsimp only;omega)⟩;refine dG (fun b=>b=(om c i).isSome) (fun k3 hk3=>⟨fun e=>?_,fun e=>hk3 _ ?_⟩) ?_
   ·have e:=dA.1 e;rw[List.length_map] at e;obtain⟨l,hl⟩:=List.length_eq_one_iff.1 e;refine xw (by have:=C.good.outsLen;omega) (hk3 _ ?_);unfold om;rw[hl];by_cases m:i∈c.outs
    ·simp[m]
    ·simp[m]
   ·have e:=cY.1 e;rw[List.length_map] at e;unfold om;split
    ·rename_i l hl;rw[hl] at e;exact absurd rfl e
    ·rfl
   ·rintro b rfl
    cases hs:om c i with
    |none =>
     refine⟨fun q=>(by cases q),fun _=>hk2 _ ?_⟩;rw[sc];unfold CR;rw[hs,List.append_nil];exact hU
    |some l =>
     refine⟨fun _=>?_,fun q=>by cases q⟩;obtain⟨hl,_⟩:=rj hs;obtain⟨x,hx,hp⟩:=BS (c:=c) (n:=i) (l:=l) (by rw[hl];exact List.mem_singleton.2 rfl)
     have hE:kF c (i+1)=kF c i++[(⟨i,0,0⟩,⟨l.node,l.pin+1,0⟩),(⟨i,0,1⟩,⟨l.node,l.pin+1,1⟩)]:=by
      rw[sc];unfold CR;rw[hs]
     rw[hE] at hk2;refine bo (fun s=>s.2<=2/\EdgeI c (gO c c.nodes.length++kF c i++([(⟨i,0,0⟩,⟨l.node,l.pin+1,0⟩),(⟨i,0,1⟩,⟨l.node,l.pin+1,1⟩)]:List (Si×Si)).take s.2) s.1) (fun s=>2-s.2) ?_ ⟨Nat.zero_le _,by simpa using hU⟩;rintro⟨ps,v⟩ nx4 ⟨hv,hU⟩ hnx4;dsimp only at hv hU;refine⟨fun q4=>?_,fun q4=>hk2 _ ?_⟩
     ·have q4:v<=1:=rN.1 q4;have v1:VS c ⟨i,0,v⟩:=⟨q,Nat.zero_le _,q4⟩;have v2:VS c ⟨l.node,l.pin+1,v⟩:=⟨ag hx,by rw[ch hx];exact ag hp,q4⟩
      have hg:((fanOf c i).map Ln.toZ)[0]?=some l.toZ:=by rw[hl];rfl
      refine ud C v1 (by rfl) ⟨_,hg,_,hg,ud C v2 (by unfold Ln.toZ;simp only[Int.ofNat_eq_natCast];omega) (Cp hU v1 v2 fun qs hQ=>⟨by omega,hnx4 _ ⟨by dsimp only;omega,?_⟩ (by dsimp only;omega)⟩)⟩;dsimp only;rw[List.append_assoc] at hQ
      have hv:v=0\/v=1:=by omega
      rcases hv with rfl|rfl
      ·exact hQ
      ·exact hQ
     ·have q4:1<v:=wh.1 q4
      obtain rfl:v=2:=by omega
      rw[<- List.append_assoc];exact hU
  ·have q:c.nodes.length<=i:=hfl ▸ bk.1 q
   obtain rfl:i=c.nodes.length:=by omega
   exact hU
instance decVS (c:Circ) (s:Si):Decidable (VS c s):=decidable_of_iff (s.node<c.nodes.length/\s.pin<=(insOf c s.node).length/\s.v<=1) ⟨fun ⟨a,b,d⟩=>⟨a,b,d⟩,fun h=>⟨h.node,h.pin,h.v⟩⟩
def Ib (c:Circ) (n v:Nat):Option Rul:=(eqR (kd c n) (insOf c n).length).find? fun r=>r.pin==v
def Ef (c:Circ) (s:Si):Option Si :=
 if s.pin=0 then (om c s.node).map fun l=>⟨l.node,l.pin+1,s.v⟩ else (Ib c s.node s.v).map fun r=>⟨s.node,0,r.out⟩
def down (c:Circ) (s:Si):Option Si:=if VS c s then Ef c s else none
theorem zo {k n v:Nat}{r:Rul}:(eqR k n).find? (fun r=>r.pin==v)=some r↔r∈eqR k n/\r.pin=v:=by
 constructor
 ·intro h;exact⟨List.mem_of_find?_eq_some h,by simpa using List.find?_some h⟩
 ·rintro⟨m,rfl⟩;unfold eqR at m ⊢;split
  ·rename_i q;rw[if_pos q] at m;simp only[List.mem_cons,List.not_mem_nil,or_false] at m
   rcases m with rfl|rfl <;> rfl
  rename_i q;rw[if_neg q] at m;split
  ·rename_i q;rw[if_pos q] at m;simp only[List.mem_cons,List.not_mem_nil,or_false] at m
   rcases m with rfl|rfl <;> rfl
  rename_i q;rw[if_neg q] at m;split
  ·rename_i q;rw[if_pos q,List.mem_singleton] at m;subst m;rfl
  rename_i q;rw[if_neg q] at m;split
  ·rename_i q;rw[if_pos q,List.mem_singleton] at m;subst m;rfl
  rename_i q;rw[if_neg q] at m;split
  ·rename_i q;rw[if_pos q,List.mem_singleton] at m;subst m;rfl
  rename_i q;rw[if_neg q] at m;split
  ·rename_i q;rw[if_pos q,List.mem_singleton] at m;subst m;rfl
  rename_i q;rw[if_neg q] at m
  cases m
theorem kN {c:Circ}{n j v:Nat}{w:Si}:down c ⟨n,j+1,v⟩=some w↔n<c.nodes.length/\j<(insOf c n).length/\∃ r∈eqR (kd c n) (insOf c n).length,r.pin=v/\w=⟨n,0,r.out⟩:=by
 unfold down Ef Ib;by_cases V:VS c ⟨n,j+1,v⟩
 ·rw[if_pos V,if_neg (by simp)];constructor
  ·intro h;obtain⟨r,hr,rfl⟩:=Option.map_eq_some_iff.1 h;obtain⟨h1,h2⟩:=zo.1 hr;exact⟨V.node,V.pin,r,h1,h2,rfl⟩
  ·rintro⟨_,_,r,h1,h2,rfl⟩;exact Option.map_eq_some_iff.2 ⟨r,zo.2 ⟨h1,h2⟩,rfl⟩
 ·rw[if_neg V];constructor
  ·intro h;cases h
  ·rintro⟨h1,h2,r,h3,rfl,_⟩;exact absurd ⟨h1,h2,(tI h3).1⟩ V
theorem kQ {c:Circ}{n v:Nat}{w:Si}:down c ⟨n,0,v⟩=some w↔n<c.nodes.length/\v<=1/\∃ l,om c n=some l/\w=⟨l.node,l.pin+1,v⟩:=by
 unfold down Ef;by_cases V:VS c ⟨n,0,v⟩
 ·rw[if_pos V,if_pos rfl];constructor
  ·intro h;obtain⟨l,hl,rfl⟩:=Option.map_eq_some_iff.1 h;exact⟨V.node,V.v,l,hl,rfl⟩
  ·rintro⟨_,_,l,hl,rfl⟩;exact Option.map_eq_some_iff.2 ⟨l,hl,rfl⟩
 ·rw[if_neg V];constructor
  ·intro h;cases h
  ·rintro⟨h1,h2,_⟩;exact absurd ⟨h1,Nat.zero_le _,h2⟩ V
theorem tm {c:Circ}{n:Nat}{l:Ln} (h:om c n=some l):∃ x,c.nodes[l.node]?=some x/\x.ins[l.pin]?=some n :=
 BS (by rw[(rj h).1];exact List.mem_singleton.2 rfl)
theorem HN {c:Circ}{u w:Si} (h:down c u=some w):VS c u/\VS c w:=by
 have hu:VS c u:=by
  unfold down at h;split at h
  ·assumption
  ·cases h
 refine⟨hu,?_⟩;obtain⟨n,p,v⟩:=u
 cases p with
 |zero =>
  obtain⟨h1,h2,l,hl,rfl⟩:=kQ.1 h;obtain⟨x,hx,hp⟩:=tm hl;exact⟨ag hx,by rw[ch hx];exact ag hp,h2⟩
 |succ j =>
  obtain⟨h1,h2,r,hr,_,rfl⟩:=kN.1 h;exact⟨h1,Nat.zero_le _,(tI hr).2⟩
theorem DC {c:Circ}{u w:Si}:(u,w)∈edgesN c↔down c u=some w:=by
 unfold edgesN;rw[List.mem_append];constructor
 ·rintro (m|m)
  ·obtain⟨n,hn,m⟩:=List.mem_flatMap.1 m;obtain⟨r,hr,m⟩:=List.mem_flatMap.1 m;obtain⟨j,hj,e⟩:=List.mem_map.1 m;obtain⟨rfl,rfl⟩:=Prod.mk.inj e;exact kN.2 ⟨List.mem_range.1 hn,List.mem_range.1 hj,r,hr,rfl,rfl⟩
  ·obtain⟨n,hn,m⟩:=List.mem_flatMap.1 m;unfold CR at m;split at m
   ·rename_i l hl;simp only[List.mem_cons,List.not_mem_nil,or_false,Prod.mk.injEq] at m
    rcases m with⟨rfl,rfl⟩|⟨rfl,rfl⟩
    ·exact kQ.2 ⟨List.mem_range.1 hn,by decide,l,hl,rfl⟩
    ·exact kQ.2 ⟨List.mem_range.1 hn,by decide,l,hl,rfl⟩
   ·cases m
 ·intro h;obtain⟨n,p,v⟩:=u
  cases p with
  |zero =>
   obtain⟨h1,h2,l,hl,rfl⟩:=kQ.1 h;refine .inr (List.mem_flatMap.2 ⟨n,List.mem_range.2 h1,?_⟩);unfold CR;rw[hl]
   have:v=0\/v=1:=by omega
   rcases this with rfl|rfl <;> simp
  |succ j =>
   obtain⟨h1,h2,r,hr,rfl,rfl⟩:=kN.1 h;exact .inl (List.mem_flatMap.2 ⟨n,List.mem_range.2 h1,List.mem_flatMap.2 ⟨r,hr,List.mem_map.2 ⟨j,List.mem_range.2 h2,rfl⟩⟩⟩)
theorem rb {k n:Nat}{r:Rul} (h:r∈eqR k n):3<=k/\k<=13:=by
 unfold eqR at h;split at h
 ·omega
 split at h
 ·omega
 split at h
 ·omega
 split at h
 ·omega
 split at h
 ·omega
 split at h
 ·omega
 ·cases h
theorem AW {n:Nat} (h:Arity 0 n):n=0:=by
 obtain⟨h1,h2⟩:=h
 have e2:hiZ 0=0:=by decide
 rw[e2] at h2;have:(Int.ofNat n)=(n:Int):=rfl;omega
def lvl (c:Circ) (s:Si):Nat:=if s.pin=0 then 2*(16-s.node)+1 else if kd c s.node=14 then 0 else 2*(16-s.node)+2
theorem Ed (c:Circ) (s:Si):lvl c s<=34:=by
 unfold lvl;split
 ·omega
 ·split <;> omega
theorem Az {c:Circ} (C:Cir c) (u w:Si) (h:down c u=some w):lvl c w<lvl c u:=by
 have hlen:=C.len;obtain⟨n,p,v⟩:=u
 cases p with
 |zero =>
  obtain⟨h1,h2,l,hl,rfl⟩:=kQ.1 h;obtain⟨x,hx,hp⟩:=tm hl;unfold lvl;rw[if_pos rfl,if_neg (by simp)];dsimp only;split
  ·omega
  ·rename_i q;rw[ia hx] at q;have hk:=C.kinds _ _ hx;have g:=C.good.node _ _ hx
   have hk0:x.kind≠0:=fun e=>by
    have a:=g.arity;rw[e] at a;have:=AW a;have:=ag hp;omega
   have:=g.acyc (by omega) (by omega) n (List.mem_of_getElem? hp);have:=ag hx;omega
 |succ j =>
  obtain⟨h1,h2,r,hr,rfl,rfl⟩:=kN.1 h;have:=rb hr;unfold lvl;rw[if_pos rfl,if_neg (by simp),if_neg (by dsimp only;omega)];dsimp only;omega
def clsN (c:Circ) (s:Si):Si:=lh (down c) 34 s
theorem IL {c:Circ} (C:Cir c) {a b:Si}:Cn (fun u w=>(u,w)∈edgesN c) a b↔clsN c a=clsN c b:=by
 have:=IK (down:=down c) (Az C) (N:=34) (Ed c) (a:=a) (b:=b);unfold clsN;rw[<- this]
 have e:(fun u w=>(u,w)∈edgesN c)=fun u w=>down c u=some w:=by
  funext u w;exact propext DC
 rw[e]
theorem Bw {c:Circ}{a:Si} (h:down c a=none):clsN c a=a:=by
 unfold clsN;rw[lh,h]
theorem B6 {c:Circ}{P:Si->Si->Prop} (h0:∀ a,VS c a->P a a) (h1:∀ a b d,down c a=some b->P b d->P a d) {a:Si} (ha:VS c a):P a (clsN c a):=by
 have key:∀ n a,VS c a->P a (lh (down c) n a):=by
  intro n
  induction n with
  |zero=>intro a ha;exact h0 a ha
  |succ n ih =>
   intro a ha;rw[lh]
   cases e:down c a with
   |none=>exact h0 a ha
   |some b=>exact h1 a b _ e (ih b (HN e).2)
 exact key 34 a ha
def fltS (s:Si):Flt:=⟨0,⟨s.node,Int.ofNat s.pin-1⟩,s.v,0⟩
theorem BM (n j v:Nat):fltS ⟨n,j+1,v⟩=⟨0,⟨n,Int.ofNat j⟩,v,0⟩:=by
 unfold fltS
 have:Int.ofNat (j+1)-1=Int.ofNat j:=by simp only[Int.ofNat_eq_natCast];omega
 dsimp only;rw[this]
theorem AF {c:Circ}{s:Si} (h:VS c s):StuckOk c (fltS s):=by
 have:=h.pin;refine⟨rfl,h.v,rfl,h.node,?_,?_⟩
 ·unfold fltS;simp only[Int.ofNat_eq_natCast];omega
 ·unfold fltS;simp only[Int.ofNat_eq_natCast];omega
theorem sS {s t:Si} (h:fltS s=fltS t):s=t:=by
 obtain⟨n,p,v⟩:=s;obtain⟨n',p',v'⟩:=t;unfold fltS at h;simp only[Flt.mk.injEq,LnZ.mk.injEq,Int.ofNat_eq_natCast,and_true,true_and] at h;obtain⟨⟨rfl,h2⟩,rfl⟩:=h
 obtain rfl:p=p':=by omega
 rfl
theorem I4 {c:Circ}{f:Flt} (F:StuckOk c f):∃ s,VS c s/\f=fltS s:=by
 obtain⟨m,⟨n,p⟩,v,o⟩:=f;have h1:=F.model;have h2:=F.value;have h3:=F.other;have h4:=F.node;have h5:=F.pin1;have h6:=F.pin2;dsimp only at h1 h2 h3 h4 h5 h6;subst h1 h3;refine⟨⟨n,(p+1).toNat,v⟩,⟨h4,?_,h2⟩,?_⟩
 ·simp only[Int.ofNat_eq_natCast] at h6;dsimp only;omega
 ·unfold fltS;simp only[Flt.mk.injEq,LnZ.mk.injEq,Int.ofNat_eq_natCast,and_true,true_and];omega
theorem yc (n v:Nat):ntF (fltS ⟨n,0,v⟩)=nf n v:=rfl
theorem yj (n v:Nat):pnF (fltS ⟨n,0,v⟩)=idP:=rfl
theorem xU (n j v:Nat):ntF (fltS ⟨n,j+1,v⟩)=idN:=by
 rw[BM];unfold ntF;rw[if_neg];simp only[Int.ofNat_eq_natCast];omega
theorem pY (n j v:Nat):pnF (fltS ⟨n,j+1,v⟩)=lx n (Int.ofNat j) v:=by
 rw[BM];unfold pnF;rw[if_neg];simp only[Int.ofNat_eq_natCast];omega
theorem jH (n j v i q x:Nat):lx n (Int.ofNat j) v i q x=if i=n/\q=j then v else x:=by
 unfold lx;by_cases h:i=n/\q=j
 ·rw[if_pos h,if_pos ⟨h.1,by rw[h.2]⟩]
 ·rw[if_neg h,if_neg];rintro⟨h1,h2⟩;exact h ⟨h1,Int.ofNat.inj h2⟩
theorem gQ {low high:Nat}:∀ {l:List Nat}{o:Nat},low∈l->cV low high l o=low
 |a::l,o,h=>by
  rw[cV];split
  ·rfl
  ·rename_i q
   rcases List.mem_cons.1 h with e|e
   ·exact absurd e.symm q
   ·exact gQ e
theorem DU {k n j:Nat}{l:List Nat}{r:Rul} (ha:Arity k n) (hl:l.length=n) (hr:r∈eqR k n) (hj:l[j]?=some r.pin):jP k l=r.out:=by
 have hm:=List.mem_of_getElem? hj;unfold eqR at hr;split at hr
 ·rename_i q
  have h1:n=1:=by
   rcases q with rfl|q
   ·exact xc ha
   ·exact q.2
  obtain⟨a,rfl⟩:=List.length_eq_one_iff.1 (hl.trans h1);obtain rfl:r.pin=a:=List.mem_singleton.1 hm;simp only[List.mem_cons,List.not_mem_nil,or_false] at hr
  rcases q with rfl|⟨rfl,_⟩
  ·rcases hr with rfl|rfl <;> decide
  ·rcases hr with rfl|rfl <;> decide
 split at hr
 ·rename_i q;subst q;obtain⟨a,rfl⟩:=List.length_eq_one_iff.1 (hl.trans (wC ha));obtain rfl:r.pin=a:=List.mem_singleton.1 hm;simp only[List.mem_cons,List.not_mem_nil,or_false] at hr
  rcases hr with rfl|rfl <;> decide
 split at hr
 ·rename_i q;subst q;rw[List.mem_singleton] at hr;subst hr
  show cV 0 1 l 1=0
  exact gQ hm
 split at hr
 ·rename_i q;subst q;rw[List.mem_singleton] at hr;subst hr
  show lu (cV 0 1 l 1)=1
  rw[gQ hm];rfl
 split at hr
 ·rename_i q;subst q;rw[List.mem_singleton] at hr;subst hr
  show cV 1 0 l 0=1
  exact gQ hm
 split at hr
 ·rename_i q;subst q;rw[List.mem_singleton] at hr;subst hr
  show lu (cV 1 0 l 0)=0
  rw[gQ hm];rfl
 ·cases hr
theorem C6 {k n:Nat}{r:Rul} (h:r∈eqR k n):combB k=true:=by
 have:=rb h;unfold combB;exact decide_eq_true (by omega)
theorem zp {c:Circ}{s:Nat} (h:s∈ofN c [14]):kd c s=14:=(gI.1 h).2
theorem GO {c:Circ} (C:Cir c) {p:Pat} (hp:PatOk c p) {n j v:Nat}{w:Si} (h:down c ⟨n,j+1,v⟩=some w):fb c p (fltS ⟨n,j+1,v⟩)=fb c p (fltS w):=by
 obtain⟨h1,h2,r,hr,rfl,rfl⟩:=kN.1 h;obtain⟨x,hx⟩:=av h1;rw[ia hx,ch hx] at hr;rw[ch hx] at h2;have hle:=tI hr;have hv1:∀ i v,v<=3->nf n r.out i v<=3:=sQ (by omega);have T:=oG C hp qI (sK (a:=n) (w:=r.pin) (pin:=Int.ofNat j) (by omega))
 have hS:Sol c p (nf n r.out) idP (sol c p idN (lx n (Int.ofNat j) r.pin)):=by
  refine⟨T.len,fun i y hy=>?_,T.le⟩;rw[T.val i y hy];by_cases q:i=n
  ·subst q;rw[hx] at hy;cases hy
   show baseV _ _ _ _ _ _=nf _ _ _ _
   unfold nf;rw[if_pos rfl,lr (C6 hr)];refine DU (C.good.node _ _ hx).arity wD hr (j:=j) ?_;obtain⟨m,hm⟩:=av h2;rw[xb hm,jH,if_pos ⟨rfl,rfl⟩]
  ·show baseV _ _ _ _ _ _=nf _ _ _ _
   unfold nf;rw[if_neg q]
   have:dS (lx n (Int.ofNat j) r.pin) (sol c p idN (lx n (Int.ofNat j) r.pin)) i y=dS idP (sol c p idN (lx n (Int.ofNat j) r.pin)) i y:=by
    unfold dS;congr 1;funext q2 k;rw[jH,if_neg (fun e=>q e.1)];rfl
   unfold baseV;rw[this]
 have e:=hS.is C hp hv1 rf;unfold fb vI;rw[xU,pY,yc,yj,<- e];congr 1;unfold Aj;congr 1;refine List.map_congr_left fun s hs=>?_;rw[jH,if_neg]
 ·rfl
 ·rintro⟨rfl,_⟩;have:=zp hs;rw[ia hx] at this;have:=rb hr;omega
theorem HJ {c:Circ}{n i q:Nat}{x:Node} (hx:c.nodes[i]?=some x) (hq:x.ins[q]?=some n):(⟨i,q⟩:Ln)∈fanOf c n:=by
 unfold fanOf;refine List.mem_flatMap.2 ⟨(x,i),List.mem_zipIdx_iff_getElem?.2 hx,?_⟩;unfold bD;exact List.mem_map.2 ⟨(n,q),List.mem_filter.2 ⟨List.mem_zipIdx_iff_getElem?.2 hq,by simp⟩,rfl⟩
theorem getD_set_ne {t:List Nat}{n i v:Nat} (h:i≠n):(t.set n v).getD i 0=t.getD i 0:=by
 rw[List.getD,List.getD,List.getElem?_set_ne (fun e=>h e.symm)]
theorem kA {t:List Nat}{n v:Nat} (h:n<t.length):(t.set n v).getD n 0=v:=by
 rw[List.getD,List.getElem?_set_self h];rfl
theorem E9 {c:Circ} (C:Cir c) {s:Nat} (hs:s∈ofN c [14]):∃ x,c.nodes[s]?=some x/\x.kind=14/\dOf c s<c.nodes.length/\x.ins[0]?=some (dOf c s):=by
 obtain⟨h1,h2⟩:=gI.1 hs;obtain⟨x,hx⟩:=av h1;rw[ia hx] at h2
 have ha:x.ins.length=1:=by have:=(C.good.node s x hx).arity;rw[h2] at this;exact vZ this
 have hg:x.ins[0]?=some (dOf c s):=by
  unfold dOf;rw[ch hx];exact getD_some (by omega)
 exact⟨x,hx,h2,(C.good.node s x hx).ins _ (List.mem_of_getElem? hg),hg⟩
theorem Hi {c:Circ} (C:Cir c) {p:Pat} (hp:PatOk c p) {n v:Nat}{w:Si} (h:down c ⟨n,0,v⟩=some w):fb c p (fltS ⟨n,0,v⟩)=fb c p (fltS w):=by
 obtain⟨h1,h2,⟨k,j⟩,hl,rfl⟩:=kQ.1 h;obtain⟨hf,ho⟩:=rj hl;obtain⟨x,hx,hj⟩:=tm hl;dsimp only at hx hj ⊢;have T:=oG C hp qI (sK (a:=k) (w:=v) (pin:=Int.ofNat j) (by omega));obtain⟨t,ht⟩:∃ t,sol c p idN (lx k (Int.ofNat j) v)=t:=⟨_,rfl⟩
 have hone:∀ i q (y:Node),c.nodes[i]?=some y->y.ins[q]?=some n->i=k/\q=j:=by
  intro i q y hy hq;have:=HJ hy hq;rw[hf,List.mem_singleton] at this
  cases this;exact⟨rfl,rfl⟩
 rw[ht] at T
 have hn:n<t.length:=by rw[T.len];exact h1
 have hrd:∀ i (y:Node),c.nodes[i]?=some y->dS idP (t.set n v) i y=dS (lx k (Int.ofNat j) v) t i y:=by
  intro i y hy;unfold dS;apply List.ext_getElem?;intro q;rw[List.getElem?_mapIdx,List.getElem?_mapIdx]
  cases hq:y.ins[q]? with
  |none=>rfl
  |some m =>
   simp only[Option.map_some];rw[jH]
   show some ((t.set n v).getD m 0)=_
   by_cases e:m=n
   ·subst e;rw[if_pos (hone i q y hy hq),kA hn]
   ·rw[getD_set_ne e,if_neg];rintro⟨rfl,rfl⟩;rw[hx] at hy;cases hy;rw[hj] at hq;cases hq;exact e rfl
 have hS:Sol c p (nf n v) idP (t.set n v):=by
  refine⟨(List.length_set ..).trans T.len,fun i y hy=>?_,fun i=>?_⟩
  ·unfold nf;by_cases q:i=n
   ·subst q;rw[if_pos rfl,kA hn]
   ·rw[if_neg q,getD_set_ne q,T.val i y hy]
    show baseV _ _ _ _ _ _=_
    unfold baseV;rw[hrd i y hy]
  ·by_cases q:i=n
   ·subst q;rw[kA hn];omega
   ·rw[getD_set_ne q];exact T.le i
 have e:=hS.is C hp (sQ (by omega)) rf;unfold fb vI;rw[xU,pY,yc,yj,<- e,ht];congr 1;unfold Aj;congr 1
 ·refine List.map_congr_left fun o hm=>?_;rw[getD_set_ne];rintro rfl;exact ho hm
 ·refine List.map_congr_left fun s hs=>?_;obtain⟨y,hy,hk,_,hd⟩:=E9 C hs;rw[jH];have ed:(insOf c s).getD 0 0=dOf c s:=rfl;rw[ed]
  show min ((t.set n v).getD (dOf c s) 0) 2=_
  by_cases q:dOf c s=n
  ·rw[q] at hd ⊢;rw[if_pos (hone s 0 y hy hd),kA hn]
  ·rw[getD_set_ne q,if_neg];rintro⟨rfl,rfl⟩;rw[hx] at hy;cases hy;rw[hj] at hd;cases hd;exact q rfl
theorem D7 {c:Circ} (C:Cir c) {p:Pat} (hp:PatOk c p) {u w:Si} (h:down c u=some w):fb c p (fltS u)=fb c p (fltS w):=by
 obtain⟨n,q,v⟩:=u
 cases q with
 |zero=>exact Hi C hp h
 |succ j=>exact GO C hp h
theorem Cb {c:Circ} (C:Cir c) {p:Pat} (hp:PatOk c p) {a:Si} (ha:VS c a):fb c p (fltS a)=fb c p (fltS (clsN c a)) :=
 B6 (P:=fun a d=>fb c p (fltS a)=fb c p (fltS d)) (fun _ _=>rfl) (fun _ _ _ h e=>(D7 C hp h).trans e) ha
theorem Ex {c:Circ} (C:Cir c) {p:Pat} (hp:PatOk c p) {a b:Si} (ha:VS c a) (hb:VS c b) (h:clsN c a=clsN c b):fb c p (fltS a)=fb c p (fltS b):=by
 rw[Cb C hp ha,Cb C hp hb,h]
def IN (f:Flt):Si:=⟨f.line.node,(f.line.pin+1).toNat,f.value⟩
theorem EB (s:Si):IN (fltS s)=s:=by
 obtain⟨n,p,v⟩:=s;unfold IN fltS
 have:(Int.ofNat p-1+1).toNat=p:=by simp only[Int.ofNat_eq_natCast];omega
 dsimp only;rw[this]
def dX (c:Circ) (f:Flt):Flt:=if f.model=0 then fltS (clsN c (IN f)) else f
theorem ka (c:Circ) (s:Si):dX c (fltS s)=fltS (clsN c s):=by
 unfold dX;rw[if_pos (by rfl),EB]
theorem AI {c:Circ}{f:Flt} (h:f.model≠0):dX c f=f:=if_neg h
def nr (c:Circ) (acc:List Flt) (f:Flt):List Flt:=if dX c f∈acc then acc else acc++[dX c f]
def ksF (c:Circ) (l:List Flt):List Flt:=l.foldl (nr c) []
theorem jc (c:Circ) (l:List Flt) (f:Flt):ksF c (l++[f])=nr c (ksF c l) f:=by unfold ksF;rw[List.foldl_append];rfl
theorem nC {α:Type}{P:List α->Prop} (h0:P []) (h1:∀ p x,P p->P (p++[x])) (l:List α):P l:=by
 have key:∀ n (l:List α),l.length=n->P l:=by
  intro n
  induction n with
  |zero=>intro l h;rw[List.length_eq_zero_iff.1 h];exact h0
  |succ n ih =>
   intro l h
   rcases List.eq_nil_or_concat l with rfl|⟨p,x,rfl⟩
   ·exact h0
   ·rw[List.concat_eq_append] at h ⊢;refine h1 p x (ih p ?_);rw[List.length_append,List.length_singleton] at h;omega
 exact key _ l rfl
theorem iG {c:Circ}{l:List Flt}{k:Flt}:k∈ksF c l ↔ ∃ f∈l,dX c f=k:=by
 refine nC (P:=fun l=>k∈ksF c l ↔ ∃ f∈l,dX c f=k) ?_ ?_ l
 ·unfold ksF;simp
 ·intro p x ih;rw[jc];unfold nr;split
  ·rename_i h;rw[ih];constructor
   ·rintro⟨f,m,e⟩;exact⟨f,List.mem_append_left _ m,e⟩
   ·rintro⟨f,m,e⟩
    rcases bj.1 m with m|rfl
    ·exact⟨f,m,e⟩
    ·rw[e] at h;exact ih.1 h
  ·rw[bj,ih];constructor
   ·rintro (⟨f,m,e⟩|rfl)
    ·exact⟨f,List.mem_append_left _ m,e⟩
    ·exact⟨x,bj.2 (.inr rfl),rfl⟩
   ·rintro⟨f,m,e⟩
    rcases bj.1 m with m|rfl
    ·exact .inl ⟨f,m,e⟩
    ·exact .inr e.symm
theorem vM (c:Circ) (l:List Flt):(ksF c l).Nodup:=by
 refine nC (P:=fun l=>(ksF c l).Nodup) List.nodup_nil ?_ l;intro p x ih;rw[jc];unfold nr;split
 ·exact ih
 ·rename_i h;refine List.nodup_append.2 ⟨ih,by simp,?_⟩;intro a ha b hb;rw[List.mem_singleton] at hb;rintro rfl;subst hb;exact h ha
theorem sH (c:Circ) (l:List Flt):(ksF c l).length<=l.length:=by
 refine nC (P:=fun l=>(ksF c l).length<=l.length) (Nat.le_refl _) ?_ l;intro p x ih;rw[jc,List.length_append,List.length_singleton];unfold nr;split
 ·omega
 ·rw[List.length_append,List.length_singleton];omega
def dn (c:Circ) (l:List Flt) (f:Flt):Nat:=(ksF c l).idxOf (dX c f)
def osN (c:Circ) (l:List Flt):List Nat:=l.map (dn c l)
def mn (c:Circ) (l:List Flt) (k:Flt):List Nat:=(List.range l.length).filter fun m=>decide ((l[m]?).map (dX c)=some k)
def RN (c:Circ) (l:List Flt):List (List Nat):=(ksF c l).map (mn c l)
theorem xQ (c:Circ) (l:List Flt):(RN c l).length=(ksF c l).length:=List.length_map ..
theorem nH (c:Circ) (p:List Flt) (x k:Flt):mn c (p++[x]) k=mn c p k++if dX c x=k then [p.length] else []:=by
 unfold mn;rw[List.length_append,List.length_singleton,List.range_succ,List.filter_append];congr 1
 ·refine List.filter_congr fun m hm=>?_;rw[List.getElem?_append_left (List.mem_range.1 hm)]
 ·have e:(p++[x])[p.length]?=some x:=by simp
  by_cases h:dX c x=k
  ·rw[if_pos h];simp[h]
  ·rw[if_neg h];simp[h]
theorem CV {c:Circ}{p:List Flt}{k:Flt} (h:k ∉ ksF c p):mn c p k=[]:=by
 unfold mn;rw[List.filter_eq_nil_iff];intro m _ q;rw[decide_eq_true_eq] at q;obtain⟨f,hf,e⟩:=Option.map_eq_some_iff.1 q;exact h (iG.2 ⟨f,List.mem_of_getElem? hf,e⟩)
theorem uR {c:Circ}{l:List Flt}{k:Flt}{m:Nat}:m∈mn c l k ↔ ∃ f,l[m]?=some f/\dX c f=k:=by
 unfold mn;rw[List.mem_filter,List.mem_range,decide_eq_true_eq,Option.map_eq_some_iff];constructor
 ·rintro⟨_,f,h⟩;exact⟨f,h⟩
 ·rintro⟨f,h⟩;exact⟨ag h.1,f,h⟩
theorem Ft (c:Circ) (l:List Flt) (k:Flt):(mn c l k).length<=l.length:=by
 unfold mn;exact Nat.le_trans (List.length_filter_le _ _) (by rw[List.length_range];exact Nat.le_refl _)
theorem kx {l:List Flt}{k:Flt} (h:k∈l):l[l.idxOf k]?=some k:=by
 rw[List.getElem?_eq_getElem (List.idxOf_lt_length_iff.2 h),List.getElem_idxOf]
theorem Gs {l:List Flt} (nd:l.Nodup) {j:Nat}{k:Flt} (h:l[j]?=some k):l.idxOf k=j:=by
 obtain⟨h1,rfl⟩:=List.getElem?_eq_some_iff.1 h;have h3:=List.idxOf_lt_length_iff.2 (List.getElem_mem h1);have h4:l[l.idxOf l[j]]=l[j]:=List.getElem_idxOf h3
 rcases Nat.lt_trichotomy (l.idxOf l[j]) j with q|q|q
 ·exact absurd h4 (List.pairwise_iff_getElem.1 nd _ _ h3 h1 q)
 ·exact q
 ·exact absurd h4.symm (List.pairwise_iff_getElem.1 nd _ _ h1 h3 q)
def ixO (ks:List Flt) (k:Flt):Option Nat:=if k∈ks then some (ks.idxOf k) else none
theorem Cx {ks:List Flt}{k:Flt} (h:k ∉ ks):ixO (ks++[k]) k=some ks.length:=by
 unfold ixO;rw[if_pos (bj.2 (.inr rfl)),List.idxOf_append,if_neg h];simp
theorem sT {ks:List Flt}{k k':Flt} (h:k'≠k):ixO (ks++[k]) k'=ixO ks k':=by
 unfold ixO;by_cases m:k'∈ks
 ·rw[if_pos (bj.2 (.inl m)),if_pos m,List.idxOf_append,if_pos m]
 ·rw[if_neg (fun q=>(bj.1 q).elim m h),if_neg m]
theorem pL {ks:List Flt}{k:Flt} (h:k∈ks):ixO ks k=some (ks.idxOf k):=if_pos h
theorem zx {ks:List Flt}{k:Flt} (h:k ∉ ks):ixO ks k=none:=if_neg h
theorem lP {c:Circ}{p:List Flt}{x f:Flt} (hf:f∈p++[x]):dn c (p++[x]) f=if dX c f∈ksF c p then (ksF c p).idxOf (dX c f) else (ksF c p).length:=by
 unfold dn;rw[jc];unfold nr;by_cases h:dX c f∈ksF c p
 ·rw[if_pos h];split
  ·rfl
  ·rw[List.idxOf_append,if_pos h]
 ·rw[if_neg h]
  have e:dX c f=dX c x:=by
   rcases bj.1 hf with m|rfl
   ·exact absurd (iG.2 ⟨f,m,rfl⟩) h
   ·rfl
  rw[e] at h ⊢;rw[if_neg h,List.idxOf_append,if_neg h];simp
theorem Fb (c:Circ) (p:List Flt) (x:Flt):osN c (p++[x])=osN c p++[dn c (p++[x]) x]:=by
 unfold osN;rw[List.map_append];congr 1;refine List.map_congr_left fun f hf=>?_;rw[lP (List.mem_append_left _ hf),if_pos (iG.2 ⟨f,hf,rfl⟩)];rfl
theorem It {c:Circ}{p:List Flt}{x:Flt} (h:dX c x∈ksF c p):RN c (p++[x])=(RN c p).set ((ksF c p).idxOf (dX c x)) (mn c p (dX c x)++[p.length]):=by
 unfold RN;rw[jc];unfold nr;rw[if_pos h];apply List.ext_getElem?;intro j;rw[List.getElem?_map,List.getElem?_set,List.length_map];by_cases e:(ksF c p).idxOf (dX c x)=j
 ·subst e;rw[if_pos rfl,if_pos (List.idxOf_lt_length_iff.2 h),kx h];simp only[Option.map_some];rw[nH,if_pos rfl]
 ·rw[if_neg e,List.getElem?_map]
  cases hj:(ksF c p)[j]? with
  |none=>rfl
  |some k =>
   simp only[Option.map_some];rw[nH,if_neg,List.append_nil];rintro rfl;exact e (Gs (vM c p) hj)
theorem I1 {c:Circ}{p:List Flt}{x:Flt} (h:dX c x ∉ ksF c p):RN c (p++[x])=RN c p++[[p.length]]:=by
 unfold RN;rw[jc];unfold nr;rw[if_neg h,List.map_append];congr 1
 ·refine List.map_congr_left fun k hk=>?_;rw[nH,if_neg,List.append_nil];rintro rfl;exact h hk
 ·rw[List.map_cons,List.map_nil,nH,if_pos rfl,CV h];rfl
def CsOk (c:Circ) (ks:List Flt) (ps:List Nat) (cs:List (Nat×Nat)):Prop:=∀ s,VS c s->∀ r,Rt ps (jv c s) r->cv cs r=ixO ks (fltS (clsN c s))
def JQ (ks:List Flt) (ot:List (Flt×Nat)):Prop:=∀ f:Flt,f.model≠0->cv ot f=ixO ks f
theorem CsOk.same {c:Circ}{ks:List Flt}{ps qs:List Nat}{cs:List (Nat×Nat)} (F:Fo ps) (h:CsOk c ks ps cs) (g:SameR ps qs):CsOk c ks qs cs:=fun s hs r hr=>h s hs r (g.back F hr)
theorem yN {c:Circ} (C:Cir c) {ps:List Nat} (U:EdgeI c (edgesN c) ps) {a b:Si} (ha:VS c a) (hb:VS c b) {r s:Nat} (h1:Rt ps (jv c a) r) (h2:Rt ps (jv c b) s):r=s↔clsN c a=clsN c b :=
 (U.cn a b r s ha hb h1 h2).trans (IL C)
theorem CsOk.new {c:Circ} (C:Cir c) {ks:List Flt}{ps:List Nat}{cs:List (Nat×Nat)} (U:EdgeI c (edgesN c) ps) (h:CsOk c ks ps cs) {a:Si} (ha:VS c a) {r:Nat} (hr:Rt ps (jv c a) r) (hn:fltS (clsN c a) ∉ ks) :
  CsOk c (ks++[fltS (clsN c a)]) ps (kh cs r ks.length):=by
 intro s hs r' hr';rw[zw];by_cases e:r'=r
 ·rw[if_pos e,(yN C U hs ha hr' hr).1 e,Cx hn]
 ·rw[if_neg e,sT,h s hs r' hr'];intro q;exact e ((yN C U hs ha hr' hr).2 (sS q))
structure PartO (c:Circ) (l:List Flt) (ps:List Nat) (cs:List (Nat×Nat)):Prop where
 edge:EdgeI c (edgesN c) ps
 cs:CsOk c (ksF c l) ps cs
theorem pz {c:Circ} (C:Cir c) {l:List Flt} (hl:l.length<=65536) (hs:∀ f∈l,f.model=0->StuckOk c f) {K:List Nat×List Nat×Nat×List (List Nat)×List Nat×List (Nat×Nat)->Prop}
  (h:∀ ps cs,PartO c l ps cs->K (fsN c,ps,npN c,RN c l,osN c l,cs)):bE c l K:=by
 unfold bE;refine De C fun ps0 U0=>?_;refine aA (fun (s:J2)=>s.2.2.2.2.2<=l.length/\EdgeI c (edgesN c) s.1/\s.2.1=RN c (l.take s.2.2.2.2.2)/\s.2.2.1=osN c (l.take s.2.2.2.2.2)/\CsOk c (ksF c (l.take s.2.2.2.2.2)) s.1 s.2.2.2.1/\JQ (ksF c (l.take s.2.2.2.2.2)) s.2.2.2.2.1)
  (fun s=>l.length-s.2.2.2.2.2) (fun s=>∃ ps cs,PartO c l ps cs/\s=(ps,RN c l,osN c l,cs)) ?_ ⟨Nat.zero_le _,U0,rfl,rfl,(fun s _ r _=>rfl),fun f _=>rfl⟩ ?_
 ·rintro k ⟨ps,R,os,cs,ot,i⟩ nx ⟨hi,U,hR,hos,hcs,hot⟩ hnx hk;dsimp only at hi U hR hos hcs hot;refine⟨fun q=>?_,fun q=>hk _ ?_⟩
  ·have q:i<l.length:=aO.1 q;obtain⟨f,hf⟩:=av q
   have hp1:(l.take i).length=i:=by rw[List.length_take];omega
   have htk:l.take (i+1)=l.take i++[f]:=eU hf
   have hks:(ksF c (l.take i)).length=R.length:=by rw[hR,xQ]
   have hRl:R.length<=i:=by rw[<- hks];exact Nat.le_trans (sH _ _) (Nat.le_of_eq hp1)
   refine⟨f,hf,?_⟩;refine dG (fun s=>EdgeI c (edgesN c) s.1/\CsOk c (ksF c (l.take (i+1))) s.1 s.2.1/\JQ (ksF c (l.take (i+1))) s.2.2.1/\s.2.2.2.2=decide (dX c f∈ksF c (l.take i))/\(dX c f∈ksF c (l.take i)->s.2.2.2.1=(ksF c (l.take i)).idxOf (dX c f))) ?_ ?_
   ·intro k2 hk2
    have old:dX c f∈ksF c (l.take i)->ksF c (l.take (i+1))=ksF c (l.take i):=fun m=>by
     rw[htk,jc];exact if_pos m
    have new:dX c f ∉ ksF c (l.take i)->ksF c (l.take (i+1))=ksF c (l.take i)++[dX c f]:=fun m=>by
     rw[htk,jc];exact if_neg m
    refine⟨fun qm=>?_,fun qm=>?_⟩
    ·have qm:f.model=0:=dA.1 qm;obtain⟨s,hv,rfl⟩:=I4 (hs f (List.mem_of_getElem? hf) qm);obtain⟨r,hr⟩:=U.fo (jv c s) (U.len ▸ lH hv);rw[ka] at old new hk2;refine ud C hv (s:=s) (by unfold fltS;simp only[Int.ofNat_eq_natCast];omega) (pK U.len hr fun qs hq=>?_);dsimp only;have Uq:=U.same hq;have hcq:=hcs.same U.fo hq;have hget:=hcs s hv r hr;have hrq:=hq.rt _ _ hr;by_cases m:fltS (clsN c s)∈ksF c (l.take i)
     ·rw[hget,pL m];refine⟨(fun e=>by cases e),fun _=>hk2 _ ⟨Uq,by rw[old m];exact hcq,by rw[old m];exact hot,(decide_eq_true m).symm,fun _=>rfl⟩⟩
     ·rw[hget,zx m];refine⟨fun _=>hk2 _ ⟨Uq,?_,?_,(decide_eq_false m).symm,fun q=>absurd q m⟩,(fun e=>by cases e)⟩
      ·rw[new m,<- hks];exact hcq.new C Uq hv hrq m
      ·rw[new m];intro f' hf';rw[sT]
       ·exact hot f' hf'
       ·rintro rfl;exact hf' rfl
    ·have qm:f.model≠0:=cY.1 qm;rw[AI qm] at old new hk2;have hget:=hot f qm;by_cases m:f∈ksF c (l.take i)
     ·rw[hget,pL m];refine⟨(fun e=>by cases e),fun _=>hk2 _ ⟨U,by rw[old m];exact hcs,by rw[old m];exact hot,(decide_eq_true m).symm,fun _=>rfl⟩⟩
     ·rw[hget,zx m];refine⟨fun _=>hk2 _ ⟨U,?_,?_,(decide_eq_false m).symm,fun q=>absurd q m⟩,(fun e=>by cases e)⟩
      ·rw[new m];intro s hs r hr;rw[sT]
       ·exact hcs s hs r hr
       ·intro e;exact qm (by rw[<- e];rfl)
      ·rw[new m,<- hks];intro f' hf';rw[zw];by_cases e:f'=f
       ·rw[if_pos e,e,Cx m]
       ·rw[if_neg e,sT e];exact hot f' hf'
   ·rintro⟨ps2,cs2,ot2,at2,is2⟩ ⟨U2,hcs2,hot2,his,hat⟩;dsimp only at U2 hcs2 hot2 his hat;subst his;refine dG (fun s=>s.2=dn c (l.take (i+1)) f/\s.1=if dX c f∈ksF c (l.take i) then R else R++[[]]) ?_ ?_
    ·intro k3 hk3;by_cases m:dX c f∈ksF c (l.take i)
     ·rw[decide_eq_true m];refine⟨(fun e=>by cases e),fun _=>hk3 _ ⟨?_,(if_pos m).symm⟩⟩;rw[htk,lP (bj.2 (.inr rfl)),if_pos m];exact hat m
     ·rw[decide_eq_false m];refine⟨fun _=>⟨by omega,hk3 _ ⟨?_,(if_neg m).symm⟩⟩,(fun e=>by cases e)⟩;rw[htk,lP (bj.2 (.inr rfl)),if_neg m];exact hks.symm
    ·rintro⟨R3,at3⟩ ⟨rfl,hR3⟩;dsimp only at hR3
     have hosl:os.length=i:=by rw[hos];unfold osN;rw[List.length_map,hp1]
     have key:∃ r,R3[dn c (l.take (i+1)) f]?=some r/\r.length<=i/\R3.set (dn c (l.take (i+1)) f) (r++[i])=RN c (l.take (i+1)):=by
      rw[htk,lP (bj.2 (.inr rfl))];by_cases m:dX c f∈ksF c (l.take i)
      ·rw[if_pos m] at hR3 ⊢;subst hR3;refine⟨mn c (l.take i) (dX c f),?_,Nat.le_trans (Ft _ _ _) (Nat.le_of_eq hp1),?_⟩
       ·rw[hR];unfold RN;rw[List.getElem?_map,kx m];rfl
       ·rw[It m,hp1,hR]
      ·rw[if_neg m] at hR3 ⊢;rw[hks];subst hR3;refine⟨[],by simp,Nat.zero_le _,?_⟩;rw[I1 m,hp1,<- hR];simp
     obtain⟨r,hr1,hr2,hr3⟩:=key;refine⟨r,hr1,by omega,by omega,by omega,hnx _ ⟨q,U2,hr3,?_,hcs2,hot2⟩ (by dsimp only;omega)⟩;dsimp only;rw[htk,Fb,<- hos]
  ·have q:l.length<=i:=bk.1 q
   obtain rfl:i=l.length:=by omega
   rw[List.take_length] at hR hos hcs;exact⟨ps,cs,⟨U,hcs⟩,by rw[hR,hos]⟩
 ·rintro _ ⟨ps,cs,hP,rfl⟩;refine⟨fun r hr=>?_,?_,h ps cs hP⟩
  ·obtain⟨k,hk,rfl⟩:=List.mem_map.1 hr;obtain⟨f,hf,e⟩:=iG.1 hk;obtain⟨j,hj⟩:=List.mem_iff_getElem?.1 hf;intro q;have:j∈mn c l k:=uR.2 ⟨f,hj,e⟩;rw[q] at this
   cases this
  ·rw[xQ];have:=sH c l;omega
theorem vT {c:Circ} (C:Cir c) {l:List Flt} (hl:l.length<=65536) (hs:∀ f∈l,∀ K:Nat->Prop,K 0->faults_Check_wp c f K) {K:Nat->Prop} (h:K 0):cq c l K:=by
 unfold cq;refine⟨fun q=>?_,fun _=>tT C ⟨(fun q=>absurd rfl (fx.1 q)),fun _=>?_⟩⟩
 ·have:=aO.1 q;omega
 ·refine fT (l:=l) ?_ ?_ h
  ·intro k i nx x hx hi hn;refine⟨fun _=>⟨x,hx,hs x (List.mem_of_getElem? hx) _ ⟨(fun q=>absurd rfl (fx.1 q)),fun _=>⟨by omega,hn⟩⟩⟩,fun q=>?_⟩;have:=bk.1 q;omega
  ·intro k i nx hi hk;refine⟨fun q=>?_,fun _=>hk⟩;have:=aO.1 q;omega
def n2Lt (x y:N2):Prop:=x.a<y.a\/x.a=y.a/\x.b<y.b
theorem JZ {x y:N2} (h:x≠y):x.a≠y.a\/x.b≠y.b:=by
 by_cases h1:x.a=y.a
 ·right;intro h2;obtain⟨a,b⟩:=x;obtain⟨a',b'⟩:=y;dsimp only at h1 h2;exact h (by rw[h1,h2])
 ·exact .inl h1
theorem zK {l:List N2} (h:l.Pairwise AM):(fh l).Pairwise n2Lt/\∀ x,x∈fh l↔x∈l:=by
 revert h;refine nC (P:=fun l=>l.Pairwise AM->(fh l).Pairwise n2Lt/\∀ x,x∈fh l↔x∈l) ?_ ?_ l
 ·intro _;exact⟨List.Pairwise.nil,fun x=>Iff.rfl⟩
 ·intro p x ih h;obtain⟨h1,_,h3⟩:=List.pairwise_append.1 h;obtain⟨i1,i2⟩:=ih h1;have hle:∀ y∈fh p,AM y x:=fun y m=>h3 y ((i2 y).1 m) x (List.mem_singleton.2 rfl);rw[qD];unfold jC;split
  ·rename_i e;refine⟨i1,fun y=>?_⟩;rw[i2,bj];constructor
   ·exact .inl
   ·rintro (m|rfl)
    ·exact m
    ·exact (i2 y).1 (List.mem_of_getLast? e)
  ·rename_i e;refine⟨List.pairwise_append.2 ⟨i1,List.pairwise_singleton _ _,fun y hy z hz=>?_⟩,fun y=>by rw[bj,bj,i2]⟩;rw[List.mem_singleton] at hz;subst hz
   rcases List.eq_nil_or_concat (fh p) with q|⟨q,w,hq⟩
   ·rw[q] at hy;cases hy
   ·rw[List.concat_eq_append] at hq
    have hw:w≠z:=by
     rintro rfl;rw[hq,List.getLast?_concat] at e;exact e rfl
    have hwz:=ET.1 (hle w (by rw[hq];exact bj.2 (.inr rfl)));have hne:=JZ hw;rw[hq] at hy i1
    rcases bj.1 hy with m|rfl
    ·have:n2Lt y w:=(List.pairwise_append.1 i1).2.2 y m w (List.mem_singleton.2 rfl);unfold n2Lt at this ⊢;omega
    ·unfold n2Lt;omega
def steerR (k:Nat):Option Rul:=if k=5 then some ⟨0,0⟩ else if k=6 then some ⟨0,1⟩ else if k=7 then some ⟨1,1⟩ else if k=8 then some ⟨1,0⟩ else none
theorem uI {k:Nat}{r:Rul} (h:steerR k=some r):r.pin<=1/\r.out<=1:=by
 unfold steerR at h;split at h
 ·cases h;decide
 split at h
 ·cases h;decide
 split at h
 ·cases h;decide
 split at h
 ·cases h;decide
 ·cases h
theorem yg {k:Nat}{K:Rul×Bool->Prop} (h1:∀ r,steerR k=some r->K (r,true)) (h2:steerR k=none->K (⟨0,0⟩,false)):bw k K:=by
 refine sa (fun q=>h1 _ ?_) (fun q=>h1 _ ?_) (fun q=>h1 _ ?_) (fun q=>h1 _ ?_) fun q5 q6 q7 q8=>h2 ?_
 ·subst q;rfl
 ·subst q;rfl
 ·subst q;rfl
 ·subst q;rfl
 ·unfold steerR;rw[if_neg q5,if_neg q6,if_neg q7,if_neg q8]
def domPin (n j:Nat) (r:Rul):Si:=⟨n,j+1,1-r.pin⟩
def domOut (n:Nat) (r:Rul):Si:=⟨n,0,1-r.out⟩
def mP (c:Circ) (ks:List Flt) (n b:Nat) (r:Rul) (j:Nat):List N2:=match ixO ks (fltS (clsN c (domPin n j r))) with
 |some a=>[⟨a,b⟩]
 |none=>[]
def lQ (c:Circ) (ks:List Flt) (n b:Nat) (r:Rul) (t:Nat):List N2:=(List.range t).flatMap (mP c ks n b r)
def jF (c:Circ) (ks:List Flt) (n:Nat):List N2:=match steerR (kd c n) with
 |none=>[]
 |some r=>match ixO ks (fltS (clsN c (domOut n r))) with
  |none=>[]
  |some b=>lQ c ks n b r (insOf c n).length
def domRaw (c:Circ) (ks:List Flt) (i:Nat):List N2:=(List.range i).flatMap (jF c ks)
theorem kE (c:Circ) (ks:List Flt) (i:Nat):domRaw c ks (i+1)=domRaw c ks i++jF c ks i:=by
 unfold domRaw;rw[List.range_succ,List.flatMap_append];simp
theorem nq (c:Circ) (ks:List Flt) (n b:Nat) (r:Rul) (t:Nat):lQ c ks n b r (t+1)=lQ c ks n b r t++mP c ks n b r t:=by
 unfold lQ;rw[List.range_succ,List.flatMap_append];simp
theorem BI (c:Circ) (ks:List Flt) (n b:Nat) (r:Rul) (j:Nat):(mP c ks n b r j).length<=1:=by
 unfold mP
 split <;> simp
theorem pb (c:Circ) (ks:List Flt) (n b:Nat) (r:Rul):∀ t,(lQ c ks n b r t).length<=t
 |0=>Nat.le_refl _
 |t+1=>by
  rw[nq,List.length_append];have:=pb c ks n b r t;have:=BI c ks n b r t;omega
theorem lJ {c:Circ} (C:Cir c) (ks:List Flt):∀ i,i<=c.nodes.length->(domRaw c ks i).length<=i*16
 |0,_=>Nat.le_refl _
 |i+1,h=>by
  have:=lJ C ks i (by omega);rw[kE,List.length_append];obtain⟨x,hx⟩:=av (show i<c.nodes.length from h);have hf:=(C.good.node i x hx).few
  have:(jF c ks i).length<=16:=by
   unfold jF;split
   ·exact Nat.zero_le _
   ·split
    ·exact Nat.zero_le _
    ·rename_i r _ _ b _;have:=pb c ks i b r (insOf c i).length;rw[ch hx] at this ⊢;omega
  omega
theorem CC {ks:List Flt}{k:Flt}{a:Nat}:ixO ks k=some a↔k∈ks/\ks.idxOf k=a:=by
 unfold ixO;by_cases m:k∈ks
 ·rw[if_pos m];simp[m]
 ·rw[if_neg m];simp[m]
theorem sE {c:Circ}{ks:List Flt}{i:Nat}{x:N2}:x∈domRaw c ks i ↔ ∃ n r j,n<i/\steerR (kd c n)=some r/\j<(insOf c n).length/\fltS (clsN c (domPin n j r))∈ks/\fltS (clsN c (domOut n r))∈ks/\x=⟨ks.idxOf (fltS (clsN c (domPin n j r))),ks.idxOf (fltS (clsN c (domOut n r)))⟩:=by
 unfold domRaw;rw[List.mem_flatMap];constructor
 ·rintro⟨n,hn,m⟩;unfold jF at m;split at m
  ·cases m
  ·rename_i r hr;split at m
   ·cases m
   ·rename_i b hb;obtain⟨j,hj,m⟩:=List.mem_flatMap.1 m;unfold mP at m;split at m
    ·rename_i a ha;obtain⟨a1,a2⟩:=CC.1 ha;obtain⟨b1,b2⟩:=CC.1 hb;rw[List.mem_singleton] at m;exact⟨n,r,j,List.mem_range.1 hn,hr,List.mem_range.1 hj,a1,b1,by rw[m,a2,b2]⟩
    ·cases m
 ·rintro⟨n,r,j,hn,hr,hj,h1,h2,rfl⟩;refine⟨n,List.mem_range.2 hn,?_⟩;unfold jF;rw[hr];dsimp only;rw[pL h2];refine List.mem_flatMap.2 ⟨j,List.mem_range.2 hj,?_⟩;unfold mP;rw[pL h1];exact List.mem_singleton.2 rfl
structure DomOk (c:Circ) (ks:List Flt) (r:List N2):Prop where
 sorted:r.Pairwise n2Lt
 mem:∀ x,x∈r↔x∈domRaw c ks c.nodes.length
 len:r.length<=256
theorem DomOk.lt {c:Circ}{ks:List Flt}{r:List N2} (D:DomOk c ks r) {x:N2} (h:x∈r):x.a<ks.length/\x.b<ks.length:=by
 obtain⟨n,r,j,_,_,_,h1,h2,rfl⟩:=sE.1 ((D.mem x).1 h);exact⟨List.idxOf_lt_length_iff.2 h1,List.idxOf_lt_length_iff.2 h2⟩
theorem tG {c:Circ}{n j:Nat}{r:Rul} (hn:n<c.nodes.length) (hj:j<(insOf c n).length):VS c (domPin n j r):=⟨hn,hj,by unfold domPin;dsimp only;omega⟩
theorem pU {c:Circ}{n:Nat}{r:Rul} (hn:n<c.nodes.length):VS c (domOut n r):=⟨hn,Nat.zero_le _,by unfold domOut;dsimp only;omega⟩
theorem ov {c:Circ} (C:Cir c) {ks:List Flt} (hk:ks.length<=65536) {ps:List Nat} (U:EdgeI c (edgesN c) ps) {cs:List (Nat×Nat)} (hcs:CsOk c ks ps cs) {R:List (List Nat)}{os:List Nat}{K:List Nat×List N2->Prop}
  (h:∀ qs r,DomOk c ks r->K (qs,r)):bZ (npN c) (fsN c) ps R os cs c K:=by
 have hlen:=C.len;unfold bZ;refine aA (fun s=>s.2.2<=c.nodes.length/\SameR ps s.1/\s.2.1=domRaw c ks s.2.2) (fun s=>c.nodes.length-s.2.2) (fun s=>s.1=domRaw c ks c.nodes.length) ?_ ⟨Nat.zero_le _,SameR.refl ps,rfl⟩ ?_
 ·rintro k ⟨qs,out,i⟩ nx ⟨hi,hS,ho⟩ hnx hk2;dsimp only at hi hS ho;refine⟨fun q=>?_,fun q=>hk2 _ ?_⟩
  ·have q:i<c.nodes.length:=aO.1 q;obtain⟨x,hx⟩:=av q;have hfew:=(C.good.node i x hx).few
   have hol:out.length<=i*16:=by rw[ho];exact lJ C ks i hi
   refine dG (fun s=>SameR ps s.1/\s.2=domRaw c ks (i+1)) (fun k3 hk3=>⟨x,hx,?_⟩) fun s hs=>⟨by omega,hnx _ ⟨q,hs.1,hs.2⟩ (by dsimp only;omega)⟩;have U1:=U.same hS;refine yg (fun r hr=>⟨fun e=>(by cases e),fun _=>?_⟩) fun hr=>⟨fun _=>hk3 _ ⟨hS,?_⟩,fun e=>(by cases e)⟩
   ·have hrle:=uI hr
    have hr':steerR (kd c i)=some r:=by rw[ia hx];exact hr
    have v1:=pU (c:=c) (r:=r) q;obtain⟨rt,hrt⟩:=U1.fo (jv c (domOut i r)) (U1.len ▸ lH v1);refine⟨hrle.2,by decide,ud C v1 (s:=domOut i r) (by rfl) (pK U1.len hrt fun ws hw=>?_)⟩;dsimp only;have hS2:=hS.trans hw;have hget:=hcs.same U.fo hS (domOut i r) v1 rt hrt
    have hnode:jF c ks i=match ixO ks (fltS (clsN c (domOut i r))) with|none=>[] | some b=>lQ c ks i b r (insOf c i).length:=by
     unfold jF;rw[hr']
    rw[hget]
    cases hb:ixO ks (fltS (clsN c (domOut i r))) with
    |none =>
     rw[hb] at hnode;refine⟨fun _=>hk3 _ ⟨hS2,?_⟩,fun e=>(by cases e)⟩;dsimp only;rw[kE,hnode,List.append_nil,ho]
    |some b =>
     rw[hb] at hnode;dsimp only at hnode;refine⟨fun e=>(by cases e),fun _=>?_⟩;refine bo (fun s=>s.2.2<=x.ins.length/\SameR ps s.1/\s.2.1=domRaw c ks i++lQ c ks i b r s.2.2) (fun s=>x.ins.length-s.2.2) ?_ ⟨Nat.zero_le _,hS2,by rw[ho];simp[lQ]⟩;rintro⟨ws,out,j⟩ nx4 ⟨hj,hS4,ho4⟩ hnx4;dsimp only at hj hS4 ho4;refine⟨fun q4=>?_,fun q4=>hk3 _ ⟨hS4,?_⟩⟩
     ·have q4:j<x.ins.length:=aO.1 q4
      have hol4:out.length<=512:=by
       rw[ho4,List.length_append];have:=lJ C ks i hi;have:=pb c ks i b r j;omega
      have v2:VS c (domPin i j r):=tG q (by rw[ch hx];exact q4);have U4:=U.same hS4;obtain⟨rt4,hrt4⟩:=U4.fo (jv c (domPin i j r)) (U4.len ▸ lH v2);refine dG (fun s=>SameR ps s.1/\s.2=domRaw c ks i++lQ c ks i b r (j+1)) (fun k5 hk5=>⟨hrle.1,by decide,ud C v2 (s:=domPin i j r) (by unfold domPin;simp only[Int.ofNat_eq_natCast];omega) (pK U4.len hrt4 fun ys hy=>?_)⟩) fun s hs=>⟨by dsimp only;omega,hnx4 _ ⟨q4,hs.1,hs.2⟩ (by dsimp only;omega)⟩;dsimp only;have hget4:=hcs.same U.fo hS4 (domPin i j r) v2 rt4 hrt4;rw[hget4]
      cases ha:ixO ks (fltS (clsN c (domPin i j r))) with
      |none =>
       refine⟨fun e=>(by cases e),fun _=>hk5 _ ⟨hS4.trans hy,?_⟩⟩;dsimp only;rw[nq,ho4];unfold mP;rw[ha,List.append_nil]
      |some a =>
       refine⟨fun _=>⟨by rw[List.length_singleton];omega,hk5 _ ⟨hS4.trans hy,?_⟩⟩,fun e=>(by cases e)⟩;dsimp only[Option.getD];rw[nq,ho4];unfold mP;rw[ha,List.append_assoc]
     ·have q4:x.ins.length<=j:=bk.1 q4
      obtain rfl:j=x.ins.length:=by omega
      dsimp only;rw[kE,hnode,ch hx];exact ho4
   ·have hr':steerR (kd c i)=none:=by rw[ia hx];exact hr
    dsimp only;rw[kE,ho];unfold jF;rw[hr',List.append_nil]
  ·have q:c.nodes.length<=i:=bk.1 q
   obtain rfl:i=c.nodes.length:=by omega
   exact ho
 ·rintro⟨out,qs⟩ ho;dsimp only at ho ⊢;subst ho;have hl:=lJ C ks _ (Nat.le_refl _);refine⟨by omega,fun x m=>?_,fun l hp hs=>⟨by rw[hp.length_eq];omega,h _ _ ?_⟩⟩
  ·obtain⟨n,r,j,_,_,_,h1,h2,rfl⟩:=sE.1 m;have:=List.idxOf_lt_length_iff.2 h1;have:=List.idxOf_lt_length_iff.2 h2;exact⟨by dsimp only;omega,by dsimp only;omega⟩
  ·obtain⟨s1,s2⟩:=zK hs;refine⟨s1,fun x=>(s2 x).trans hp.mem_iff,?_⟩;have:=zl l;have:=hp.length_eq;omega
structure ListOk (c:Circ) (l:List Flt):Prop where
 len:l.length<=65536
 stuck:∀ f∈l,f.model=0->StuckOk c f
 check:∀ f∈l,∀ K:Nat->Prop,K 0->faults_Check_wp c f K
theorem Eb {c:Circ}{l:List Flt} (hl:ListOk c l):(ksF c l).length<=65536:=Nat.le_trans (sH _ _) hl.len
theorem xf:∀ {r s:List N2},r.Pairwise n2Lt->s.Pairwise n2Lt->(∀ x,x∈r↔x∈s)->r=s
 |[],[],_,_,_=>rfl
 |[],b::s,_,_,h=>by have:=(h b).2 (List.mem_cons_self ..);cases this
 |a::r,[],_,_,h=>by have:=(h a).1 (List.mem_cons_self ..);cases this
 |a::r,b::s,h1,h2,h=>by
  obtain⟨a1,a2⟩:=List.pairwise_cons.1 h1;obtain⟨b1,b2⟩:=List.pairwise_cons.1 h2
  have e:a=b:=by
   rcases List.mem_cons.1 ((h a).1 (List.mem_cons_self ..)) with q|q
   ·exact q
   ·rcases List.mem_cons.1 ((h b).2 (List.mem_cons_self ..)) with q2|q2
    ·exact q2.symm
    ·have:=b1 a q;have:=a1 b q2;unfold n2Lt at *;omega
  subst e;refine congrArg (a :: ·) (xf a2 b2 fun x=>?_);have:=h x;rw[List.mem_cons,List.mem_cons] at this;constructor
  ·intro m
   rcases this.1 (.inr m) with q|q
   ·subst q;have:=a1 x m;unfold n2Lt at this;omega
   ·exact q
  ·intro m
   rcases this.2 (.inr m) with q|q
   ·subst q;have:=b1 x m;unfold n2Lt at this;omega
   ·exact q
theorem DomOk.eq {c:Circ}{ks:List Flt}{r s:List N2} (h:DomOk c ks r) (g:DomOk c ks s):r=s:=xf h.sorted g.sorted fun x=>(h.mem x).trans (g.mem x).symm
def jh (r:List N2) (i:Nat):Bool:=r.any fun x=>x.b==i
def jz (c:Circ) (l:List Flt) (r:List N2) (i:Nat):List Nat:=if jh r i=true then [] else [((RN c l).getD i []).getD 0 0]
def eG (c:Circ) (l:List Flt) (r:List N2) (i:Nat):List Nat:=(List.range i).flatMap (jz c l r)
theorem jb (c:Circ) (l:List Flt) (r:List N2) (i:Nat):eG c l r (i+1)=eG c l r i++jz c l r i:=by
 unfold eG;rw[List.range_succ,List.flatMap_append];simp
theorem oL (c:Circ) (l:List Flt) (r:List N2):∀ i,(eG c l r i).length<=i
 |0=>Nat.le_refl _
 |i+1=>by
  rw[jb,List.length_append];have:=oL c l r i
  have:(jz c l r i).length<=1:=by unfold jz;split <;> simp
  omega
theorem Gu {c:Circ}{l:List Flt}{i:Nat} (h:i<(ksF c l).length):∃ k x t,(ksF c l)[i]?=some k/\(RN c l)[i]?=some (x::t)/\mn c l k=x::t:=by
 obtain⟨k,hk⟩:=av h
 have hr:(RN c l)[i]?=some (mn c l k):=by unfold RN;rw[List.getElem?_map,hk];rfl
 obtain⟨f,hf,e⟩:=iG.1 (List.mem_of_getElem? hk);obtain⟨j,hj⟩:=List.mem_iff_getElem?.1 hf;have m:j∈mn c l k:=uR.2 ⟨f,hj,e⟩
 cases hrow:mn c l k with
 |nil=>rw[hrow] at m;cases m
 |cons x t=>exact⟨k,x,t,hk,by rw[hr,hrow],hrow⟩
theorem Hm {c:Circ} (C:Cir c) {l:List Flt} (hl:ListOk c l) {K:List Nat×Nat->Prop} (h:∀ r,DomOk c (ksF c l) r->K (eG c l r (ksF c l).length,0)):dg c l K:=by
 have hlen:=hl.len;have hks:=Eb hl;have hRl:=xQ c l;unfold dg;refine vT C hl.len hl.check ⟨(fun q=>absurd rfl (fx.1 q)),fun _=>pz C hl.len hl.stuck fun ps cs P=>⟨by omega,by omega,?_⟩⟩;refine dG (fun s=>∃ r,DomOk c (ksF c l) r/\s.2.length=(ksF c l).length/\∀ i,i<(ksF c l).length->s.2[i]?=some (jh r i)) (fun k hk=>ov C hks P.edge P.cs fun qs r hr=>?_) ?_
 ·refine bo (fun s=>s.2<=r.length/\s.1.length=(ksF c l).length/\∀ i,i<(ksF c l).length->s.1[i]?=some (jh (r.take s.2) i)) (fun s=>r.length-s.2) ?_ ⟨Nat.zero_le _,by rw[List.length_replicate];exact hRl,fun i hi=>?_⟩
  ·rintro⟨bs,t⟩ nx ⟨ht,hb1,hb2⟩ hnx;dsimp only at ht hb1 hb2;refine⟨fun q=>?_,fun q=>hk _ ⟨r,hr,hb1,?_⟩⟩
   ·have q:t<r.length:=aO.1 q;obtain⟨x,hx⟩:=av q;have hlt:=hr.lt (List.mem_of_getElem? hx);have:=hr.len;refine⟨x,hx,by rw[hRl];exact hlt.2,_,hb2 x.b hlt.2,by omega,hnx _ ⟨q,(List.length_set ..).trans hb1,fun i hi=>?_⟩ (by dsimp only;omega)⟩;dsimp only;rw[List.getElem?_set,eU hx];unfold jh;rw[List.any_append];by_cases e:x.b=i
    ·subst e;rw[if_pos rfl,if_pos (by omega)];simp
    ·rw[if_neg e,hb2 i hi];unfold jh;simp[e]
   ·have q:r.length<=t:=bk.1 q;rw[List.take_of_length_le q] at hb2;exact hb2
  ·rw[hRl,List.getElem?_replicate,if_pos hi];rfl
 ·rintro⟨qs,bs⟩ ⟨r,hr,hb1,hb2⟩;dsimp only at hb1 hb2;refine aA (fun s=>s.2<=(ksF c l).length/\s.1=eG c l r s.2) (fun s=>(ksF c l).length-s.2) (fun s=>s=eG c l r (ksF c l).length) ?_ ⟨Nat.zero_le _,rfl⟩ (fun _ e=>e ▸ h r hr);rintro k ⟨out,i⟩ nx ⟨hi,ho⟩ hnx hk;dsimp only at hi ho;refine⟨fun q=>?_,fun q=>hk _ ?_⟩
  ·have q:i<(ksF c l).length:=hRl ▸ aO.1 q;obtain⟨ky,x,t,_,hrow,_⟩:=Gu q
   have hol:out.length<=i:=by rw[ho];exact oL c l r i
   have hone:jz c l r i=if jh r i=true then [] else [x]:=by
    have e:(RN c l).getD i []=x::t:=by rw[List.getD,hrow];rfl
    unfold jz;rw[e];rfl
   refine dG (fun s=>s=eG c l r (i+1)) (fun k2 hk2=>⟨_,hrow,by omega,_,hb2 i q,fun e=>⟨x,rfl,by rw[List.length_singleton];omega,hk2 _ ?_⟩,fun e=>hk2 _ ?_⟩) fun s hs=>⟨by omega,hnx _ ⟨q,hs⟩ (by dsimp only;omega)⟩
   ·have e:jh r i=false:=by simpa using e
    rw[jb,hone,e,ho];rfl
   ·have e:jh r i=true:=by simpa using e
    rw[jb,hone,e,ho];simp
  ·have q:(RN c l).length<=i:=bk.1 q
   obtain rfl:i=(ksF c l).length:=by omega
   exact ho
def Be (a b:Nat):Prop:=a=2\/a=b
inductive BeL:List Nat->List Nat->Prop
 |nil:BeL [] []
 |cons {a b:Nat} {l m:List Nat}:Be a b->BeL l m->BeL (a::l) (b::m)
theorem Be.refl (a:Nat):Be a a:=.inr rfl
theorem BeL.getD:∀ {l m:List Nat},BeL l m->∀ i,Be (l.getD i 0) (m.getD i 0)
 |_,_,.nil,_=>.refl _
 |_,_,.cons h _,0=>h
 |_,_,.cons _ h,i+1=>by
  rw[List.getD_cons_succ,List.getD_cons_succ];exact BeL.getD h i
theorem BeL.eq:∀ {l m:List Nat},BeL l m->2 ∉ l->l=m
 |_,_,.nil,_=>rfl
 |_,_,.cons h r,n=>by
  rw[List.mem_cons,not_or] at n
  rcases h with h|h
  ·exact absurd h.symm n.1
  ·rw[h,BeL.eq r n.2]
theorem BeL.JT {f g:Nat->Nat->Nat}:∀ (ins:List Nat) (s:Nat),(∀ j k,ins[j]?=some k->Be (f (s+j) k) (g (s+j) k))->BeL (ins.mapIdx fun j k=>f (s+j) k) (ins.mapIdx fun j k=>g (s+j) k)
 |[],_,_=>.nil
 |k::ins,s,h=>by
  rw[List.mapIdx_cons,List.mapIdx_cons];refine .cons (h 0 k rfl) ?_
  have:=BeL.JT (f:=f) (g:=g) ins (s+1) fun j k' hk=>by
   have:=h (j+1) k' (by rw[List.getElem?_cons_succ];exact hk);rw[show s+1+j=s+(j+1) by omega];exact this
  have e:∀ q:Nat->Nat->Nat,(ins.mapIdx fun j k=>q (s+1+j) k)=ins.mapIdx fun j k=>q (s+(j+1)) k:=fun q=>by
   congr 1;funext j k;rw[show s+1+j=s+(j+1) by omega]
  rw[e f,e g] at this;exact this
theorem vb {a b:Nat} (h:Be a b):Be (min a 2) (min b 2):=by
 rcases h with rfl|rfl
 ·exact .inl rfl
 ·exact .refl _
theorem xM {a b:Nat} (h:Be a b):Be (lu a) (lu b):=by
 rcases h with rfl|rfl
 ·exact .inl rfl
 ·exact .refl _
theorem yi {low high:Nat}:∀ (l:List Nat) (o:Nat),cV low high l o=low\/cV low high l o=o\/cV low high l o=2
 |[],o=>.inr (.inl rfl)
 |v::l,o=>by
  rw[cV];split
  ·exact .inl rfl
  ·split
   ·exact yi l o
   ·rcases yi (low:=low) (high:=high) l 2 with h|h|h
    ·exact .inl h
    ·exact .inr (.inr h)
    ·exact .inr (.inr h)
theorem nI {low high:Nat}:∀ {l:List Nat},low ∉ l->∀ o,cV low high l o=o\/cV low high l o=2
 |[],_,o=>.inl rfl
 |v::l,h,o=>by
  rw[List.mem_cons,not_or] at h;rw[cV,if_neg (fun e=>h.1 e.symm)];split
  ·exact nI h.2 o
  ·rcases nI (low:=low) (high:=high) h.2 2 with q|q
   ·exact .inr q
   ·exact .inr q
theorem rm {low high:Nat} (h1:low<=1) (h2:high<=1):∀ {l m:List Nat},BeL l m->∀ {o p:Nat},Be o p->Be (cV low high l o) (cV low high m p)
 |_,_,.nil,_,_,h=>h
 |a::l,b::m,.cons h r,o,p,ho=>by
  rcases h with rfl|rfl
  ·rw[cV,if_neg (by omega),if_neg (by omega)];rw[cV];split
   ·rcases yi (low:=low) (high:=high) l 2 with q|q|q
    ·rw[q];exact .refl _
    ·exact .inl q
    ·exact .inl q
   ·exact rm h1 h2 r (.inl rfl)
  ·rw[cV,cV];split
   ·exact .refl _
   ·refine rm h1 h2 r ?_;split
    ·exact ho
    ·exact .refl _
theorem Bz:∀ {l m:List Nat},BeL l m->∀ o,Be (lN l o) (lN m o)
 |_,_,.nil,_=>.refl _
 |a::l,b::m,.cons h r,o=>by
  rcases h with rfl|rfl
  ·rw[lN,if_neg (by omega)];exact .inl rfl
  ·rw[lN,lN];split
   ·exact Bz r _
   ·exact .refl _
theorem IY {s s' a a' b b':Nat} (hs:Be s s') (ha:Be a a') (hb:Be b b'):Be (tX s a b) (tX s' a' b'):=by
 unfold tX
 rcases hs with rfl|rfl
 ·rw[if_neg (by omega),if_neg (by omega)];by_cases e:a=b
  ·rw[if_pos e];subst e;by_cases q:a=2
   ·subst q;exact .inl rfl
   ·have e1:a=a':=ha.resolve_left q;have e2:a=b':=hb.resolve_left q;subst e1 e2;split
    ·exact .refl _
    ·split
     ·exact .refl _
     ·rw[if_pos rfl];exact .refl _
  ·rw[if_neg e];exact .inl rfl
 ·split
  ·exact vb ha
  ·split
   ·exact vb hb
   ·by_cases e:a=b
    ·rw[if_pos e];subst e;by_cases q:a=2
     ·subst q;exact .inl rfl
     ·have e1:a=a':=ha.resolve_left q;have e2:a=b':=hb.resolve_left q;subst e1 e2;rw[if_pos rfl];exact .refl _
    ·rw[if_neg e];exact .inl rfl
theorem IX {e e' d d':Nat} (he:Be e e') (hd:Be d d'):Be (ve e d) (ve e' d'):=by
 unfold ve
 rcases he with rfl|rfl
 ·exact .inl rfl
 ·split
  ·exact .refl _
  ·split
   ·exact vb hd
   ·exact .refl _
theorem He {l:List Nat} (h:2∈l):xu l=2:=by
 unfold xu;split
 ·rename_i e;unfold I3 at e;have:=List.findIdx?_eq_none_iff.1 e 2 h;simp at this
 ·rw[if_pos];rw[Bool.or_eq_true];right;rw[List.any_eq_true];exact⟨2,h,rfl⟩
theorem IZ {l m:List Nat} (h:BeL l m):Be (xu l) (xu m):=by
 by_cases q:2∈l
 ·rw[He q];exact .inl rfl
 ·rw[h.eq q];exact .refl _
theorem BD (k:Nat) {l m:List Nat} (h:BeL l m):Be (jP k l) (jP k m):=by
 by_cases k12:k=12
 ·subst k12;exact IX (h.getD 0) (h.getD 1)
 by_cases k13:k=13
 ·subst k13;exact IZ h
 by_cases k1:k=1
 ·subst k1;exact .refl _
 by_cases k2:k=2
 ·subst k2;exact .refl _
 by_cases k3:k=3
 ·subst k3;exact vb (h.getD 0)
 by_cases k4:k=4
 ·subst k4;exact xM (h.getD 0)
 by_cases k5:k=5
 ·subst k5;exact rm (by decide) (by decide) h (.refl _)
 by_cases k6:k=6
 ·subst k6;exact xM (rm (by decide) (by decide) h (.refl _))
 by_cases k7:k=7
 ·subst k7;exact rm (by decide) (by decide) h (.refl _)
 by_cases k8:k=8
 ·subst k8;exact xM (rm (by decide) (by decide) h (.refl _))
 by_cases k9:k=9
 ·subst k9;exact Bz h _
 by_cases k10:k=10
 ·subst k10;exact xM (Bz h _)
 by_cases k11:k=11
 ·subst k11;exact IY (h.getD 0) (h.getD 1) (h.getD 2)
 have e:∀ q,jP k q=2:=fun q=>by
  unfold jP zd;rw[if_neg k12,if_neg k13,if_neg k1,if_neg k2,if_neg k3,if_neg k4,if_neg k5,if_neg k6,if_neg k7,if_neg k8,if_neg k9,if_neg k10,if_neg k11]
 rw[e,e];exact .refl _
theorem ph {k:Nat}{r:Rul} (h:steerR k=some r):5<=k/\k<=8:=by
 unfold steerR at h;split at h
 ·omega
 split at h
 ·omega
 split at h
 ·omega
 split at h
 ·omega
 ·cases h
theorem xi {k:Nat}{r:Rul} (h:steerR k=some r) {l:List Nat} (m:r.pin∈l):jP k l=r.out:=by
 unfold steerR at h;split at h
 ·rename_i q;subst q;cases h
  show cV 0 1 l 1=0
  exact gQ m
 split at h
 ·rename_i q;subst q;cases h
  show lu (cV 0 1 l 1)=1
  rw[gQ m];rfl
 split at h
 ·rename_i q;subst q;cases h
  show cV 1 0 l 0=1
  exact gQ m
 split at h
 ·rename_i q;subst q;cases h
  show lu (cV 1 0 l 0)=0
  rw[gQ m];rfl
 ·cases h
theorem EE {k:Nat}{r:Rul} (h:steerR k=some r) {l:List Nat} (m:r.pin ∉ l):Be (jP k l) (1-r.out):=by
 unfold steerR at h;split at h
 ·rename_i q;subst q;cases h
  show Be (cV 0 1 l 1) 1
  rcases nI (high:=1) m 1 with q|q
  ·exact .inr q
  ·exact .inl q
 split at h
 ·rename_i q;subst q;cases h
  show Be (lu (cV 0 1 l 1)) 0
  rcases nI (high:=1) m 1 with q|q
  ·rw[q];exact .inr rfl
  ·rw[q];exact .inl rfl
 split at h
 ·rename_i q;subst q;cases h
  show Be (cV 1 0 l 0) 0
  rcases nI (high:=0) m 0 with q|q
  ·exact .inr q
  ·exact .inl q
 split at h
 ·rename_i q;subst q;cases h
  show Be (lu (cV 1 0 l 0)) 1
  rcases nI (high:=0) m 0 with q|q
  ·rw[q];exact .inr rfl
  ·rw[q];exact .inl rfl
 ·cases h
theorem DZ {v a b:Nat} (h:Con v a) (g:Be a b):Con v b:=by
 rcases g with rfl|rfl
 ·exact absurd h.2.1 (by decide)
 ·exact h
theorem GJ {c:Circ} (C:Cir c) {p:Pat} (hp:PatOk c p) {n j:Nat}{r:Rul} (hn:n<c.nodes.length) (hj:j<(insOf c n).length) (hr:steerR (kd c n)=some r) (hd:fb c p (fltS (domPin n j r))=true):fb c p (fltS (domOut n r))=true:=by
 obtain⟨x,hx⟩:=av hn;rw[ia hx] at hr;rw[ch hx] at hj;have hle:=uI hr;have hk:=ph hr;have hcomb:combB x.kind=true:=decide_eq_true (by omega);obtain⟨y0,hy0⟩:=av hj;have hpl:∀ m q v,v<=3->lx n (Int.ofNat j) (1-r.pin) m q v<=3:=sK (by omega);have T:=oG C hp qI hpl;obtain⟨t,ht⟩:∃ t,sol c p idN (lx n (Int.ofNat j) (1-r.pin))=t:=⟨_,rfl⟩;rw[ht] at T
 have hother:∀ i (y:Node),i≠n->dS (lx n (Int.ofNat j) (1-r.pin)) t i y=dS idP t i y:=by
   intro i y q;unfold dS;congr 1;funext q2 k;rw[jH,if_neg (fun e=>q e.1)];rfl
 have hdffn:∀ s∈ofN c [14],s≠n:=by
   rintro s hs rfl;have:=zp hs;rw[ia hx] at this;omega
 have hvf:vI c p (fltS (domPin n j r))=t:=by
   unfold vI domPin;rw[xU,pY];exact ht
 have hTn:t.getD n 0=jP x.kind (dS (lx n (Int.ofNat j) (1-r.pin)) t n x):=by
   have:=T.val n x hx;rw[this]
   show baseV _ _ _ _ _ _=_
   exact lr hcomb
 by_cases m:r.pin∈dS (lx n (Int.ofNat j) (1-r.pin)) t n x
 ·
   have hS:Sol c p idN idP t:=by
    refine⟨T.len,fun i y hy=>?_,T.le⟩;by_cases q:i=n
    ·subst q;rw[hx] at hy;cases hy
     show _=baseV _ _ _ _ _ _
     rw[lr hcomb,hTn,xi hr m];symm;refine xi hr ?_;obtain⟨q,hq⟩:=List.mem_iff_getElem?.1 m;unfold dS at hq ⊢;rw[List.getElem?_mapIdx] at hq;obtain⟨k,hk1,hk2⟩:=Option.map_eq_some_iff.1 hq;rw[jH] at hk2;split at hk2
     ·omega
     ·refine List.mem_iff_getElem?.2 ⟨q,?_⟩;rw[List.getElem?_mapIdx,hk1,<- hk2];rfl
    ·rw[T.val i y hy]
     show baseV _ _ _ _ _ _=baseV _ _ _ _ _ _
     unfold baseV;rw[hother i y q]
   have e:=hS.is C hp qI rf
   have:fb c p (fltS (domPin n j r))=false:=by
    rw[Bool.eq_false_iff];intro h;rw[xo,hvf] at h;unfold Gz at h;rw[<- e] at h
    rcases h with⟨o,_,h⟩|⟨s,hs,h⟩
    ·exact B3 _ h
    ·unfold domPin at h;rw[pY,jH,if_neg (fun q=>hdffn s hs q.1)] at h;exact B3 _ h
   rw[this] at hd
   cases hd
 ·
   have G:=oG C hp (sQ (a:=n) (w:=1-r.out) (by omega)) rf
   obtain⟨g,hg⟩:∃ g,sol c p (nf n (1-r.out)) idP=g:=⟨_,rfl⟩
   rw[hg] at G
   have hvg:vI c p (fltS (domOut n r))=g:=by
    unfold vI domOut;rw[yc,yj];exact hg
   have hB:∀ k i,i<k->Be (t.getD i 0) (g.getD i 0):=by
    intro k
    induction k with
    |zero=>intro i h;omega
    |succ k ih =>
     intro i hik;by_cases hi:i<c.nodes.length
     ·obtain⟨y,hy⟩:=av hi;rw[G.val i y hy];by_cases q:i=n
      ·subst q;rw[hx] at hy;cases hy;unfold nf;rw[if_pos rfl,hTn];exact EE hr m
      ·unfold nf;rw[if_neg q,T.val i y hy]
       show Be (baseV _ _ _ _ _ _) (baseV _ _ _ _ _ _)
       by_cases hc:combB y.kind=true
       ·rw[lr hc,lr hc,hother i y q];refine BD _ ?_;unfold dS;have:=BeL.JT (f:=fun q k=>idP i q (t.getD k 0)) (g:=fun q k=>idP i q (g.getD k 0)) y.ins 0 fun q k hk=>?_
        ·simpa using this
        ·show Be (t.getD k 0) (g.getD k 0)
         have hkk:=of_decide_eq_true hc;have:=(C.good.node i y hy).acyc (by omega) (by omega) k (List.mem_of_getElem? hk);exact ih k (by omega)
       ·have hc:combB y.kind=false:=by simpa using hc
        rw[pX hc,pX hc];exact .refl _
     ·have e1:t.getD i 0=0:=by rw[List.getD,List.getElem?_eq_none (by rw[T.len];omega)];rfl
      have e2:g.getD i 0=0:=by rw[List.getD,List.getElem?_eq_none (by rw[G.len];omega)];rfl
      rw[e1,e2];exact .refl _
   rw[xo,hvf] at hd
   rw[xo,hvg]
   rcases hd with⟨o,ho,h⟩|⟨s,hs,h⟩
   ·exact .inl ⟨o,ho,DZ h (hB _ o (Nat.lt_succ_self _))⟩
   ·refine .inr ⟨s,hs,?_⟩
    unfold domPin at h
    rw[pY,jH,if_neg (fun q=>hdffn s hs q.1)] at h
    exact DZ h (vb (hB _ _ (Nat.lt_succ_self _)))
inductive Rch (r:List N2) (st:Nat->Prop):Nat->Prop
 |base {a:Nat}:st a->Rch r st a
 |step {a b:Nat}:Rch r st a->(⟨a,b⟩:N2)∈r->Rch r st b
def yp (r:List N2) (a:Nat):List Nat:=(r.filter fun x=>x.a==a).map N2.b
theorem zq {r:List N2}{a b:Nat}:b∈yp r a↔(⟨a,b⟩:N2)∈r:=by
 unfold yp;rw[List.mem_map];constructor
 ·rintro⟨⟨a',b'⟩,m,rfl⟩;obtain⟨m,e⟩:=List.mem_filter.1 m
  have e:a'=a:=by simpa using e
  rw[<- e];exact m
 ·intro m;exact⟨⟨a,b⟩,List.mem_filter.2 ⟨m,by simp⟩,rfl⟩
theorem zP (r:List N2) (a:Nat):(yp r a).length<=r.length:=by
 unfold yp;rw[List.length_map];exact List.length_filter_le _ _
theorem CQ (r:List N2) (x:N2) (a:Nat):yp (r++[x]) a=yp r a++if x.a=a then [x.b] else []:=by
 unfold yp;rw[List.filter_append,List.map_append];congr 1;by_cases e:x.a=a
 ·simp[e]
 ·simp[e]
def cntT (bs:List Bool):Nat:=bs.count true
theorem GZ (bs:List Bool):cntT bs<=bs.length:=List.count_le_length
theorem zM:∀ {bs:List Bool}{a:Nat},bs[a]?=some false->cntT (bs.set a true)=cntT bs+1
 |[],_,h=>by cases h
 |b::bs,0,h=>by
  rw[List.getElem?_cons_zero] at h
  cases h
  unfold cntT;rw[List.set_cons_zero,List.count_cons,List.count_cons];simp
 |b::bs,a+1,h=>by
  rw[List.getElem?_cons_succ] at h;have:=zM h;unfold cntT at this ⊢;rw[List.set_cons_succ,List.count_cons,List.count_cons,this];omega
theorem H5 {bs:List Bool}{a:Nat}{v:Bool} (h:bs[a]?=some v):bs.getD a false=v:=by rw[List.getD,h];rfl
theorem wT {bs:List Bool}{a b:Nat} (h:a<bs.length):(bs.set a true).getD b false=true↔b=a\/bs.getD b false=true:=by
 by_cases e:b=a
 ·subst e;rw[List.getD,List.getElem?_set_self h];simp
 ·rw[List.getD,List.getElem?_set_ne (fun q=>e q.symm)];simp[e]
structure ExpI (r:List N2) (n:Nat) (st:Nat->Prop) (M:Nat) (bs:List Bool) (todo:List Nat):Prop where
 len:bs.length=n
 snd:∀ a,bs.getD a false=true->Rch r st a
 tod:∀ a∈todo,a<n/\Rch r st a
 cls:∀ a b,bs.getD a false=true->(⟨a,b⟩:N2)∈r->bs.getD b false=true\/b∈todo
 st:∀ a,st a->bs.getD a false=true\/a∈todo
 msr:(n-cntT bs)*257+todo.length<=M
theorem ExpI.done {r:List N2}{n M:Nat}{st:Nat->Prop}{bs:List Bool} (I:ExpI r n st M bs []) (a:Nat):bs.getD a false=true↔Rch r st a:=by
 refine⟨I.snd a,fun h=>?_⟩
 induction h with
 |base h=>exact (I.st _ h).resolve_right (fun m=>by cases m)
 |step _ m ih=>exact (I.cls _ _ ih m).resolve_right (fun m=>by cases m)
theorem J3 {a b:Nat}:ltI (Int.ofNat a) (Int.ofNat b)=decide (a<b):=by
 rw[cX];by_cases h:a<b
 ·rw[decide_eq_true h];exact decide_eq_true (Int.ofNat_lt.2 h)
 ·rw[decide_eq_false h];exact decide_eq_false (fun q=>h (Int.ofNat_lt.1 q))
def zX (c:Circ) (l:List Flt) (ds:List Nat) (a:Nat):Prop:=∃ i∈ds,(osN c l)[i]?=some a
theorem xK {c:Circ}{l:List Flt}{i:Nat} (h:i<l.length):∃ a,(osN c l)[i]?=some a/\a<(ksF c l).length:=by
 obtain⟨f,hf⟩:=av h;refine⟨dn c l f,by unfold osN;rw[List.getElem?_map,hf];rfl,?_⟩;exact List.idxOf_lt_length_iff.2 (iG.2 ⟨f,List.mem_of_getElem? hf,rfl⟩)
def ub (c:Circ) (l:List Flt) (bs:List Bool) (i:Nat):List Nat:=(List.range i).filter fun m=>bs.getD ((osN c l).getD m 0) false
theorem By {c:Circ} (C:Cir c) {l:List Flt} (hl:ListOk c l) {d:List Int}{K:List Nat×Nat->Prop}
  (hd:(∃ ds:List Nat,d=ds.map Int.ofNat/\(∀ i∈ds,i<l.length)/\ds.length<=65536/\∀ r bs,DomOk c (ksF c l) r->(∀ a,bs.getD a false=true↔Rch r (zX c l ds) a)->K (ub c l bs l.length,0))\/∃ bad,d=[bad]/\(bad<0\/Int.ofNat l.length<=bad)/\K ([],1)) :
  bR c l d K:=by
 have hlen:=hl.len;have hks:=Eb hl;have hRl:=xQ c l;unfold bR;refine vT C hl.len hl.check ⟨(fun q=>absurd rfl (fx.1 q)),fun _=>pz C hl.len hl.stuck fun ps cs P=>⟨by omega,by omega,?_⟩⟩;refine dG (fun s=>∃ r,DomOk c (ksF c l) r/\s.2.length=(ksF c l).length/\∀ a,a<(ksF c l).length->s.2[a]?=some (yp r a)) (fun k hk=>ov C hks P.edge P.cs fun qs r hr=>?_) ?_
 ·have hrl:=hr.len;refine bo (fun s=>s.2<=r.length/\s.1.length=(ksF c l).length/\∀ a,a<(ksF c l).length->s.1[a]?=some (yp (r.take s.2) a)) (fun s=>r.length-s.2) ?_ ⟨Nat.zero_le _,by rw[List.length_replicate];exact hRl,fun i hi=>?_⟩
  ·rintro⟨fs,t⟩ nx ⟨ht,hb1,hb2⟩ hnx;dsimp only at ht hb1 hb2;refine⟨fun q=>?_,fun q=>hk _ ⟨r,hr,hb1,?_⟩⟩
   ·have q:t<r.length:=aO.1 q;obtain⟨x,hx⟩:=av q;have hlt:=hr.lt (List.mem_of_getElem? hx);have hfl:=zP (r.take t) x.a;rw[List.length_take] at hfl;refine⟨x,hx,by rw[hRl];exact hlt.1,_,hb2 x.a hlt.1,by rw[List.length_singleton];omega,by rw[hRl];exact hlt.1,by omega,hnx _ ⟨q,(List.length_set ..).trans hb1,fun a ha=>?_⟩ (by dsimp only;omega)⟩;dsimp only;rw[List.getElem?_set,eU hx,CQ];by_cases e:x.a=a
    ·subst e;rw[if_pos rfl,if_pos (by omega),if_pos rfl]
    ·rw[if_neg e,hb2 a ha,if_neg e,List.append_nil]
   ·have q:r.length<=t:=bk.1 q;rw[List.take_of_length_le q] at hb2;exact hb2
  ·rw[hRl,List.getElem?_replicate,if_pos hi];rfl
 ·rintro⟨qs,fs⟩ ⟨r,hr,hf1,hf2⟩;have hrl:=hr.len;dsimp only at hf1 hf2;refine⟨by omega,by omega,?_⟩
  rcases hd with⟨ds,rfl,hd,hdl,h⟩|⟨bad,rfl,hb,h⟩
  case inr =>
   refine (show aF _ _ from bo (fun s=>s=([],0)) (fun _=>0) ?_ rfl)
   rintro _ nx rfl _
   refine⟨fun _=>⟨bad,rfl,?_⟩,fun q=>absurd (bk.1 q) (by simp)⟩
   refine dM (a:=true) (fun G=>⟨fun _=>G,fun e=>?_⟩) ⟨fun _=>h,fun e=>(by cases e)⟩
   have e:ltI bad (Int.ofNat l.length)=false:=by
    have e0:=sn.1 e;have:(Int.ofNat 0)=0:=rfl;refine sn.2 ?_
    rcases hb with hb|hb
    ·omega
    ·exact hb
   rw[e];exact G
  refine aA (fun s=>s.2<=ds.length/\s.1.length=s.2/\∀ a,a∈s.1↔zX c l (ds.take s.2) a) (fun s=>ds.length-s.2) (fun s=>s.length=ds.length/\∀ a,a∈s↔zX c l ds a) ?_ ⟨Nat.zero_le _,rfl,fun a=>⟨fun m=>(by cases m),fun ⟨_,m,_⟩=>by cases m⟩⟩ ?_
  ·rintro k ⟨td,i⟩ nx ⟨hi,ht1,ht2⟩ hnx hk;dsimp only at hi ht1 ht2;have hml:(ds.map Int.ofNat).length=ds.length:=List.length_map ..;refine⟨fun q=>?_,fun q=>hk _ ?_⟩
   ·have q:i<ds.length:=hml ▸ aO.1 q;obtain⟨d,hd1⟩:=av q;have hdl2:=hd d (List.mem_of_getElem? hd1);obtain⟨a,ha1,ha2⟩:=xK (c:=c) hdl2;refine⟨Int.ofNat d,by rw[List.getElem?_map,hd1];rfl,?_⟩;refine dM (a:=false) (fun G=>⟨fun e=>?_,fun _=>?_⟩) ⟨(fun e=>by cases e),fun _=>⟨d,rfl,a,ha1,by rw[List.length_singleton];omega,by omega,hnx _ ⟨q,by dsimp only;rw[List.length_append,ht1];rfl,fun b=>?_⟩ (by dsimp only;omega)⟩⟩
    ·rw[J3,decide_eq_true_eq] at e;omega
    ·rw[J3,decide_eq_true hdl2];exact G
    ·dsimp only;rw[bj,ht2,eU hd1];unfold zX;constructor
     ·rintro (⟨j,m,e⟩|rfl)
      ·exact⟨j,List.mem_append_left _ m,e⟩
      ·exact⟨d,bj.2 (.inr rfl),ha1⟩
     ·rintro⟨j,m,e⟩
      rcases bj.1 m with m|rfl
      ·exact .inl ⟨j,m,e⟩
      ·rw[ha1] at e;cases e;exact .inr rfl
   ·have q:ds.length<=i:=hml ▸ bk.1 q;rw[List.take_of_length_le q] at ht2;exact⟨by omega,ht2⟩
  ·rintro td ⟨htl,htd⟩;refine aA (fun s=>ExpI r (ksF c l).length (zX c l ds) ((ksF c l).length*257+ds.length) s.1 s.2) (fun s=>((ksF c l).length-cntT s.1)*257+s.2.length) (fun s=>s.length=(ksF c l).length/\∀ a,s.getD a false=true↔Rch r (zX c l ds) a) ?_ ?_ ?_
   ·rintro k ⟨bs,todo⟩ nx I hnx hk;dsimp only at I;refine⟨fun q=>?_,fun q=>hk _ ?_⟩
    ·have q:0<todo.length:=aO.1 q
     rcases List.eq_nil_or_concat todo with e|⟨p,a,e⟩
     ·rw[e] at q;cases q
     ·rw[List.concat_eq_append] at e;subst e
      have hpl:(p++[a]).length-1=p.length:=by rw[List.length_append,List.length_singleton];omega
      have hlast:(p++[a])[(p++[a]).length-1]?=some a:=by rw[hpl];simp
      have htake:(p++[a]).take ((p++[a]).length-1)=p:=by rw[hpl];simp
      have hm:=I.msr;obtain⟨han,har⟩:=I.tod a (bj.2 (.inr rfl));obtain⟨v,hv⟩:=av (l:=bs) (i:=a) (by rw[I.len];exact han);have hfl:=zP r a;rw[List.length_append,List.length_singleton] at hm
      have hbig:p.length<=65536*257+65536:=by
       have:(ksF c l).length*257<=65536*257:=Nat.mul_le_mul_right _ hks;omega
      refine⟨q,by rw[List.length_append,List.length_singleton];omega,a,hlast,q,by rw[List.length_append,List.length_singleton];omega,Nat.sub_le _ _,by rw[hRl];exact han,v,hv,fun e=>?_,fun e=>?_⟩
      ·have e:v=false:=by simpa using e
       subst e;have hc:=zM hv;have hcl:=GZ (bs.set a true);rw[List.length_set,I.len] at hcl;rw[htake]
       have hmul:((ksF c l).length-cntT (bs.set a true))*257+257=((ksF c l).length-cntT bs)*257:=by
        rw[hc] at hcl ⊢;rw[<- Nat.succ_mul];congr 1;omega
       refine⟨by rw[hRl];exact han,false,hv,by rw[hRl];exact han,_,hf2 a han,by omega,hnx _ ⟨(List.length_set ..).trans I.len,fun b hb=>?_,fun b hb=>?_,fun x b hx hb=>?_,fun b hb=>?_,?_⟩ ?_⟩
       ·rcases (wT (by rw[I.len];exact han)).1 hb with rfl|hb
        ·exact har
        ·exact I.snd b hb
       ·rcases List.mem_append.1 hb with m|m
        ·exact I.tod b (bj.2 (.inl m))
        ·have m:=zq.1 m;exact⟨(hr.lt m).2,.step har m⟩
       ·rcases (wT (by rw[I.len];exact han)).1 hx with rfl|hx
        ·exact .inr (List.mem_append_right _ (zq.2 hb))
        ·rcases I.cls x b hx hb with q1|q1
         ·exact .inl ((wT (by rw[I.len];exact han)).2 (.inr q1))
         ·rcases bj.1 q1 with m|rfl
          ·exact .inr (List.mem_append_left _ m)
          ·exact .inl ((wT (by rw[I.len];exact han)).2 (.inl rfl))
       ·rcases I.st b hb with q1|q1
        ·exact .inl ((wT (by rw[I.len];exact han)).2 (.inr q1))
        ·rcases bj.1 q1 with m|rfl
         ·exact .inr (List.mem_append_left _ m)
         ·exact .inl ((wT (by rw[I.len];exact han)).2 (.inl rfl))
       ·dsimp only;rw[List.length_append];omega
       ·dsimp only;rw[List.length_append,List.length_append,List.length_singleton];omega
      ·have e:v=true:=by simpa using e
       subst e;have hva:=H5 hv;rw[htake];refine hnx _ ⟨I.len,I.snd,fun b hb=>I.tod b (bj.2 (.inl hb)),fun x b hx hb=>?_,fun b hb=>?_,by dsimp only;omega⟩ (by dsimp only;rw[List.length_append,List.length_singleton];omega)
       ·rcases I.cls x b hx hb with q1|q1
        ·exact .inl q1
        ·rcases bj.1 q1 with m|rfl
         ·exact .inr m
         ·exact .inl hva
       ·rcases I.st b hb with q1|q1
        ·exact .inl q1
        ·rcases bj.1 q1 with m|rfl
         ·exact .inr m
         ·exact .inl hva
    ·have q:todo.length<=0:=bk.1 q;have e:todo=[]:=List.length_eq_zero_iff.1 (by omega);subst e;exact⟨I.len,I.done⟩
   ·have hz:∀ a,(List.replicate (ksF c l).length false).getD a false=false:=by
     intro a;rw[List.getD,List.getElem?_replicate]
     split <;> rfl
    rw[hRl];refine⟨List.length_replicate ..,fun a ha=>?_,fun a ha=>?_,fun a b ha _=>?_,fun a ha=>.inr ((htd a).2 ha),?_⟩
    ·dsimp only at ha;rw[hz] at ha;cases ha
    ·have:=(htd a).1 ha;obtain⟨i,m,e⟩:=this;obtain⟨b,hb1,hb2⟩:=xK (c:=c) (hd i m);rw[hb1] at e;cases e;exact⟨hb2,.base ⟨i,m,hb1⟩⟩
    ·dsimp only at ha;rw[hz] at ha;cases ha
    ·dsimp only;rw[htl];have:((ksF c l).length-cntT (List.replicate (ksF c l).length false))*257<=(ksF c l).length*257:=Nat.mul_le_mul_right _ (Nat.sub_le _ _);omega
   ·rintro bs ⟨hbl,hbs⟩;have hosl:(osN c l).length=l.length:=List.length_map ..;refine aA (fun s=>s.2<=l.length/\s.1=ub c l bs s.2) (fun s=>l.length-s.2) (fun s=>s=ub c l bs l.length) ?_ ⟨Nat.zero_le _,rfl⟩ (fun _ e=>e ▸ h r bs hr hbs);rintro k ⟨out,i⟩ nx ⟨hi,ho⟩ hnx hk;dsimp only at hi ho;refine⟨fun q=>?_,fun q=>hk _ ?_⟩
    ·have q:i<l.length:=hosl ▸ aO.1 q;obtain⟨a,ha1,ha2⟩:=xK (c:=c) q
     have hol:out.length<=i:=by
      rw[ho];unfold ub;exact Nat.le_trans (List.length_filter_le _ _) (by rw[List.length_range];exact Nat.le_refl _)
     have hsucc:ub c l bs (i+1)=ub c l bs i++if bs.getD a false=true then [i] else []:=by
      unfold ub;rw[Ek]
      have:(osN c l).getD i 0=a:=by rw[List.getD,ha1];rfl
      rw[this]
     obtain⟨v,hv⟩:=av (l:=bs) (i:=a) (by rw[hbl];exact ha2);have hva:=H5 hv;refine dG (fun s=>s=ub c l bs (i+1)) (fun k2 hk2=>⟨a,ha1,by rw[hRl];exact ha2,v,hv,fun e=>⟨by rw[List.length_singleton];omega,hk2 _ ?_⟩,fun e=>hk2 _ ?_⟩) fun s hs=>⟨by omega,hnx _ ⟨q,hs⟩ (by dsimp only;omega)⟩
     ·rw[hsucc,hva,if_pos e,ho]
     ·rw[hsucc,hva,if_neg (by rw[e];decide),ho,List.append_nil]
    ·have q:l.length<=i:=hosl ▸ bk.1 q
     obtain rfl:i=l.length:=by omega
     exact ho
theorem C4 {c:Circ} (C:Cir c) {l:List Flt} (hl:ListOk c l) {ds:List Nat} (hd:∀ i∈ds,i<l.length) (hdl:ds.length<=65536) {K:List Nat×Nat->Prop}
  (h:∀ r bs,DomOk c (ksF c l) r->(∀ a,bs.getD a false=true↔Rch r (zX c l ds) a)->K (ub c l bs l.length,0)):bR c l (ds.map Int.ofNat) K :=
 By C hl (.inl ⟨ds,rfl,hd,hdl,h⟩)
def tr (x:CData):CData:=⟨x.inp,x.dffs,x.data0,x.data1,x.bus,false,x.port0,x.port1,x.port2,x.port3,x.gates,x.outs⟩
theorem E7 {x:CData} (h:CB x):CB (tr x):=⟨h.inp,h.dffs,h.data0,h.data1,h.port0,h.port1,h.port2,h.port3,h.gates,h.outs⟩
theorem Dg {x:CData} (hx:CB x) {K:Circ->Prop} (h:K (fR (tr x))):cg x K:=Br (E7 hx) h
theorem Fm {x:CData} (hm:x.mem=false):Cir (fR x):=by
 refine⟨Db hm,by rw[nN,hm];rfl,fun i y h=>?_⟩
 rcases DT hm h with⟨_,rfl⟩|⟨_,_,d,_,rfl⟩|⟨h1,_,g,hg⟩
 ·show (0:Nat)<=14;decide
 ·show (14:Nat)<=14;decide
 ·have hi:=ag h;have hn:(fR x).nodes.length=(cH x).length:=iU _;have q:=Am x.bus g (ks:=((cH x).take i).map Node.kind) (by rw[List.length_map,List.length_take];omega);rw[<- hg] at q;have:=q.kind;omega
theorem G0 (c:Circ) (k:Nat):ofN c [k]=(List.range c.nodes.length).filter fun i=>decide (kd c i=k):=by
 unfold ofN kd;congr 1;funext i;rw[Bool.eq_iff_iff];simp
end Go.Proofs.YtgiedjgdlckahaaGreatDoor
