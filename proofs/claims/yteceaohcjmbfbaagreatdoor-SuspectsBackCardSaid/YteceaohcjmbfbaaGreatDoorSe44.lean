/-
  C5, P7, P8, Ms, Lnz, S2: parts of the proof.
-/
import Derived.Test.YteceaohcjmbfbaaGreatDoorSe43
namespace Go.Proofs.YteceaohcjmbfbaaGreatDoor
open Go.Abs
set_option maxRecDepth 100000
set_option maxHeartbeats 8000000
def gD (p0:CData) (K:Circ->Prop):Prop :=
 an (α:=(List Node)) (fun k12=>av (S:=((List Node)×Nat)) (fun (v14,v15) nx17=>0<4/\(p0.inp%4)<256/\((!ltN (p0.inp%4) v15)=true->(v14.length+([(⟨0,([]:(List Nat)),0,0⟩:Node)]:(List Node)).length)*48<=2 ^ 47/\v15+1<2 ^ 63/\nx17 ((v14++([(⟨0,([]:(List Nat)),0,0⟩:Node)]:(List Node))),(v15+1)))/\((!ltN (p0.inp%4) v15)=false->k12 v14)) (([]:List Node),0)) (fun v10=>0<3/\(p0.dffs%3)<256/\an (α:=(List Node)) (fun k23=>av (S:=((List Node)×Nat)) (fun (v25,v26) nx28=>((ltN v26 (p0.dffs%3))=true->(v25.length+([(⟨14,([0]:(List Nat)),0,0⟩:Node)]:(List Node)).length)*48<=2 ^ 47/\v26+1<2 ^ 63/\nx28 ((v25++([(⟨14,([0]:(List Nat)),0,0⟩:Node)]:(List Node))),(v26+1)))/\((ltN v26 (p0.dffs%3))=false->k23 v25)) (v10,0)) (fun v21=>an (α:=(List Node)) (fun k34=>(p0.mem=true->(v21.length+([(⟨15,([]:(List Nat)),0,0⟩:Node),(⟨15,([]:(List Nat)),0,1⟩:Node)]:(List Node)).length)*48<=2 ^ 47/\k34 (v21++([(⟨15,([]:(List Nat)),0,0⟩:Node),(⟨15,([]:(List Nat)),0,1⟩:Node)]:(List Node))))/\(p0.mem=false->k34 v21)) (fun v32=>an (α:=(List Node)) (fun k40=>av (S:=((List Node)×Nat)) (fun (v42,v43) nx45=>an (α:=Bool) (fun k48=>((ltN v43 p0.gates.length)=true->k48 (ltN v43 8))/\((ltN v43 p0.gates.length)=false->k48 false)) (fun v46=>(v46=true->∃ x49,p0.gates[v43]?=some x49/\GOk x49/\0<v42.length/\v42.length<=1000/\(v42.length+([(gR p0.bus x49 (v42.map Node.kind))]:(List Node)).length)*48<=2 ^ 47/\v43+1<2 ^ 63/\nx45 ((v42++([(gR p0.bus x49 (v42.map Node.kind))]:(List Node))),(v43+1)))/\(v46=false->k40 v42))) (v32,0)) (fun v38=>an (α:=(List Node)) (fun k58=>av (S:=((List Node)×Nat)) (fun (v60,v61) nx63=>((ltN v61 (p0.dffs%3))=true->v10.length+v61<2 ^ 63/\v61<2/\(v61=0->p0.data0<256/\0<v38.length/\∃ x66,v60[(v10.length+v61)]?=some x66/\v61+1<2 ^ 63/\nx63 ((v60.set (v10.length+v61) { x66 with ins:=([(p0.data0%v38.length)]:(List Nat)) }),(v61+1)))/\(v61=1->p0.data1<256/\0<v38.length/\∃ x70,v60[(v10.length+v61)]?=some x70/\v61+1<2 ^ 63/\nx63 ((v60.set (v10.length+v61) { x70 with ins:=([(p0.data1%v38.length)]:(List Nat)) }),(v61+1))))/\((ltN v61 (p0.dffs%3))=false->k58 v60)) (v38,0)) (fun v56=>(p0.mem=true->p0.port0<256/\0<v38.length/\p0.port1<256/\0<v38.length/\p0.port2<256/\0<v38.length/\p0.port3<256/\0<v38.length/\an (α:=(List ByteArray)) (fun k82=>av (S:=((List ByteArray)×Nat)) (fun (v84,v85) nx88=>((ltN v85 v38.length)=true->gx v85 (fun r89=>(v84.length+([r89]:(List ByteArray)).length)*16<=2 ^ 47/\v85+1<2 ^ 63/\nx88 ((v84++([r89]:(List ByteArray))),(v85+1))))/\((ltN v85 v38.length)=false->k82 v84)) (([]:List ByteArray),0)) (fun v79=>an (α:=(List Nat)) (fun k99=>av (S:=((List Nat)×Nat)) (fun (v101,v102) nx106=>an (α:=Bool) (fun k111=>((ltN v102 p0.outs.length)=true->k111 (ltN v102 3))/\((ltN v102 p0.outs.length)=false->k111 false)) (fun v107=>(v107=true->∃ x112,p0.outs[v102]?=some x112/\x112<256/\0<v38.length/\(v101.length+([(x112%v38.length)]:(List Nat)).length)*8<=2 ^ 47/\v102+1<2 ^ 63/\nx106 ((v101++([(x112%v38.length)]:(List Nat))),(v102+1)))/\(v107=false->k99 v101))) (([]:List Nat),0)) (fun v95=>1<=v38.length/\v38.length<2 ^ 63/\(v95.length+([(v38.length-1)]:(List Nat)).length)*8<=2 ^ 47/\1=([(p0.port0%v38.length)]:(List Nat)).length/\2=([(p0.port1%v38.length),(p0.port2%v38.length)]:(List Nat)).length/\1=([(p0.port0%v38.length)]:(List Nat)).length/\2=([(p0.port1%v38.length),(p0.port2%v38.length)]:(List Nat)).length/\K (⟨v56,v79,[(⟨([(p0.port0%v38.length)]:(List Nat)),([(p0.port1%v38.length),(p0.port2%v38.length)]:(List Nat)),(p0.port3%v38.length)⟩:Memo)],(v95++([(v38.length-1)]:(List Nat)))⟩:Circ))))/\(p0.mem=false->an (α:=(List ByteArray)) (fun k127=>av (S:=((List ByteArray)×Nat)) (fun (v129,v130) nx133=>((ltN v130 v38.length)=true->gx v130 (fun r134=>(v129.length+([r134]:(List ByteArray)).length)*16<=2 ^ 47/\v130+1<2 ^ 63/\nx133 ((v129++([r134]:(List ByteArray))),(v130+1))))/\((ltN v130 v38.length)=false->k127 v129)) (([]:List ByteArray),0)) (fun v124=>an (α:=(List Nat)) (fun k144=>av (S:=((List Nat)×Nat)) (fun (v146,v147) nx151=>an (α:=Bool) (fun k156=>((ltN v147 p0.outs.length)=true->k156 (ltN v147 3))/\((ltN v147 p0.outs.length)=false->k156 false)) (fun v152=>(v152=true->∃ x157,p0.outs[v147]?=some x157/\x157<256/\0<v38.length/\(v146.length+([(x157%v38.length)]:(List Nat)).length)*8<=2 ^ 47/\v147+1<2 ^ 63/\nx151 ((v146++([(x157%v38.length)]:(List Nat))),(v147+1)))/\(v152=false->k144 v146))) (([]:List Nat),0)) (fun v140=>1<=v38.length/\v38.length<2 ^ 63/\(v140.length+([(v38.length-1)]:(List Nat)).length)*8<=2 ^ 47/\K (⟨v56,v124,([]:List Memo),(v140++([(v38.length-1)]:(List Nat)))⟩:Circ)))))))))
theorem sa {p0:CData}{K:Circ->Prop} (hm:gD p0 K) {h0:Heap} (hB:HasB vars h0):∃ r,K r/\CallD Tryz.prog NG 48 ⟨[bD p0]⟩ h0 (aA r) h0:=by
 unfold gD at hm
 refine fw Tryz.func48 hB (enc:=aA) (fun r=>oA _) fun O=>?_;conv=>whnf
 refine gX ?_
 refine fz ?_;refine gH ?_
 refine O.new (ai (l:=[nS,nS,nS,nS]) rfl rfl rfl) fun g1 h O=>?_;refine gH ?_
 refine gX ?_
 have O:=O.aG (.cells (flatC ((([]:List Node)).map al)) false)
 have O:=O.aG (.cells (flatC ((([]:List ByteArray)).map Value.string)) false)
 have O:=O.aG (.cells (flatC ((([]:List Memo)).map ax)) false)
 have O:=O.aG (.cells (flatC ((([]:List Nat)).map i64)) false)
 refine O.new (ai (l:=[nS,nS,nS,nS]) rfl rfl rfl) fun g3 h O=>?_;refine gH ?_
 refine jn (σ:=(List Node)×Option Nat) hm 178 [1,2,3] (fun s=>s.1) (fun (v10,a9) h=>(a9=none->v10=[])/\Own vars h0 [(sC g1 [nS,nS,nS,nS]),(sC g3 [(ah 4 a9 (v10.map al)),(ah 1 none (([]:List ByteArray).map Value.string)),(ah 3 none (([]:List Memo).map ax)),(ah 1 none (([]:List Nat).map i64))]),(a9,.cells (flatC (v10.map al)) false),(none,.cells (flatC (([]:List ByteArray).map Value.string)) false),(none,.cells (flatC (([]:List Memo).map ax)) false),(none,.cells (flatC (([]:List Nat).map i64)) false)] h) (fun (v10,a9)=>[]) (fun hm=>?_) ?_
 ·refine gX ?_
  refine lw 178 [1,2,3] (σ:=((List Node)×Nat)×Option Nat) (fun s=>s.1) (fun ((v14,v15),a13) h=>(a13=none->v14=[])/\Own vars h0 [(sC g1 [nS,nS,nS,nS]),(sC g3 [(ah 4 a13 (v14.map al)),(ah 1 none (([]:List ByteArray).map Value.string)),(ah 3 none (([]:List Memo).map ax)),(ah 1 none (([]:List Nat).map i64))]),(a13,.cells (flatC (v14.map al)) false),(none,.cells (flatC (([]:List ByteArray).map Value.string)) false),(none,.cells (flatC (([]:List Memo).map ax)) false),(none,.cells (flatC (([]:List Nat).map i64)) false)] h) (fun ((v14,v15),a13)=>[(4,(i64 v15))]) ((([]:List Node),0),none) hm ⟨(fun _=>rfl),(O.sel [5,0,4,3,2,1] (by decide))⟩ ?_
  clear hm;rintro⟨⟨v14,v15⟩,a13⟩ nx17 base h hm ⟨ha16,O⟩
  refine gX ?_
  refine ko hm fun hm=>?_;refine gH ?_
  refine aCv hm wI8 fun hm=>?_;refine gX ?_
  refine br hm (fun hm=>?_) fun hm=>?_
  ·refine gX ?_
   refine NewG.frzW rfl (VLe.els (s:=4) (es':=([(⟨0,([]:(List Nat)),0,0⟩:Node)]).map al) rfl (cb (enc:=al) (s:=4) (fun _=>rfl) _) (LLe.cons (VLe.refl _ _) (LLe.cons (VLe.nil _ _) (LLe.cons (VLe.refl _ _) (LLe.cons (VLe.refl _ _) (LLe.nil _)))))) ?_;refine gH ?_
   refine O.apL (enc:=al) (l:=v14) (new:=([(⟨0,([]:(List Nat)),0,0⟩:Node)]:(List Node))) 4 (.tail _ (.tail _ (.head _))) ha16 hm fun a18 h ha19 O hm=>?_;refine gH ?_
   refine O.stC 1 (.tail _ (.head _)) [(ah 4 a18 ((v14++([(⟨0,([]:(List Nat)),0,0⟩:Node)]:(List Node))).map al)),(ah 1 none (([]:List ByteArray).map Value.string)),(ah 3 none (([]:List Memo).map ax)),(ah 1 none (([]:List Nat).map i64))] fun h O=>?_;refine gX ?_
   refine aF hm fun hm=>?_;refine gH ?_
   exact jx (((v14++([(⟨0,([]:(List Nat)),0,0⟩:Node)]:(List Node))),(v15+1)),a18) hm ⟨ha19,O⟩
  ·refine gX ?_
   exact jx (v14,a13) hm ⟨ha16,O⟩
 ·clear hm;rintro⟨v10,a9⟩ base h hm ⟨ha11,O⟩
  refine gX ?_
  refine ko hm fun hm=>?_;refine gH ?_
  refine aCv hm wI8 fun hm=>?_;refine gH ?_
  refine jn (σ:=(List Node)×Option Nat) hm 178 [1,2,3,5,6] (fun s=>s.1) (fun (v21,a20) h=>(a20=none->v21=[])/\Own vars h0 [(sC g1 [nS,nS,nS,nS]),(sC g3 [(ah 4 a20 (v21.map al)),(ah 1 none (([]:List ByteArray).map Value.string)),(ah 3 none (([]:List Memo).map ax)),(ah 1 none (([]:List Nat).map i64))]),(a20,.cells (flatC (v21.map al)) false),(none,.cells (flatC (([]:List ByteArray).map Value.string)) false),(none,.cells (flatC (([]:List Memo).map ax)) false),(none,.cells (flatC (([]:List Nat).map i64)) false)] h) (fun (v21,a20)=>[]) (fun hm=>?_) ?_
  ·refine gX ?_
   refine lw 178 [1,2,3,5,6] (σ:=((List Node)×Nat)×Option Nat) (fun s=>s.1) (fun ((v25,v26),a24) h=>(a24=none->v25=[])/\Own vars h0 [(sC g1 [nS,nS,nS,nS]),(sC g3 [(ah 4 a24 (v25.map al)),(ah 1 none (([]:List ByteArray).map Value.string)),(ah 3 none (([]:List Memo).map ax)),(ah 1 none (([]:List Nat).map i64))]),(a24,.cells (flatC (v25.map al)) false),(none,.cells (flatC (([]:List ByteArray).map Value.string)) false),(none,.cells (flatC (([]:List Memo).map ax)) false),(none,.cells (flatC (([]:List Nat).map i64)) false)] h) (fun ((v25,v26),a24)=>[(7,(i64 v26))]) ((v10,0),a9) hm ⟨ha11,O⟩ ?_
   clear hm;rintro⟨⟨v25,v26⟩,a24⟩ nx28 base h hm ⟨ha27,O⟩
   refine gX ?_
   refine br hm (fun hm=>?_) fun hm=>?_
   ·refine gX ?_
    refine fz ?_;refine gH ?_
    refine fz ?_;refine gH ?_
    refine O.apL (enc:=al) (l:=v25) (new:=([(⟨14,([0]:(List Nat)),0,0⟩:Node)]:(List Node))) 4 (.tail _ (.tail _ (.head _))) ha27 hm fun a29 h ha30 O hm=>?_;refine gH ?_
    refine O.stC 1 (.tail _ (.head _)) [(ah 4 a29 ((v25++([(⟨14,([0]:(List Nat)),0,0⟩:Node)]:(List Node))).map al)),(ah 1 none (([]:List ByteArray).map Value.string)),(ah 3 none (([]:List Memo).map ax)),(ah 1 none (([]:List Nat).map i64))] fun h O=>?_;refine gX ?_
    refine aF hm fun hm=>?_;refine gH ?_
    exact jx (((v25++([(⟨14,([0]:(List Nat)),0,0⟩:Node)]:(List Node))),(v26+1)),a29) hm ⟨ha30,O⟩
   ·refine gX ?_
    exact jx (v25,a24) hm ⟨ha27,O⟩
  ·clear hm;rintro⟨v21,a20⟩ base h hm ⟨ha22,O⟩
   conv=>whnf
   refine jn (σ:=(List Node)×Option Nat) hm 178 [1,2,3,5,6] (fun s=>s.1) (fun (v32,a31) h=>(a31=none->v32=[])/\Own vars h0 [(sC g1 [nS,nS,nS,nS]),(sC g3 [(ah 4 a31 (v32.map al)),(ah 1 none (([]:List ByteArray).map Value.string)),(ah 3 none (([]:List Memo).map ax)),(ah 1 none (([]:List Nat).map i64))]),(a31,.cells (flatC (v32.map al)) false),(none,.cells (flatC (([]:List ByteArray).map Value.string)) false),(none,.cells (flatC (([]:List Memo).map ax)) false),(none,.cells (flatC (([]:List Nat).map i64)) false)] h) (fun (v32,a31)=>[]) (fun hm=>?_) ?_
   ·refine gX ?_
    refine br hm (fun hm=>?_) fun hm=>?_
    ·refine gX ?_
     refine NewG.frzW rfl (VLe.els (s:=4) (es':=([(⟨15,([]:(List Nat)),0,0⟩:Node),(⟨15,([]:(List Nat)),0,1⟩:Node)]).map al) rfl (cb (enc:=al) (s:=4) (fun _=>rfl) _) (LLe.cons (VLe.refl _ _) (LLe.cons (VLe.nil _ _) (LLe.cons (VLe.refl _ _) (LLe.cons (VLe.refl _ _) (LLe.cons (VLe.refl _ _) (LLe.cons (VLe.nil _ _) (LLe.cons (VLe.refl _ _) (LLe.cons (VLe.refl _ _) (LLe.nil _)))))))))) ?_;refine gH ?_
     refine O.apL (enc:=al) (l:=v21) (new:=([(⟨15,([]:(List Nat)),0,0⟩:Node),(⟨15,([]:(List Nat)),0,1⟩:Node)]:(List Node))) 4 (.tail _ (.tail _ (.head _))) ha22 hm fun a35 h ha36 O hm=>?_;refine gH ?_
     refine O.stC 1 (.tail _ (.head _)) [(ah 4 a35 ((v21++([(⟨15,([]:(List Nat)),0,0⟩:Node),(⟨15,([]:(List Nat)),0,1⟩:Node)]:(List Node))).map al)),(ah 1 none (([]:List ByteArray).map Value.string)),(ah 3 none (([]:List Memo).map ax)),(ah 1 none (([]:List Nat).map i64))] fun h O=>?_;refine gH ?_
     exact jx ((v21++([(⟨15,([]:(List Nat)),0,0⟩:Node),(⟨15,([]:(List Nat)),0,1⟩:Node)]:(List Node))),a35) hm ⟨ha36,O⟩
    ·refine gX ?_
     exact jx (v21,a20) hm ⟨ha22,O⟩
   ·clear hm;rintro⟨v32,a31⟩ base h hm ⟨ha33,O⟩
    conv=>whnf
    refine jn (σ:=(List Node)×Option Nat) hm 178 [1,2,3,5,6] (fun s=>s.1) (fun (v38,a37) h=>(a37=none->v38=[])/\Own vars h0 [(sC g1 [nS,nS,nS,nS]),(sC g3 [(ah 4 a37 (v38.map al)),(ah 1 none (([]:List ByteArray).map Value.string)),(ah 3 none (([]:List Memo).map ax)),(ah 1 none (([]:List Nat).map i64))]),(a37,.cells (flatC (v38.map al)) false),(none,.cells (flatC (([]:List ByteArray).map Value.string)) false),(none,.cells (flatC (([]:List Memo).map ax)) false),(none,.cells (flatC (([]:List Nat).map i64)) false)] h) (fun (v38,a37)=>[]) (fun hm=>?_) ?_
    ·refine gX ?_
     refine lw 178 [1,2,3,5,6] (σ:=((List Node)×Nat)×Option Nat) (fun s=>s.1) (fun ((v42,v43),a41) h=>(a41=none->v42=[])/\Own vars h0 [(sC g1 [nS,nS,nS,nS]),(sC g3 [(ah 4 a41 (v42.map al)),(ah 1 none (([]:List ByteArray).map Value.string)),(ah 3 none (([]:List Memo).map ax)),(ah 1 none (([]:List Nat).map i64))]),(a41,.cells (flatC (v42.map al)) false),(none,.cells (flatC (([]:List ByteArray).map Value.string)) false),(none,.cells (flatC (([]:List Memo).map ax)) false),(none,.cells (flatC (([]:List Nat).map i64)) false)] h) (fun ((v42,v43),a41)=>[(8,(i64 v43))]) ((v32,0),a31) hm ⟨ha33,O⟩ ?_
     clear hm;rintro⟨⟨v42,v43⟩,a41⟩ nx45 base h hm ⟨ha44,O⟩
     conv=>whnf
     apply Cs;conv=>whnf
     refine jn hm 178 [1,2,3,5,6,8] (fun s=>s) (fun v46 h=>(a41=none->v42=[])/\Own vars h0 [(sC g1 [nS,nS,nS,nS]),(sC g3 [(ah 4 a41 (v42.map al)),(ah 1 none (([]:List ByteArray).map Value.string)),(ah 3 none (([]:List Memo).map ax)),(ah 1 none (([]:List Nat).map i64))]),(a41,.cells (flatC (v42.map al)) false),(none,.cells (flatC (([]:List ByteArray).map Value.string)) false),(none,.cells (flatC (([]:List Memo).map ax)) false),(none,.cells (flatC (([]:List Nat).map i64)) false)] h) (fun v46=>[(63,(.bool v46))]) (fun hm=>?_) ?_
     ·refine gX ?_
      refine br hm (fun hm=>?_) fun hm=>?_
      ·refine gX ?_
       exact jx (ltN v43 8) hm ⟨ha44,O⟩
      ·refine gX ?_
       exact jx false hm ⟨ha44,O⟩
     ·clear hm;rintro v46 base h hm ⟨ha47,O⟩
      refine gX ?_
      refine br hm (fun hm=>?_) fun hm=>?_
      ·refine gX ?_
       first|refine⟨.inr (.inr (ae rfl (O.at (.tail _ (.head _))) rfl rfl)),?_⟩|refine⟨.inr (.inl (by kernel_rfl)),?_⟩
       refine gX ?_
       refine dF ?_
       refine gX ?_
       refine dF ?_
       refine gX ?_
       refine atF hm fun x49 hx49 hm=>?_;refine gH ?_
       refine dF ?_
       refine gX ?_
       first|refine⟨.inr (.inr (ae rfl (O.at (.tail _ (.head _))) rfl rfl)),?_⟩|refine⟨.inr (.inl (by kernel_rfl)),?_⟩
       refine gX ?_
       obtain⟨hgk,hn1,hn2,hm⟩:=hm
       have h9:=hm
       obtain⟨g50,rfl⟩:=zF ha47 hn1
       replace hm:=h9
       refine⟨_,_,Ap (x:=p0) hgk hn1 hn2 O.has (O.at (.tail _ (.tail _ (.head _)))),?_⟩;refine gH ?_
       refine⟨.inl (Ext.refl _),?_⟩;refine gH ?_
       refine O.bE (l:=([(gR p0.bus x49 (v42.map Node.kind))]:(List Node))) (enc:=al) (s:=4) (z:=(.agg ⟨[(n8 0),nS,(i64 0),(i64 0)]⟩)) rfl rfl (by kernel_rfl) (by kernel_rfl) rfl rfl rfl rfl (fun _=>rfl) fun g51 h O=>?_;refine gH ?_
       refine O.bQ (enc:=al) (l:=v42) (new:=([(gR p0.bus x49 (v42.map Node.kind))]:(List Node))) (s:=4) (b:=48) (.tail _ (.tail _ (.tail _ (.head _)))) dq rfl rfl rfl rfl rfl rfl rfl rfl (YOk.own (O.at (.head _)) rfl (fun _=>rfl) rfl) (fun _=>rfl) (fun _=>rfl) (by decide) hm.1 fun a53 h ha54 O=>?_;refine gH ?_
       replace hm:=hm.2
       refine O.stC 1 (.tail _ (.tail _ (.head _))) [(ah 4 a53 ((v42++([(gR p0.bus x49 (v42.map Node.kind))]:(List Node))).map al)),(ah 1 none (([]:List ByteArray).map Value.string)),(ah 3 none (([]:List Memo).map ax)),(ah 1 none (([]:List Nat).map i64))] fun h O=>?_;refine gH ?_
       refine gX ?_
       refine aF hm fun hm=>?_;refine gH ?_
       exact jx (((v42++([(gR p0.bus x49 (v42.map Node.kind))]:(List Node))),(v43+1)),a53) hm ⟨ha54,(O.sel [1,2,3,4,5,6] (by decide))⟩
      ·refine gX ?_
       exact jx (v42,a41) hm ⟨ha47,O⟩
    ·clear hm;rintro⟨v38,a37⟩ base h hm ⟨ha39,O⟩
     conv=>whnf
     apply Cs;conv=>whnf
     apply Cs;refine gH ?_
     refine jn (σ:=(List Node)×Option Nat) hm 178 [1,2,3,9] (fun s=>s.1) (fun (v56,a55) h=>(a55=none->v56=[])/\Own vars h0 [(sC g1 [nS,nS,nS,nS]),(sC g3 [(ah 4 a55 (v56.map al)),(ah 1 none (([]:List ByteArray).map Value.string)),(ah 3 none (([]:List Memo).map ax)),(ah 1 none (([]:List Nat).map i64))]),(a55,.cells (flatC (v56.map al)) false),(none,.cells (flatC (([]:List ByteArray).map Value.string)) false),(none,.cells (flatC (([]:List Memo).map ax)) false),(none,.cells (flatC (([]:List Nat).map i64)) false)] h) (fun (v56,a55)=>[]) (fun hm=>?_) ?_
     ·refine gX ?_
      refine lw 178 [1,2,3,5,6,9] (σ:=((List Node)×Nat)×Option Nat) (fun s=>s.1) (fun ((v60,v61),a59) h=>(a59=none->v60=[])/\Own vars h0 [(sC g1 [nS,nS,nS,nS]),(sC g3 [(ah 4 a59 (v60.map al)),(ah 1 none (([]:List ByteArray).map Value.string)),(ah 3 none (([]:List Memo).map ax)),(ah 1 none (([]:List Nat).map i64))]),(a59,.cells (flatC (v60.map al)) false),(none,.cells (flatC (([]:List ByteArray).map Value.string)) false),(none,.cells (flatC (([]:List Memo).map ax)) false),(none,.cells (flatC (([]:List Nat).map i64)) false)] h) (fun ((v60,v61),a59)=>[(10,(i64 v61))]) ((v38,0),a37) hm ⟨ha39,O⟩ ?_
      clear hm;rintro⟨⟨v60,v61⟩,a59⟩ nx63 base h hm ⟨ha62,O⟩
      refine gX ?_
      refine br hm (fun hm=>?_) fun hm=>?_
      ·refine gX ?_
       first|refine⟨.inr (.inr (ae rfl (O.at (.tail _ (.head _))) rfl rfl)),?_⟩|refine⟨.inr (.inl (by kernel_rfl)),?_⟩
       refine gX ?_
       refine aF hm fun hm=>?_;refine gH ?_
       have hq:v61=0\/v61=1:=by have:=hm.1;omega
       replace hm:=hm.2
       rcases hq with hq|hq
       ·replace hm:=hm.1 hq
        refine Bg (s:=1) (j:=v61) (q:=0) rfl rfl rfl rfl hq rfl rfl ?_;refine gH ?_
        refine aCv hm wI8 fun hm=>?_;refine gH ?_
        refine ko hm fun hm=>?_;refine gH ?_
        refine O.bE (l:=([(p0.data0%v38.length)]:(List Nat))) (enc:=i64) (s:=1) (z:=(i64 0)) rfl rfl (by kernel_rfl) (by kernel_rfl) rfl rfl rfl rfl (fun _=>rfl) fun g64 h O=>?_;refine gH ?_
        obtain⟨x66,hx66,hm⟩:=hm
        have h9:=hm
        obtain⟨g67,rfl⟩:=ee ha62 hx66
        replace hm:=h9
        refine cU (s:=4) (j:=(v10.length+v61)) rfl rfl rfl rfl (by rw[List.length_map];exact ak hx66) ?_;refine gH ?_
        refine O.store (n:=1) (cs':=(bI (flatC (v60.map al)) (0+(v10.length+v61)*4+1) [(.slice (some ⟨g64,0,none⟩) 1 1)])) (.tail _ (.tail _ (.tail _ (.head _)))) rfl rfl rfl rfl (zW (enc:=al) (s:=4) (k:=1) (n:=1) (fun _=>rfl) (ak hx66) (lbE rfl)) rfl rfl fun h O=>?_;refine gH ?_
        refine CodeS.ghost (cs2':=flatC ((v60.set (v10.length+v61) { x66 with ins:=([(p0.data0%v38.length)]:(List Nat)) }).map al)) O (.head _) (.tail _ (.tail _ (.tail _ (.head _)))) (t1:=100) (t2:=89) rfl rfl rfl rfl (fun h2 hq=>oI (enc:=al) (s:=4) (fun _=>rfl) hx66 (x:={ x66 with ins:=([(p0.data0%v38.length)]:(List Nat)) }) (k:=1) (v':=(ag 1 i64) ([(p0.data0%v38.length)]:(List Nat))) (lbE rfl) rfl (VLe.flM hq rfl (fun _=>rfl))) fun h O=>?_
        try rw[ln (enc:=al) (l:=v60) (j:=(v10.length+v61)) (x:={ x66 with ins:=([(p0.data0%v38.length)]:(List Nat)) })] at O
        refine gX ?_
        refine aF hm fun hm=>?_;refine gH ?_
        exact jx (((v60.set (v10.length+v61) { x66 with ins:=([(p0.data0%v38.length)]:(List Nat)) }),(v61+1)),(some g67)) hm ⟨dq,(O.sel [1,2,3,4,5,6] (by decide))⟩
       ·replace hm:=hm.2 hq
        refine Bg (s:=1) (j:=v61) (q:=1) rfl rfl rfl rfl hq rfl rfl ?_;refine gH ?_
        refine aCv hm wI8 fun hm=>?_;refine gH ?_
        refine ko hm fun hm=>?_;refine gH ?_
        refine O.bE (l:=([(p0.data1%v38.length)]:(List Nat))) (enc:=i64) (s:=1) (z:=(i64 0)) rfl rfl (by kernel_rfl) (by kernel_rfl) rfl rfl rfl rfl (fun _=>rfl) fun g68 h O=>?_;refine gH ?_
        obtain⟨x70,hx70,hm⟩:=hm
        have h9:=hm
        obtain⟨g71,rfl⟩:=ee ha62 hx70
        replace hm:=h9
        refine cU (s:=4) (j:=(v10.length+v61)) rfl rfl rfl rfl (by rw[List.length_map];exact ak hx70) ?_;refine gH ?_
        refine O.store (n:=1) (cs':=(bI (flatC (v60.map al)) (0+(v10.length+v61)*4+1) [(.slice (some ⟨g68,0,none⟩) 1 1)])) (.tail _ (.tail _ (.tail _ (.head _)))) rfl rfl rfl rfl (zW (enc:=al) (s:=4) (k:=1) (n:=1) (fun _=>rfl) (ak hx70) (lbE rfl)) rfl rfl fun h O=>?_;refine gH ?_
        refine CodeS.ghost (cs2':=flatC ((v60.set (v10.length+v61) { x70 with ins:=([(p0.data1%v38.length)]:(List Nat)) }).map al)) O (.head _) (.tail _ (.tail _ (.tail _ (.head _)))) (t1:=100) (t2:=89) rfl rfl rfl rfl (fun h2 hq=>oI (enc:=al) (s:=4) (fun _=>rfl) hx70 (x:={ x70 with ins:=([(p0.data1%v38.length)]:(List Nat)) }) (k:=1) (v':=(ag 1 i64) ([(p0.data1%v38.length)]:(List Nat))) (lbE rfl) rfl (VLe.flM hq rfl (fun _=>rfl))) fun h O=>?_
        try rw[ln (enc:=al) (l:=v60) (j:=(v10.length+v61)) (x:={ x70 with ins:=([(p0.data1%v38.length)]:(List Nat)) })] at O
        refine gX ?_
        refine aF hm fun hm=>?_;refine gH ?_
        exact jx (((v60.set (v10.length+v61) { x70 with ins:=([(p0.data1%v38.length)]:(List Nat)) }),(v61+1)),(some g71)) hm ⟨dq,(O.sel [1,2,3,4,5,6] (by decide))⟩
      ·refine gX ?_
       exact jx (v60,a59) hm ⟨ha62,O⟩
     ·clear hm;rintro⟨v56,a55⟩ base h hm ⟨ha57,O⟩
      refine gX ?_
      refine br hm (fun hm=>?_) fun hm=>?_
      ·refine gX ?_
       refine tp rfl ?_;refine gH ?_
       refine aCv hm wI8 fun hm=>?_;refine gH ?_
       refine ko hm fun hm=>?_;refine gH ?_
       refine O.bE (l:=([(p0.port0%v38.length)]:(List Nat))) (enc:=i64) (s:=1) (z:=(i64 0)) rfl rfl (by kernel_rfl) (by kernel_rfl) rfl rfl rfl rfl (fun _=>rfl) fun g72 h O=>?_;refine gH ?_
       refine tp rfl ?_;refine gH ?_
       refine aCv hm wI8 fun hm=>?_;refine gH ?_
       refine ko hm fun hm=>?_;refine gH ?_
       refine tp rfl ?_;refine gH ?_
       refine aCv hm wI8 fun hm=>?_;refine gH ?_
       refine ko hm fun hm=>?_;refine gH ?_
       refine O.bE (l:=([(p0.port1%v38.length),(p0.port2%v38.length)]:(List Nat))) (enc:=i64) (s:=1) (z:=(i64 0)) rfl rfl (by kernel_rfl) (by kernel_rfl) rfl rfl rfl rfl (fun _=>rfl) fun g74 h O=>?_;refine gH ?_
       refine tp rfl ?_;refine gH ?_
       refine aCv hm wI8 fun hm=>?_;refine gH ?_
       refine ko hm fun hm=>?_;refine gH ?_
       refine O.bB (mB (vs:=[(.agg ⟨[(.slice (some ⟨g72,0,none⟩) 1 1),(.slice (some ⟨g74,0,none⟩) 2 2),(i64 (p0.port3%v38.length))]⟩)]) (s:=3) (z:=(.agg ⟨[nS,nS,(i64 0)]⟩)) rfl rfl (by kernel_rfl) (by kernel_rfl) rfl rfl rfl rfl (by intro e he;simp only[List.mem_cons,List.not_mem_nil,or_false] at he;rcases he with rfl <;> rfl)) fun g76 h O=>?_;refine gH ?_
       refine O.stC 1 (.tail _ (.tail _ (.tail _ (.tail _ (.head _))))) [(ah 4 a55 (v56.map al)),(ah 1 none (([]:List ByteArray).map Value.string)),(.slice (some ⟨g76,0,none⟩) 1 1),(ah 1 none (([]:List Nat).map i64))] fun h O=>?_;refine gH ?_
       refine jn (σ:=(List ByteArray)×Option Nat) hm 178 [1,2,3,9] (fun s=>s.1) (fun (v79,a78) h=>(a55=none->v56=[])/\(a78=none->v79=[])/\Own vars h0 [(sC g1 [nS,nS,nS,nS]),(sC g3 [(ah 4 a55 (v56.map al)),(ah 1 a78 (v79.map Value.string)),(.slice (some ⟨g76,0,none⟩) 1 1),(ah 1 none (([]:List Nat).map i64))]),(a55,.cells (flatC (v56.map al)) false),(a78,.cells (flatC (v79.map Value.string)) false),(sC g76 [(.slice (some ⟨g72,0,none⟩) 1 1),(.slice (some ⟨g74,0,none⟩) 2 2),(i64 (p0.port3%v38.length))]),(sC g72 (flatC (([(p0.port0%v38.length)]:(List Nat)).map i64))),(sC g74 (flatC (([(p0.port1%v38.length),(p0.port2%v38.length)]:(List Nat)).map i64))),(none,.cells (flatC (([]:List Nat).map i64)) false)] h) (fun (v79,a78)=>[]) (fun hm=>?_) ?_
       ·refine gX ?_
        refine lw 178 [1,2,3,9] (σ:=((List ByteArray)×Nat)×Option Nat) (fun s=>s.1) (fun ((v84,v85),a83) h=>(a55=none->v56=[])/\(a83=none->v84=[])/\Own vars h0 [(sC g1 [nS,nS,nS,nS]),(sC g3 [(ah 4 a55 (v56.map al)),(ah 1 a83 (v84.map Value.string)),(.slice (some ⟨g76,0,none⟩) 1 1),(ah 1 none (([]:List Nat).map i64))]),(a55,.cells (flatC (v56.map al)) false),(a83,.cells (flatC (v84.map Value.string)) false),(sC g76 [(.slice (some ⟨g72,0,none⟩) 1 1),(.slice (some ⟨g74,0,none⟩) 2 2),(i64 (p0.port3%v38.length))]),(sC g72 (flatC (([(p0.port0%v38.length)]:(List Nat)).map i64))),(sC g74 (flatC (([(p0.port1%v38.length),(p0.port2%v38.length)]:(List Nat)).map i64))),(none,.cells (flatC (([]:List Nat).map i64)) false)] h) (fun ((v84,v85),a83)=>[(11,(i64 v85))]) ((([]:List ByteArray),0),none) hm ⟨ha57,(fun _=>rfl),(O.sel [3,4,5,6,0,2,1,8] (by decide))⟩ ?_
        clear hm;rintro⟨⟨v84,v85⟩,a83⟩ nx88 base h hm ⟨ha86,ha87,O⟩
        refine gX ?_
        refine br hm (fun hm=>?_) fun hm=>?_
        ·refine gX ?_
         first|refine⟨.inr (.inr (ae rfl (O.at (.tail _ (.head _))) rfl rfl)),?_⟩|refine⟨.inr (.inl (by kernel_rfl)),?_⟩
         refine gX ?_
         refine ca (kn hm O.has) fun r89 hm=>?_;refine gH ?_
         refine⟨.inl (Ext.refl _),?_⟩;refine gH ?_
         refine O.bE (l:=([r89]:(List ByteArray))) (enc:=Value.string) (s:=1) (z:=(.string (⟨#[]⟩:ByteArray))) rfl rfl (by kernel_rfl) (by kernel_rfl) rfl rfl rfl rfl (fun _=>rfl) fun g90 h O=>?_;refine gH ?_
         refine O.bQ (enc:=Value.string) (l:=v84) (new:=([r89]:(List ByteArray))) (s:=1) (b:=16) (.tail _ (.tail _ (.tail _ (.tail _ (.head _))))) ha87 rfl rfl rfl rfl rfl rfl rfl rfl (YOk.own (O.at (.head _)) rfl (fun _=>rfl) rfl) (fun _=>rfl) (fun _=>rfl) (by decide) hm.1 fun a92 h ha93 O=>?_;refine gH ?_
         replace hm:=hm.2
         refine O.stC 1 (.tail _ (.tail _ (.head _))) [(ah 4 a55 (v56.map al)),(ah 1 a92 ((v84++([r89]:(List ByteArray))).map Value.string)),(.slice (some ⟨g76,0,none⟩) 1 1),(ah 1 none (([]:List Nat).map i64))] fun h O=>?_;refine gH ?_
         refine gX ?_
         refine aF hm fun hm=>?_;refine gH ?_
         exact jx (((v84++([r89]:(List ByteArray))),(v85+1)),a92) hm ⟨ha86,ha93,(O.sel [1,2,3,4,5,6,7,8] (by decide))⟩
        ·refine gX ?_
         exact jx (v84,a83) hm ⟨ha86,ha87,O⟩
       ·clear hm;rintro⟨v79,a78⟩ base h hm ⟨ha80,ha81,O⟩
        conv=>whnf
        refine jn (σ:=(List Nat)×Option Nat) hm 178 [2,3,9] (fun s=>s.1) (fun (v95,a94) h=>(a55=none->v56=[])/\(a78=none->v79=[])/\(a94=none->v95=[])/\Own vars h0 [(sC g1 [nS,nS,nS,nS]),(sC g3 [(ah 4 a55 (v56.map al)),(ah 1 a78 (v79.map Value.string)),(.slice (some ⟨g76,0,none⟩) 1 1),(ah 1 a94 (v95.map i64))]),(a55,.cells (flatC (v56.map al)) false),(a78,.cells (flatC (v79.map Value.string)) false),(sC g76 [(.slice (some ⟨g72,0,none⟩) 1 1),(.slice (some ⟨g74,0,none⟩) 2 2),(i64 (p0.port3%v38.length))]),(sC g72 (flatC (([(p0.port0%v38.length)]:(List Nat)).map i64))),(sC g74 (flatC (([(p0.port1%v38.length),(p0.port2%v38.length)]:(List Nat)).map i64))),(a94,.cells (flatC (v95.map i64)) false)] h) (fun (v95,a94)=>[]) (fun hm=>?_) ?_
        ·refine gX ?_
         refine lw 178 [1,2,3,9] (σ:=((List Nat)×Nat)×Option Nat) (fun s=>s.1) (fun ((v101,v102),a100) h=>(a55=none->v56=[])/\(a78=none->v79=[])/\(a100=none->v101=[])/\Own vars h0 [(sC g1 [nS,nS,nS,nS]),(sC g3 [(ah 4 a55 (v56.map al)),(ah 1 a78 (v79.map Value.string)),(.slice (some ⟨g76,0,none⟩) 1 1),(ah 1 a100 (v101.map i64))]),(a55,.cells (flatC (v56.map al)) false),(a78,.cells (flatC (v79.map Value.string)) false),(sC g76 [(.slice (some ⟨g72,0,none⟩) 1 1),(.slice (some ⟨g74,0,none⟩) 2 2),(i64 (p0.port3%v38.length))]),(sC g72 (flatC (([(p0.port0%v38.length)]:(List Nat)).map i64))),(sC g74 (flatC (([(p0.port1%v38.length),(p0.port2%v38.length)]:(List Nat)).map i64))),(a100,.cells (flatC (v101.map i64)) false)] h) (fun ((v101,v102),a100)=>[(12,(i64 v102))]) ((([]:List Nat),0),none) hm ⟨ha80,ha81,(fun _=>rfl),O⟩ ?_
         clear hm;rintro⟨⟨v101,v102⟩,a100⟩ nx106 base h hm ⟨ha103,ha104,ha105,O⟩
         conv=>whnf
         apply Cs;conv=>whnf
         refine jn hm 178 [1,2,3,9,12] (fun s=>s) (fun v107 h=>(a55=none->v56=[])/\(a78=none->v79=[])/\(a100=none->v101=[])/\Own vars h0 [(sC g1 [nS,nS,nS,nS]),(sC g3 [(ah 4 a55 (v56.map al)),(ah 1 a78 (v79.map Value.string)),(.slice (some ⟨g76,0,none⟩) 1 1),(ah 1 a100 (v101.map i64))]),(a55,.cells (flatC (v56.map al)) false),(a78,.cells (flatC (v79.map Value.string)) false),(sC g76 [(.slice (some ⟨g72,0,none⟩) 1 1),(.slice (some ⟨g74,0,none⟩) 2 2),(i64 (p0.port3%v38.length))]),(sC g72 (flatC (([(p0.port0%v38.length)]:(List Nat)).map i64))),(sC g74 (flatC (([(p0.port1%v38.length),(p0.port2%v38.length)]:(List Nat)).map i64))),(a100,.cells (flatC (v101.map i64)) false)] h) (fun v107=>[(154,(.bool v107))]) (fun hm=>?_) ?_
         ·refine gX ?_
          refine br hm (fun hm=>?_) fun hm=>?_
          ·refine gX ?_
           exact jx (ltN v102 3) hm ⟨ha103,ha104,ha105,O⟩
          ·refine gX ?_
           exact jx false hm ⟨ha103,ha104,ha105,O⟩
         ·clear hm;rintro v107 base h hm ⟨ha108,ha109,ha110,O⟩
          refine gX ?_
          refine br hm (fun hm=>?_) fun hm=>?_
          ·refine gX ?_
           first|refine⟨.inr (.inr (ae rfl (O.at (.tail _ (.head _))) rfl rfl)),?_⟩|refine⟨.inr (.inl (by kernel_rfl)),?_⟩
           refine gX ?_
           refine dF ?_
           refine gX ?_
           refine atF hm fun x112 hx112 hm=>?_;refine gH ?_
           refine aCv hm wI8 fun hm=>?_;refine gH ?_
           refine ko hm fun hm=>?_;refine gH ?_
           refine O.bE (l:=([(x112%v38.length)]:(List Nat))) (enc:=i64) (s:=1) (z:=(i64 0)) rfl rfl (by kernel_rfl) (by kernel_rfl) rfl rfl rfl rfl (fun _=>rfl) fun g113 h O=>?_;refine gH ?_
           refine O.bQ (enc:=i64) (l:=v101) (new:=([(x112%v38.length)]:(List Nat))) (s:=1) (b:=8) (.tail _ (.tail _ (.tail _ (.tail _ (.tail _ (.tail _ (.tail _ (.tail _ (.head _))))))))) ha110 rfl rfl rfl rfl rfl rfl rfl rfl (YOk.own (O.at (.head _)) rfl (fun _=>rfl) rfl) (fun _=>rfl) (fun _=>rfl) (by decide) hm.1 fun a115 h ha116 O=>?_;refine gH ?_
           replace hm:=hm.2
           refine O.stC 1 (.tail _ (.tail _ (.head _))) [(ah 4 a55 (v56.map al)),(ah 1 a78 (v79.map Value.string)),(.slice (some ⟨g76,0,none⟩) 1 1),(ah 1 a115 ((v101++([(x112%v38.length)]:(List Nat))).map i64))] fun h O=>?_;refine gH ?_
           refine gX ?_
           refine aF hm fun hm=>?_;refine gH ?_
           exact jx (((v101++([(x112%v38.length)]:(List Nat))),(v102+1)),a115) hm ⟨ha108,ha109,ha116,(O.sel [1,2,3,4,5,6,7,8] (by decide))⟩
          ·refine gX ?_
           exact jx (v101,a100) hm ⟨ha108,ha109,ha110,O⟩
        ·clear hm;rintro⟨v95,a94⟩ base h hm ⟨ha96,ha97,ha98,O⟩
         refine gX ?_
         refine rR hm fun hm=>?_;refine gH ?_
         refine fz ?_;refine gH ?_
         refine O.apL (enc:=i64) (l:=v95) (new:=([(v38.length-1)]:(List Nat))) 1 (.tail _ (.tail _ (.tail _ (.tail _ (.tail _ (.tail _ (.tail _ (.head _)))))))) ha98 hm fun a117 h ha118 O hm=>?_;refine gH ?_
         refine O.stC 1 (.tail _ (.head _)) [(ah 4 a55 (v56.map al)),(ah 1 a78 (v79.map Value.string)),(.slice (some ⟨g76,0,none⟩) 1 1),(ah 1 a117 ((v95++([(v38.length-1)]:(List Nat))).map i64))] fun h O=>?_;refine gX ?_
         refine ldA (O.at (.tail _ (.head _))) ?_;refine gH ?_
         refine O.stC 4 (.head _) [(ah 4 a55 (v56.map al)),(ah 1 a78 (v79.map Value.string)),(.slice (some ⟨g76,0,none⟩) 1 1),(ah 1 a117 ((v95++([(v38.length-1)]:(List Nat))).map i64))] fun h O=>?_;refine gX ?_
         refine⟨_,aD rfl rfl (O.at (.head _)) rfl rfl (lbE rfl) rfl,?_⟩;conv=>whnf
         obtain⟨hn119,hn120,hn121,hn122,hm⟩:=hm
         exact⟨(⟨v56,v79,[(⟨([(p0.port0%v38.length)]:(List Nat)),([(p0.port1%v38.length),(p0.port2%v38.length)]:(List Nat)),(p0.port3%v38.length)⟩:Memo)],(v95++([(v38.length-1)]:(List Nat)))⟩:Circ),hm,O.ext,fun h2 F=>VLe.agg (LLe.cons (O.eY F (Nat.le_refl _) (.tail _ (.tail _ (.head _))) ha96 (fun _=>rfl)) (LLe.cons (O.eY F (Nat.le_refl _) (.tail _ (.tail _ (.tail _ (.head _)))) ha97 (fun _=>rfl)) (LLe.cons (O.xb (es:=([(⟨([(p0.port0%v38.length)]:(List Nat)),([(p0.port1%v38.length),(p0.port2%v38.length)]:(List Nat)),(p0.port3%v38.length)⟩:Memo)]:(List Memo)).map ax) F (Nat.le_refl _) (.tail _ (.tail _ (.tail _ (.tail _ (.head _))))) rfl (cb (enc:=ax) (s:=3) (fun _=>rfl) _) rfl (LLe.cons (O.fY F (Nat.le_refl _) (.tail _ (.tail _ (.tail _ (.tail _ (.tail _ (.head _)))))) (fun _=>rfl) hn121) (LLe.cons (O.fY F (Nat.le_refl _) (.tail _ (.tail _ (.tail _ (.tail _ (.tail _ (.tail _ (.head _))))))) (fun _=>rfl) hn122) (LLe.cons (VLe.refl _ _) (LLe.nil _))))) (LLe.cons (O.eY F (Nat.le_refl _) (.tail _ (.tail _ (.tail _ (.tail _ (.tail _ (.tail _ (.tail _ (.head _)))))))) ha118 (fun _=>rfl)) (LLe.nil _)))))⟩
      ·apply Cs;conv=>whnf
       refine jn (σ:=(List ByteArray)×Option Nat) hm 178 [1,2,3,9] (fun s=>s.1) (fun (v124,a123) h=>(a55=none->v56=[])/\(a123=none->v124=[])/\Own vars h0 [(sC g1 [nS,nS,nS,nS]),(sC g3 [(ah 4 a55 (v56.map al)),(ah 1 a123 (v124.map Value.string)),(ah 3 none (([]:List Memo).map ax)),(ah 1 none (([]:List Nat).map i64))]),(a55,.cells (flatC (v56.map al)) false),(a123,.cells (flatC (v124.map Value.string)) false),(none,.cells (flatC (([]:List Memo).map ax)) false),(none,.cells (flatC (([]:List Nat).map i64)) false)] h) (fun (v124,a123)=>[]) (fun hm=>?_) ?_
       ·refine gX ?_
        refine lw 178 [1,2,3,9] (σ:=((List ByteArray)×Nat)×Option Nat) (fun s=>s.1) (fun ((v129,v130),a128) h=>(a55=none->v56=[])/\(a128=none->v129=[])/\Own vars h0 [(sC g1 [nS,nS,nS,nS]),(sC g3 [(ah 4 a55 (v56.map al)),(ah 1 a128 (v129.map Value.string)),(ah 3 none (([]:List Memo).map ax)),(ah 1 none (([]:List Nat).map i64))]),(a55,.cells (flatC (v56.map al)) false),(a128,.cells (flatC (v129.map Value.string)) false),(none,.cells (flatC (([]:List Memo).map ax)) false),(none,.cells (flatC (([]:List Nat).map i64)) false)] h) (fun ((v129,v130),a128)=>[(11,(i64 v130))]) ((([]:List ByteArray),0),none) hm ⟨ha57,(fun _=>rfl),O⟩ ?_
        clear hm;rintro⟨⟨v129,v130⟩,a128⟩ nx133 base h hm ⟨ha131,ha132,O⟩
        refine gX ?_
        refine br hm (fun hm=>?_) fun hm=>?_
        ·refine gX ?_
         first|refine⟨.inr (.inr (ae rfl (O.at (.tail _ (.head _))) rfl rfl)),?_⟩|refine⟨.inr (.inl (by kernel_rfl)),?_⟩
         refine gX ?_
         refine ca (kn hm O.has) fun r134 hm=>?_;refine gH ?_
         refine⟨.inl (Ext.refl _),?_⟩;refine gH ?_
         refine O.bE (l:=([r134]:(List ByteArray))) (enc:=Value.string) (s:=1) (z:=(.string (⟨#[]⟩:ByteArray))) rfl rfl (by kernel_rfl) (by kernel_rfl) rfl rfl rfl rfl (fun _=>rfl) fun g135 h O=>?_;refine gH ?_
         refine O.bQ (enc:=Value.string) (l:=v129) (new:=([r134]:(List ByteArray))) (s:=1) (b:=16) (.tail _ (.tail _ (.tail _ (.tail _ (.head _))))) ha132 rfl rfl rfl rfl rfl rfl rfl rfl (YOk.own (O.at (.head _)) rfl (fun _=>rfl) rfl) (fun _=>rfl) (fun _=>rfl) (by decide) hm.1 fun a137 h ha138 O=>?_;refine gH ?_
         replace hm:=hm.2
         refine O.stC 1 (.tail _ (.tail _ (.head _))) [(ah 4 a55 (v56.map al)),(ah 1 a137 ((v129++([r134]:(List ByteArray))).map Value.string)),(ah 3 none (([]:List Memo).map ax)),(ah 1 none (([]:List Nat).map i64))] fun h O=>?_;refine gH ?_
         refine gX ?_
         refine aF hm fun hm=>?_;refine gH ?_
         exact jx (((v129++([r134]:(List ByteArray))),(v130+1)),a137) hm ⟨ha131,ha138,(O.sel [1,2,3,4,5,6] (by decide))⟩
        ·refine gX ?_
         exact jx (v129,a128) hm ⟨ha131,ha132,O⟩
       ·clear hm;rintro⟨v124,a123⟩ base h hm ⟨ha125,ha126,O⟩
        conv=>whnf
        refine jn (σ:=(List Nat)×Option Nat) hm 178 [2,3,9] (fun s=>s.1) (fun (v140,a139) h=>(a55=none->v56=[])/\(a123=none->v124=[])/\(a139=none->v140=[])/\Own vars h0 [(sC g1 [nS,nS,nS,nS]),(sC g3 [(ah 4 a55 (v56.map al)),(ah 1 a123 (v124.map Value.string)),(ah 3 none (([]:List Memo).map ax)),(ah 1 a139 (v140.map i64))]),(a55,.cells (flatC (v56.map al)) false),(a123,.cells (flatC (v124.map Value.string)) false),(none,.cells (flatC (([]:List Memo).map ax)) false),(a139,.cells (flatC (v140.map i64)) false)] h) (fun (v140,a139)=>[]) (fun hm=>?_) ?_
        ·refine gX ?_
         refine lw 178 [1,2,3,9] (σ:=((List Nat)×Nat)×Option Nat) (fun s=>s.1) (fun ((v146,v147),a145) h=>(a55=none->v56=[])/\(a123=none->v124=[])/\(a145=none->v146=[])/\Own vars h0 [(sC g1 [nS,nS,nS,nS]),(sC g3 [(ah 4 a55 (v56.map al)),(ah 1 a123 (v124.map Value.string)),(ah 3 none (([]:List Memo).map ax)),(ah 1 a145 (v146.map i64))]),(a55,.cells (flatC (v56.map al)) false),(a123,.cells (flatC (v124.map Value.string)) false),(none,.cells (flatC (([]:List Memo).map ax)) false),(a145,.cells (flatC (v146.map i64)) false)] h) (fun ((v146,v147),a145)=>[(12,(i64 v147))]) ((([]:List Nat),0),none) hm ⟨ha125,ha126,(fun _=>rfl),O⟩ ?_
         clear hm;rintro⟨⟨v146,v147⟩,a145⟩ nx151 base h hm ⟨ha148,ha149,ha150,O⟩
         conv=>whnf
         apply Cs;conv=>whnf
         refine jn hm 178 [1,2,3,9,12] (fun s=>s) (fun v152 h=>(a55=none->v56=[])/\(a123=none->v124=[])/\(a145=none->v146=[])/\Own vars h0 [(sC g1 [nS,nS,nS,nS]),(sC g3 [(ah 4 a55 (v56.map al)),(ah 1 a123 (v124.map Value.string)),(ah 3 none (([]:List Memo).map ax)),(ah 1 a145 (v146.map i64))]),(a55,.cells (flatC (v56.map al)) false),(a123,.cells (flatC (v124.map Value.string)) false),(none,.cells (flatC (([]:List Memo).map ax)) false),(a145,.cells (flatC (v146.map i64)) false)] h) (fun v152=>[(154,(.bool v152))]) (fun hm=>?_) ?_
         ·refine gX ?_
          refine br hm (fun hm=>?_) fun hm=>?_
          ·refine gX ?_
           exact jx (ltN v147 3) hm ⟨ha148,ha149,ha150,O⟩
          ·refine gX ?_
           exact jx false hm ⟨ha148,ha149,ha150,O⟩
         ·clear hm;rintro v152 base h hm ⟨ha153,ha154,ha155,O⟩
          refine gX ?_
          refine br hm (fun hm=>?_) fun hm=>?_
          ·refine gX ?_
           first|refine⟨.inr (.inr (ae rfl (O.at (.tail _ (.head _))) rfl rfl)),?_⟩|refine⟨.inr (.inl (by kernel_rfl)),?_⟩
           refine gX ?_
           refine dF ?_
           refine gX ?_
           refine atF hm fun x157 hx157 hm=>?_;refine gH ?_
           refine aCv hm wI8 fun hm=>?_;refine gH ?_
           refine ko hm fun hm=>?_;refine gH ?_
           refine O.bE (l:=([(x157%v38.length)]:(List Nat))) (enc:=i64) (s:=1) (z:=(i64 0)) rfl rfl (by kernel_rfl) (by kernel_rfl) rfl rfl rfl rfl (fun _=>rfl) fun g158 h O=>?_;refine gH ?_
           refine O.bQ (enc:=i64) (l:=v146) (new:=([(x157%v38.length)]:(List Nat))) (s:=1) (b:=8) (.tail _ (.tail _ (.tail _ (.tail _ (.tail _ (.tail _ (.head _))))))) ha155 rfl rfl rfl rfl rfl rfl rfl rfl (YOk.own (O.at (.head _)) rfl (fun _=>rfl) rfl) (fun _=>rfl) (fun _=>rfl) (by decide) hm.1 fun a160 h ha161 O=>?_;refine gH ?_
           replace hm:=hm.2
           refine O.stC 1 (.tail _ (.tail _ (.head _))) [(ah 4 a55 (v56.map al)),(ah 1 a123 (v124.map Value.string)),(ah 3 none (([]:List Memo).map ax)),(ah 1 a160 ((v146++([(x157%v38.length)]:(List Nat))).map i64))] fun h O=>?_;refine gH ?_
           refine gX ?_
           refine aF hm fun hm=>?_;refine gH ?_
           exact jx (((v146++([(x157%v38.length)]:(List Nat))),(v147+1)),a160) hm ⟨ha153,ha154,ha161,(O.sel [1,2,3,4,5,6] (by decide))⟩
          ·refine gX ?_
           exact jx (v146,a145) hm ⟨ha153,ha154,ha155,O⟩
        ·clear hm;rintro⟨v140,a139⟩ base h hm ⟨ha141,ha142,ha143,O⟩
         refine gX ?_
         refine rR hm fun hm=>?_;refine gH ?_
         refine fz ?_;refine gH ?_
         refine O.apL (enc:=i64) (l:=v140) (new:=([(v38.length-1)]:(List Nat))) 1 (.tail _ (.tail _ (.tail _ (.tail _ (.tail _ (.head _)))))) ha143 hm fun a162 h ha163 O hm=>?_;refine gH ?_
         refine O.stC 1 (.tail _ (.head _)) [(ah 4 a55 (v56.map al)),(ah 1 a123 (v124.map Value.string)),(ah 3 none (([]:List Memo).map ax)),(ah 1 a162 ((v140++([(v38.length-1)]:(List Nat))).map i64))] fun h O=>?_;refine gX ?_
         refine ldA (O.at (.tail _ (.head _))) ?_;refine gH ?_
         refine O.stC 4 (.head _) [(ah 4 a55 (v56.map al)),(ah 1 a123 (v124.map Value.string)),(ah 3 none (([]:List Memo).map ax)),(ah 1 a162 ((v140++([(v38.length-1)]:(List Nat))).map i64))] fun h O=>?_;refine gX ?_
         refine⟨_,aD rfl rfl (O.at (.head _)) rfl rfl (lbE rfl) rfl,?_⟩;conv=>whnf
         exact⟨(⟨v56,v124,([]:List Memo),(v140++([(v38.length-1)]:(List Nat)))⟩:Circ),hm,O.ext,fun h2 F=>VLe.agg (LLe.cons (O.eY F (Nat.le_refl _) (.tail _ (.tail _ (.head _))) ha141 (fun _=>rfl)) (LLe.cons (O.eY F (Nat.le_refl _) (.tail _ (.tail _ (.tail _ (.head _)))) ha142 (fun _=>rfl)) (LLe.cons (O.eY F (Nat.le_refl _) (.tail _ (.tail _ (.tail _ (.tail _ (.head _))))) (fun _=>rfl) (fun _=>rfl)) (LLe.cons (O.eY F (Nat.le_refl _) (.tail _ (.tail _ (.tail _ (.tail _ (.tail _ (.head _)))))) ha163 (fun _=>rfl)) (LLe.nil _)))))⟩
theorem je {first:Nat}{d:Nat->Nat}{ns:List Node}:∀ i,(lJ first d i ns).length=ns.length
 |0=>rfl
 |i+1=>by rw[lJ,List.length_set,je i]
theorem mZ {first:Nat}{d:Nat->Nat}{ns:List Node}{j:Nat}:∀ {i},first+i<=j->(lJ first d i ns)[j]?=ns[j]?
 |0,_=>rfl
 |i+1,h=>by
  rw[lJ,List.getElem?_set_ne (by omega)]
  exact mZ (by omega)
theorem oi (x:CData):0<(cp x).length:=by
 rw[ja];omega
theorem CA {α:Type}{a:α}{first:(α->Prop)->Prop}{rest:α->Prop} (h1:rest a->first rest) (h2:rest a):an first rest:=h1 h2
structure CB (x:CData):Prop where
 inp:x.inp<256
 dffs:x.dffs<256
 data0:x.data0<256
 data1:x.data1<256
 port0:x.port0<256
 port1:x.port1<256
 port2:x.port2<256
 port3:x.port3<256
 gates:∀ g∈x.gates,GOk g
 outs:∀ o∈x.outs,o<256
theorem qs {n:Nat} (hn:n<=16) {rest:List ByteArray->Prop} (h:rest ((List.range n).map jB)) :
  an (α:=(List ByteArray)) (fun k=>av (S:=((List ByteArray)×Nat)) (fun (v,i) nx=>((ltN i n)=true->gx i (fun r=>(v.length+([r]:(List ByteArray)).length)*16<=2 ^ 47/\i+1<2 ^ 63/\nx ((v++([r]:(List ByteArray))),(i+1))))/\((ltN i n)=false->k v)) (([]:List ByteArray),0)) rest:=by
 refine ay (fun s=>s.2<=n/\s.1=(List.range s.2).map jB) (fun s=>n-s.2) (fun a=>a=(List.range n).map jB) ?_ ⟨Nat.zero_le _,rfl⟩ (fun a e=>by rw[e];exact h)
 rintro k ⟨l,i⟩ nx ⟨hi,hl⟩ hnx hk
 dsimp only at hi hl
 subst hl
 refine⟨fun q=>?_,fun q=>?_⟩
 ·have q:=aJ.1 q
  try dsimp only at q
  refine⟨by omega,by simp only[List.length_map,List.length_range,List.length_singleton];omega,by omega,hnx _ ⟨by dsimp only;omega,?_⟩ (by dsimp only;omega)⟩
  dsimp only
  rw[List.range_succ,List.map_append];rfl
 ·have q:=aU.1 q
  try dsimp only at q
  have:i=n:=by omega
  subst this
  exact hk _ rfl
theorem sk {n:Nat} (hpos:0<n) {outs:List Nat} (ho:∀ o∈outs,o<256) {rest:List Nat->Prop} (h:rest ((outs.take 3).map (· % n))) :
  an (α:=(List Nat)) (fun k=>av (S:=((List Nat)×Nat)) (fun (v,i) nx=>an (α:=Bool) (fun k2=>((ltN i outs.length)=true->k2 (ltN i 3))/\((ltN i outs.length)=false->k2 false)) (fun w=>(w=true->∃ x,outs[i]?=some x/\x<256/\0<n/\(v.length+([(x%n)]:(List Nat)).length)*8<=2 ^ 47/\i+1<2 ^ 63/\nx ((v++([(x%n)]:(List Nat))),(i+1)))/\(w=false->k v))) (([]:List Nat),0)) rest:=by
 refine ay (fun s=>s.2<=min outs.length 3/\s.1=(outs.take s.2).map (· % n)) (fun s=>min outs.length 3-s.2) (fun a=>a=(outs.take 3).map (· % n)) ?_ ⟨Nat.zero_le _,by simp⟩ (fun a e=>by rw[e];exact h)
 rintro k ⟨l,i⟩ nx ⟨hi,hl⟩ hnx hk
 dsimp only at hi hl
 subst hl
 have hi3:i<=3:=Nat.le_trans hi (Nat.min_le_right _ _)
 have hil:i<=outs.length:=Nat.le_trans hi (Nat.min_le_left _ _)
 have hlen:((outs.take i).map (· % n)).length=i:=by rw[List.length_map,List.length_take];omega
 have stop:¬ (i<outs.length/\i<3)->k ((outs.take i).map (· % n)):=fun q=>by
  refine hk _ ?_
  by_cases c:i=3
  ·rw[c]
  ·rw[List.take_of_length_le (by omega),List.take_of_length_le (by omega)]
 refine dD ⟨fun q=>⟨fun q2=>?_,fun q2=>stop fun e=>absurd e.2 (by have:=aU.1 q2;omega)⟩,fun q=>⟨(fun e=>by cases e),fun _=>stop fun e=>absurd e.1 (by have:=aU.1 q;(try dsimp only at this);omega)⟩⟩
 have q:=aJ.1 q
 have q2:=aJ.1 q2
 try dsimp only at q q2
 obtain⟨o,hoo⟩:=au q
 obtain⟨l1,l2⟩:=List.getElem?_eq_some_iff.1 hoo
 refine⟨o,hoo,ho _ (List.mem_of_getElem? hoo),hpos,by rw[hlen];simp only[List.length_singleton];omega,by omega,hnx _ ⟨by dsimp only;omega,?_⟩ (by dsimp only;omega)⟩
 dsimp only
 rw[List.take_succ_eq_append_getElem l1,l2,List.map_append];rfl
theorem wv {x:CData}{K:Circ->Prop} (hx:CB x) (h:K (gF x)):gD x K:=by
 have h4:=Nat.mod_lt x.inp (show 0<4 by decide)
 have h3:=Nat.mod_lt x.dffs (show 0<3 by decide)
 have hpos:=oi x
 have hle:=xq x
 have hbase:(fB x.inp x.dffs x.mem).length<=8:=by rw[fM];split <;> omega
 have hbase1:0<(fB x.inp x.dffs x.mem).length:=by rw[fM];omega
 unfold gD
 refine ay (fun s=>s.2<=x.inp%4+1/\s.1=List.replicate s.2 gp) (fun s=>x.inp%4+1-s.2) (fun a=>a=List.replicate (x.inp%4+1) gp) ?_ ⟨Nat.zero_le _,rfl⟩ ?_
 ·rintro k ⟨l,i⟩ nx ⟨hi,hl⟩ hnx hk
  dsimp only at hi hl
  subst hl
  refine⟨by decide,by omega,fun q=>?_,fun q=>?_⟩
  ·have q:=jz.1 q
   try dsimp only at q
   refine⟨by simp only[List.length_replicate,List.length_singleton];omega,by omega,hnx _ ⟨by dsimp only;omega,?_⟩ (by dsimp only;omega)⟩
   dsimp only
   rw[List.replicate_succ'];rfl
  ·have q:=ma.1 q
   try dsimp only at q
   have:i=x.inp%4+1:=by omega
   subst this
   exact hk _ rfl
 rintro a rfl
 refine⟨by decide,by omega,?_⟩
 refine ay (fun s=>s.2<=x.dffs%3/\s.1=List.replicate (x.inp%4+1) gp++List.replicate s.2 (nA 0)) (fun s=>x.dffs%3-s.2) (fun a=>a=List.replicate (x.inp%4+1) gp++List.replicate (x.dffs%3) (nA 0)) ?_ ⟨Nat.zero_le _,by simp⟩ ?_
 ·rintro k ⟨l,i⟩ nx ⟨hi,hl⟩ hnx hk
  dsimp only at hi hl
  subst hl
  refine⟨fun q=>?_,fun q=>?_⟩
  ·have q:=aJ.1 q
   try dsimp only at q
   refine⟨by simp only[List.length_append,List.length_replicate,List.length_singleton];omega,by omega,hnx _ ⟨by dsimp only;omega,?_⟩ (by dsimp only;omega)⟩
   dsimp only
   rw[List.replicate_succ' (n:=i),<- List.append_assoc];rfl
  ·have q:=aU.1 q
   try dsimp only at q
   have:i=x.dffs%3:=by omega
   subst this
   exact hk _ rfl
 rintro a rfl
 refine CA (a:=fB x.inp x.dffs x.mem) (fun F=>⟨fun q=>?_,fun q=>?_⟩) ?_
 ·refine⟨by simp only[List.length_append,List.length_replicate,List.length_cons,List.length_nil];omega,?_⟩
  rw[show fB x.inp x.dffs x.mem=List.replicate (x.inp%4+1) gp++List.replicate (x.dffs%3) (nA 0)++[xJ 0,xJ 1] by unfold fB;rw[q];rfl] at F
  exact F
 ·rw[show fB x.inp x.dffs x.mem=List.replicate (x.inp%4+1) gp++List.replicate (x.dffs%3) (nA 0) by unfold fB;rw[q];simp] at F
  exact F
 refine ay (fun s=>s.2<=min x.gates.length 8/\s.1=dW x.bus x.gates (fB x.inp x.dffs x.mem) s.2) (fun s=>min x.gates.length 8-s.2) (fun a=>a=cp x) ?_ ⟨Nat.zero_le _,rfl⟩ ?_
 ·rintro k ⟨l,i⟩ nx ⟨hi,hl⟩ hnx hk
  dsimp only at hi hl
  subst hl
  have hgl:i<=x.gates.length:=Nat.le_trans hi (Nat.min_le_left _ _)
  have hN:=eF x.bus x.gates (fB x.inp x.dffs x.mem) i hgl
  have hi8:i<=8:=Nat.le_trans hi (Nat.min_le_right _ _)
  have stop:¬ (i<x.gates.length/\i<8)->k (dW x.bus x.gates (fB x.inp x.dffs x.mem) i):=fun q=>by
   have:i=min x.gates.length 8:=by omega
   exact hk _ (by rw[this];rfl)
  refine dD ⟨fun q=>⟨fun q2=>?_,fun q2=>stop fun e=>absurd e.2 (by have:=aU.1 q2;omega)⟩,fun q=>⟨(fun e=>by cases e),fun _=>stop fun e=>absurd e.1 (by have:=aU.1 q;(try dsimp only at this);omega)⟩⟩
  have q:=aJ.1 q
  have q2:=aJ.1 q2
  try dsimp only at q q2
  obtain⟨gd,hg⟩:=au q
  refine⟨gd,hg,hx.gates _ (List.mem_of_getElem? hg),by omega,by omega,by simp only[List.length_singleton];omega,by omega,hnx _ ⟨by dsimp only;omega,?_⟩ (by dsimp only;omega)⟩
  dsimp only
  rw[kx hg]
 rintro a rfl
 have hfirst:(List.replicate (x.inp%4+1) gp).length=x.inp%4+1:=List.length_replicate
 refine ay (fun s=>s.2<=x.dffs%3/\s.1=lJ (x.inp%4+1) (mc x (cp x).length) s.2 (cp x)) (fun s=>x.dffs%3-s.2) (fun a=>a=lJ (x.inp%4+1) (mc x (cp x).length) (x.dffs%3) (cp x)) ?_ ⟨Nat.zero_le _,rfl⟩ ?_
 ·rintro k ⟨l,i⟩ nx ⟨hi,hl⟩ hnx hk
  dsimp only at hi hl
  subst hl
  refine⟨fun q=>?_,fun q=>?_⟩
  ·have q:=aJ.1 q
   try dsimp only at q
   have hget:(lJ (x.inp%4+1) (mc x (cp x).length) i (cp x))[(List.replicate (x.inp%4+1) gp).length+i]?=some (nA 0):=by
    rw[hfirst,mZ (Nat.le_refl _)]
    exact uh q
   have step:∀ d,d=mc x (cp x).length i->nx ((lJ (x.inp%4+1) (mc x (cp x).length) i (cp x)).set ((List.replicate (x.inp%4+1) gp).length+i) { nA 0 with ins:=[d] },i+1):=fun d e=>by
    refine hnx _ ⟨by dsimp only;omega,?_⟩ (by dsimp only;omega)
    dsimp only
    rw[hfirst,e]
    rfl
   refine⟨by omega,by omega,fun e=>⟨hx.data0,hpos,_,hget,by omega,step _ ?_⟩,fun e=>⟨hx.data1,hpos,_,hget,by omega,step _ ?_⟩⟩
   ·unfold mc;rw[if_pos e]
   ·unfold mc;rw[if_neg (by omega)]
  ·have q:=aU.1 q
   try dsimp only at q
   have:i=x.dffs%3:=by omega
   subst this
   exact hk _ rfl
 rintro a rfl
 have hol:((x.outs.take 3).map (· % (cp x).length)).length<=3:=by rw[List.length_map,List.length_take];omega
 unfold gF at h
 refine⟨fun q=>⟨hx.port0,hpos,hx.port1,hpos,hx.port2,hpos,hx.port3,hpos,qs hle (sk hpos hx.outs ⟨hpos,by omega,by simp only[List.length_singleton];omega,rfl,rfl,rfl,rfl,?_⟩)⟩,fun q=>qs hle (sk hpos hx.outs ⟨hpos,by omega,by simp only[List.length_singleton];omega,?_⟩)⟩
 ·rw[q] at h;exact h
 ·rw[q] at h;exact h
structure GK (ks:List Nat) (x:Node):Prop where
 kind1:1<=x.kind
 kind:x.kind<=13
 arity:Arity x.kind x.ins.length
 ins:∀ k∈x.ins,k<ks.length
 bus:x.kind=13->∀ k∈x.ins,ks.getD k 0=12
 mem:x.mem=0
 bit:x.bit=0
theorem lh (ks:List Nat):∀ (i:Nat) (t:Nat),t∈cx ks i->t<i/\ks.getD t 0=12
 |0,t,h=>by unfold cx at h;cases h
 |i+1,t,h=>by
  unfold cx at h
  split at h
  ·rename_i e
   rcases List.mem_append.1 h with h|h
   ·have:=lh ks i t h;exact⟨by omega,this.2⟩
   ·rw[List.mem_singleton] at h;subst h;exact⟨by omega,e⟩
  ·have:=lh ks i t h;exact⟨by omega,this.2⟩
theorem jy {l:List Nat}{i:Nat} (h:i<l.length):l.getD i 0∈l:=by
 rw[List.getD,List.getElem?_eq_getElem h]
 exact List.getElem_mem h
theorem qz:∀ kk,kk<6->Arity (5+kk) 2/\Arity (5+kk) 3:=by decide
theorem uy (bus:Bool) (g:GData) {ks:List Nat} (hn:0<ks.length):GK ks (gR bus g ks):=by
 have ha:=Nat.mod_lt g.a hn
 have hb:=Nat.mod_lt g.b hn
 have hd:=Nat.mod_lt g.d hn
 have hkk:(if bus then g.kind%13 else g.kind%9)<13:=by
  split
  ·exact Nat.mod_lt _ (by decide)
  ·exact Nat.lt_trans (Nat.mod_lt _ (by decide)) (by decide)
 unfold gR
 generalize (if bus then g.kind%13 else g.kind%9)=kk at hkk
 by_cases c1:kk<6
 ·rw[if_pos c1]
  by_cases c2:128<=g.kind
  ·rw[if_pos c2]
   refine⟨by dsimp only;omega,by dsimp only;omega,?_,?_,fun e=>by dsimp only at e;omega,rfl,rfl⟩
   ·exact (qz kk c1).2
   ·intro k m
    simp only[List.mem_cons,List.not_mem_nil,or_false] at m
    rcases m with rfl|rfl|rfl <;> assumption
  ·rw[if_neg c2]
   refine⟨by dsimp only;omega,by dsimp only;omega,?_,?_,fun e=>by dsimp only at e;omega,rfl,rfl⟩
   ·exact (qz kk c1).1
   ·intro k m
    simp only[List.mem_cons,List.not_mem_nil,or_false] at m
    rcases m with rfl|rfl <;> assumption
 rw[if_neg c1]
 by_cases c2:kk=6
 ·rw[if_pos c2]
  exact⟨(by decide:1<=4),(by decide:4<=13),(by decide:Arity 4 1),fun k m=>by simp only[List.mem_cons,List.not_mem_nil,or_false] at m;subst m;exact ha,(fun e=>by cases e),rfl,rfl⟩
 rw[if_neg c2]
 by_cases c3:kk=7
 ·rw[if_pos c3]
  refine⟨(by decide:1<=11),(by decide:11<=13),(by decide:Arity 11 3),fun k m=>?_,(fun e=>by cases e),rfl,rfl⟩
  simp only[List.mem_cons,List.not_mem_nil,or_false] at m
  rcases m with rfl|rfl|rfl <;> assumption
 rw[if_neg c3]
 by_cases c4:kk=9\/kk=10
 ·rw[if_pos c4]
  refine⟨(by decide:1<=12),(by decide:12<=13),(by decide:Arity 12 2),fun k m=>?_,(fun e=>by cases e),rfl,rfl⟩
  simp only[List.mem_cons,List.not_mem_nil,or_false] at m
  rcases m with rfl|rfl <;> assumption
 rw[if_neg c4]
 by_cases c5:10<kk/\0<(cx ks ks.length).length
 ·rw[if_pos c5]
  have h1:=lh ks ks.length _ (jy (Nat.mod_lt g.a c5.2))
  have h2:=lh ks ks.length _ (jy (Nat.mod_lt (g.a%(cx ks ks.length).length+1) c5.2))
  by_cases c6:1<(cx ks ks.length).length
  ·rw[if_pos c6]
   refine⟨(by decide:1<=13),(by decide:13<=13),(by decide:Arity 13 2),fun k m=>?_,fun _ k m=>?_,rfl,rfl⟩ <;>
   ·simp only[List.mem_cons,List.not_mem_nil,or_false] at m
    rcases m with rfl|rfl
    ·first|exact h1.1|exact h1.2
    ·first|exact h2.1|exact h2.2
  ·rw[if_neg c6]
   refine⟨(by decide:1<=13),(by decide:13<=13),(by decide:Arity 13 1),fun k m=>?_,fun _ k m=>?_,rfl,rfl⟩ <;>
   ·simp only[List.mem_cons,List.not_mem_nil,or_false] at m
    subst m
    first|exact h1.1|exact h1.2
 rw[if_neg c5]
 by_cases c7:240<g.kind
 ·rw[if_pos c7]
  have:g.a%2=0\/g.a%2=1:=by omega
  rcases this with e|e <;> rw[e]
  ·exact⟨(by decide:1<=1),(by decide:1<=13),(by decide:Arity 1 0),(fun k m=>by cases m),(fun _ k m=>by cases m),rfl,rfl⟩
  ·exact⟨(by decide:1<=2),(by decide:2<=13),(by decide:Arity 2 0),(fun k m=>by cases m),(fun _ k m=>by cases m),rfl,rfl⟩
 ·rw[if_neg c7]
  exact⟨(by decide:1<=3),(by decide:3<=13),(by decide:Arity 3 1),fun k m=>by simp only[List.mem_cons,List.not_mem_nil,or_false] at m;subst m;exact ha,(fun e=>by cases e),rfl,rfl⟩
theorem pg (bus:Bool) (gs:List GData) (base:List Node) (hb:0<base.length):∀ m,m<=gs.length->∀ (i:Nat) (y:Node),(dW bus gs base m)[i]?=some y ->
  (i<base.length/\base[i]?=some y)\/(base.length<=i/\∃ g,y=gR bus g (((dW bus gs base m).take i).map Node.kind))
 |0,_,i,y,h=>.inl ⟨ak h,h⟩
 |m+1,hm,i,y,h=>by
  have hg:gs[m]?=some gs[m]:=List.getElem?_eq_getElem (by omega)
  have hl:=eF bus gs base m (by omega)
  rw[kx hg] at h ⊢
  by_cases c:i<(dW bus gs base m).length
  ·rw[List.getElem?_append_left c] at h
   rcases pg bus gs base hb m (by omega) i y h with q|⟨q1,g,q2⟩
   ·exact .inl q
   ·refine .inr ⟨q1,g,?_⟩
    rw[List.take_append_of_le_length (by omega)]
    exact q2
  ·have hi:i=(dW bus gs base m).length:=by
    have:=ak h
    rw[List.length_append,List.length_singleton] at this
    omega
   subst hi
   rw[List.getElem?_append_right (Nat.le_refl _),Nat.sub_self] at h
   cases h
   refine .inr ⟨by omega,gs[m],?_⟩
   rw[List.take_left']
   rfl
theorem tQ {first:Nat}{d:Nat->Nat}{ns:List Node}{j:Nat}:∀ {m},j<m->first+m<=ns.length->(lJ first d m ns)[first+j]?=some (nA (d j))
 |m+1,h,hl=>by
  rw[lJ,List.getElem?_set]
  by_cases c:m=j
  ·subst c
   rw[if_pos rfl,if_pos (by rw[je];omega)]
  ·rw[if_neg (by omega)]
   exact tQ (by omega) (by omega)
theorem qb {first:Nat}{d:Nat->Nat}{ns:List Node}{j:Nat} (h:j<first):∀ m,(lJ first d m ns)[j]?=ns[j]?
 |0=>rfl
 |m+1=>by rw[lJ,List.getElem?_set_ne (by omega)];exact qb h m
def Bp (x:CData) (_i:Nat) (y:Node):Prop:=x.mem=true/\(y=xJ 0\/y=xJ 1)
theorem rb {x:CData}{i:Nat}{y:Node} (h:(gF x).nodes[i]?=some y) :
  (i<x.inp%4+1/\y=gp)\/(x.inp%4+1<=i/\i<x.inp%4+1+x.dffs%3/\∃ d,d<(cp x).length/\y=nA d)\/Bp x i y \/
  (x.inp%4+1+x.dffs%3<=i/\(cp x)[i]?=some y/\∃ g,y=gR x.bus g (((cp x).take i).map Node.kind)):=by
 have h:(lJ (x.inp%4+1) (mc x (cp x).length) (x.dffs%3) (cp x))[i]?=some y:=h
 have hbl:=fM x.inp x.dffs x.mem
 have hrl:=ja x
 have hbase:∀ i,i<x.inp%4+1->(fB x.inp x.dffs x.mem)[i]?=some gp:=fun i hi=>by
  unfold fB
  rw[List.append_assoc,List.getElem?_append_left (by rw[List.length_replicate];exact hi),List.getElem?_replicate,if_pos hi]
 by_cases c1:i<x.inp%4+1
 ·rw[qb c1] at h
  unfold cp at h
  rw[mC _ _ _ (by omega) _ (Nat.min_le_left _ _),hbase i c1] at h
  cases h
  exact .inl ⟨c1,rfl⟩
 ·by_cases c2:i<x.inp%4+1+x.dffs%3
  ·have e:i=x.inp%4+1+(i-(x.inp%4+1)):=by omega
   rw[e,tQ (by omega) (by omega)] at h
   cases h
   exact .inr (.inl ⟨by omega,c2,_,Nat.mod_lt _ (oi x),rfl⟩)
  ·rw[mZ (by omega)] at h
   rcases pg x.bus x.gates (fB x.inp x.dffs x.mem) (by omega) _ (Nat.min_le_left _ 8) i y h with⟨q,e⟩|⟨_,g,q⟩
   ·refine .inr (.inr (.inl ?_))
    unfold fB at e
    rw[List.getElem?_append_right (by simp only[List.length_append,List.length_replicate];omega)] at e
    cases hm:x.mem
    ·rw[hm] at e;simp at e
    ·rw[hm] at e
     simp only[if_true] at e
     refine⟨hm,?_⟩
     have hme:=List.mem_of_getElem? e
     simpa using hme
   ·exact .inr (.inr (.inr ⟨by omega,h,g,q⟩))
theorem xL {x:CData} (hm:x.mem=false) {i:Nat}{y:Node} (h:(gF x).nodes[i]?=some y) :
  (i<x.inp%4+1/\y=gp)\/(x.inp%4+1<=i/\i<x.inp%4+1+x.dffs%3/\∃ d,d<(cp x).length/\y=nA d) \/
  (x.inp%4+1+x.dffs%3<=i/\(cp x)[i]?=some y/\∃ g,y=gR x.bus g (((cp x).take i).map Node.kind)):=by
 rcases rb h with q|q|q|q
 ·exact .inl q
 ·exact .inr (.inl q)
 ·have:=q.1;rw[hm] at this;cases this
 ·exact .inr (.inr q)
theorem vL (x:CData) (k:Nat):(((gF x).nodes).map Node.kind).getD k 0=((cp x).map Node.kind).getD k 0:=by
 have hrl:=ja x
 show ((lJ (x.inp%4+1) (mc x (cp x).length) (x.dffs%3) (cp x)).map Node.kind).getD k 0=_
 rw[List.getD,List.getD,List.getElem?_map,List.getElem?_map]
 by_cases c1:k<x.inp%4+1
 ·rw[qb c1]
 ·by_cases c2:k<x.inp%4+1+x.dffs%3
  ·have e:k=x.inp%4+1+(k-(x.inp%4+1)):=by omega
   rw[e,tQ (by omega) (by omega),uh (by omega)]
   rfl
  ·rw[mZ (by omega)]
theorem lz (x:CData):(gF x).mems=if x.mem then [⟨[x.port0%(cp x).length],[x.port1%(cp x).length,x.port2%(cp x).length],x.port3%(cp x).length⟩] else []:=rfl
theorem vZ (x:CData):Good (gF x):=by
 have hle:=xq x
 have hpos:=oi x
 have hn:(gF x).nodes.length=(cp x).length:=je _
 have node:∀ (i:Nat) (y:Node),(gF x).nodes[i]?=some y->GoodN (gF x) i y:=by
  intro i y h
  have hi:=ak h
  rw[hn] at hi
  rcases rb h with⟨_,rfl⟩|⟨_,_,d,hd,rfl⟩|⟨hm,e⟩|⟨h1,h2,g,hg⟩
  ·exact⟨(by decide:0<=15),(by decide:Arity 0 0),(fun k m=>by cases m),(fun e=>by cases e),fun _=>⟨rfl,rfl⟩,(fun e=>by cases e),fun e=>absurd e (by decide:¬ 1<=0)⟩
  ·refine⟨(by decide:14<=15),(by decide:Arity 14 1),fun k m=>?_,(fun e=>by cases e),fun _=>⟨rfl,rfl⟩,(fun e=>by cases e),fun _ e=>absurd e (by decide:¬ 14<=13)⟩
   have:k=d:=by simpa[nA] using m
   rw[hn,this];exact hd
  ·have em:=lz x
   rw[hm] at em
   simp only[if_true] at em
   rcases e with rfl|rfl
   ·exact⟨(by decide:15<=15),(by decide:Arity 15 0),(fun k m=>by cases m),(fun e=>by cases e),fun e=>absurd rfl e,fun _=>⟨_,(by rw[em];rfl),by show (0:Nat)<2;decide⟩,fun _ e=>absurd e (by decide:¬ 15<=13)⟩
   ·exact⟨(by decide:15<=15),(by decide:Arity 15 0),(fun k m=>by cases m),(fun e=>by cases e),fun e=>absurd rfl e,fun _=>⟨_,(by rw[em];rfl),by show (1:Nat)<2;decide⟩,fun _ e=>absurd e (by decide:¬ 15<=13)⟩
  ·have hks:(((cp x).take i).map Node.kind).length=i:=by rw[List.length_map,List.length_take];omega
   have G:=uy x.bus g (ks:=((cp x).take i).map Node.kind) (by omega)
   rw[<- hg] at G
   have lt:∀ k∈y.ins,k<i:=fun k m=>by have:=G.ins k m;omega
   refine⟨by have:=G.kind;omega,G.arity,fun k m=>by have:=lt k m;omega,fun e k m=>?_,fun _=>⟨G.mem,G.bit⟩,fun e=>by have:=G.kind;omega,fun _ _=>lt⟩
   have hk:=lt k m
   have hk2:k<(gF x).nodes.length:=by omega
   refine⟨_,List.getElem?_eq_getElem hk2,?_⟩
   have e1:=vL x k
   rw[List.getD,List.getElem?_map,List.getElem?_eq_getElem hk2] at e1
   have e2:=G.bus e k m
   rw[List.getD,List.getElem?_map,List.getElem?_take,if_pos hk] at e2
   rw[List.getD,List.getElem?_map,e2] at e1
   exact e1
 refine⟨by omega,by show ((List.range (cp x).length).map jB).length=_;rw[hn];simp,yI (n:=(cp x).length) (by omega) rfl,zX ⟨by omega,fun i y h=>⟨(node i y h).ins,(node i y h).few⟩⟩,?_,?_,?_,?_,node,by rw[hn];exact hpos⟩
 ·intro m hme
  rw[lz] at hme
  split at hme
  ·rw[List.mem_singleton] at hme
   subst hme
   have lt:∀ a,a%(cp x).length<(gF x).nodes.length:=fun a=>by rw[hn];exact Nat.mod_lt _ hpos
   exact⟨(by decide:1<=1/\1<=8),(by decide:1<=2/\2<=32),fun k m=>by rw[List.mem_singleton.1 m];exact lt _,fun k m=>by simp only[List.mem_cons,List.not_mem_nil,or_false] at m;rcases m with rfl|rfl <;> exact lt _,lt _⟩
  ·cases hme
 ·rw[lz];split <;> simp
 ·intro o m
  have m:o∈(x.outs.take 3).map (· % (cp x).length)++[(cp x).length-1]:=m
  rw[hn]
  rcases List.mem_append.1 m with m|m
  ·obtain⟨q,_,rfl⟩:=List.mem_map.1 m
   exact Nat.mod_lt _ hpos
  ·rw[List.mem_singleton] at m;omega
 ·show ((x.outs.take 3).map (· % (cp x).length)++[(cp x).length-1]).length<=16
  rw[List.length_append,List.length_map,List.length_take,List.length_singleton];omega
theorem yE {x:CData} (_:x.mem=false):Good (gF x):=vZ x
structure Pat where
 inp:List Nat
 state:List Nat
def bZ (x:Pat):Value:=.agg ⟨[ag 1 n8 x.inp,ag 1 n8 x.state]⟩
theorem jW (l:List Nat):PureV (ag 1 n8 l):=dg fun _=>aj.cons (PureV.flat rfl) aj.nil
theorem sA (x:Pat):aj (cl (bZ x)):=aj.cons (jW _) (aj.cons (jW _) aj.nil)
theorem Ah (x:Pat):PureV (bZ x):=PureV.agg (sA x)
structure Rsp where
 out:List Nat
 next:List Nat
def cT (x:Rsp):Value:=.agg ⟨[ag 1 n8 x.out,ag 1 n8 x.next]⟩
theorem yd (x:Rsp):aj (cl (cT x)):=aj.cons (jW _) (aj.cons (jW _) aj.nil)
theorem kH (x:Rsp):PureV (cT x):=PureV.agg (yd x)
structure SRun where
 circ:Circ
 nets:List Nat
def zq (x:SRun):Value:=.agg ⟨[FL 4 (x.circ.nodes.map al),FL 1 (x.circ.names.map .string),FL 3 (x.circ.mems.map ax),FL 1 (x.circ.outs.map i64),ag 1 n8 x.nets]⟩
def BD:Option (Value×Heap)->Nat->Bool
 |some (.tuple ⟨[.int .u64 (.ofNat a),.int .u64 (.ofNat b)]⟩,_),i=>a==0&&b==i
 |_,_=>false
theorem zy {x:Option (Value×Heap)}{i:Nat} (h:BD x i=true):∃ h',x=some (.tuple ⟨[n64 0,n64 i]⟩,h'):=by
 unfold BD at h
 split at h
 ·simp only[Bool.and_eq_true,beq_iff_eq] at h
  obtain⟨rfl,rfl⟩:=h
  exact⟨_,rfl⟩
 ·cases h
theorem BM {a b:Value} (ha:plain a=true) (hb:plain b=true):eM (.tuple ⟨[a,b]⟩)=true:=by
 simp[eM,ha,hb]
theorem Aj:((List.range 17).all fun i=>BD (nq Tryz.prog [] (mj Tryz.prog) 60 78 #[n64 1,n64 i] (dP vars)) i)=true:=by kernel_rfl
theorem B4 {i:Nat} (hi:i<=16):FnV Tryz.prog NG vars 78 ⟨[n64 1,n64 i]⟩ (.tuple ⟨[n64 0,n64 i]⟩):=by
 obtain⟨h',e⟩:=zy (List.all_eq_true.1 Aj i (List.mem_range.2 (by omega)))
 have c:=(gC hM hP (fun f vs h v e=>hG f vs h v e) 60 _ _ _ _ _ e).1
 refine⟨PureV.tup (aj.cons (PureV.flat rfl) (aj.cons (PureV.flat rfl) aj.nil)),fun h b=>c.lift (by simp[n64];exact⟨rfl,rfl⟩) (BM rfl rfl) (kb (tE b) (nF b))⟩
def oR (x y:Nat) (K:Nat×Nat->Prop):Prop:=x=1/\y<=16/\K (0,y)
theorem rV {x y:Nat}{K:Nat×Nat->Prop} (hm:oR x y K) {h0:Heap} (hB:HasB vars h0):∃ r,K r/\CallD Tryz.prog NG 78 ⟨[n64 x,n64 y]⟩ h0 ((fun (r:(Nat×Nat))=>Value.tuple ⟨[n64 (r.1),n64 (r.2)]⟩) r) h0:=by
 obtain⟨rfl,h,hk⟩:=hm
 exact FnV.walk (enc:=fun (r:(Nat×Nat))=>Value.tuple ⟨[n64 (r.1),n64 (r.2)]⟩) (B4 h) hk hB
structure LnZ where
 node:Nat
 pin:Int
deriving DecidableEq
def az (x:LnZ):Value:=.agg ⟨[i64 x.node,z64 x.pin]⟩
theorem yC (x:LnZ):aj (cl (az x)):=aj.cons (PureV.flat rfl) (aj.cons (PureV.flat rfl) aj.nil)
structure Flt where
 model:Nat
 line:LnZ
 value:Nat
 other:Nat
deriving DecidableEq
def aC (x:Flt):Value:=.agg ⟨[n8 x.model,i64 x.line.node,z64 x.line.pin,n8 x.value,i64 x.other]⟩
theorem se (x:Flt):aj (cl (aC x)):=aj.cons (PureV.flat rfl) (aj.cons (PureV.flat rfl) (aj.cons (PureV.flat rfl) (aj.cons (PureV.flat rfl) (aj.cons (PureV.flat rfl) aj.nil))))
theorem zS (x:Flt):PureV (aC x):=PureV.agg (se x)
structure LnI where
 node:Int
 pin:Int
deriving DecidableEq
structure FData where
 model:Nat
 node:Nat
 pin:Nat
 other:Nat
 one:Bool
def wO (x:FData):Value:=.agg ⟨[n8 x.model,n8 x.node,n8 x.pin,n8 x.other,.bool x.one]⟩
set_option maxHeartbeats 8000000
def bS (p0:CData) (K:Circ->Prop):Prop :=
 gD (⟨p0.inp,p0.dffs,p0.data0,p0.data1,p0.bus,false,p0.port0,p0.port1,p0.port2,p0.port3,p0.gates,p0.outs⟩:CData) (fun r5=>K r5)
theorem ia {p0:CData}{K:Circ->Prop} (hm:bS p0 K) {h0:Heap} (hB:HasB vars h0):∃ r,K r/\CallD Tryz.prog NG 29 ⟨[bD p0]⟩ h0 (aA r) h0:=by
 unfold bS at hm
 refine fw Tryz.func29 hB (enc:=aA) (fun r=>oA _) fun O=>?_;conv=>whnf
 refine gX ?_
 (first|refine O.new (lH rfl) fun g1 h O=>?_|refine O.bB (lH rfl) fun g1 h O=>?_);refine gH ?_
 (first|refine O.new (ai (l:=[(.slice none 0 0),(.slice none 0 0),(.slice none 0 0),(.slice none 0 0)]) rfl rfl rfl) fun g3 h O=>?_|refine O.bB (ai (l:=[(.slice none 0 0),(.slice none 0 0),(.slice none 0 0),(.slice none 0 0)]) rfl rfl rfl) fun g3 h O=>?_);refine gH ?_
 refine gX ?_
 refine O.stC 1 (.tail _ (.head _)) [(n8 p0.inp),(n8 p0.dffs),(n8 p0.data0),(n8 p0.data1),(.bool p0.bus),(.bool false),(n8 p0.port0),(n8 p0.port1),(n8 p0.port2),(n8 p0.port3),((ag 4 rZ) p0.gates),((ag 1 n8) p0.outs)] fun h O=>?_;refine gX ?_
 refine ldA (O.at (.tail _ (.head _))) ?_;refine gH ?_
 refine ca (sa hm O.has) fun r5 hm=>?_;refine gH ?_
 refine O.stC 4 (.head _) [((ag 4 al) r5.nodes),((ag 1 Value.string) r5.names),((ag 3 ax) r5.mems),((ag 1 i64) r5.outs)] fun h O=>?_;refine gX ?_
 refine⟨_,aD rfl rfl (O.at (.head _)) rfl rfl (lbE rfl) rfl,?_⟩;conv=>whnf
 exact fe hm O
def aT (p0:Circ) (K:(List Nat)->Prop):Prop :=
 cr p0 ([0]:(List Nat)) (fun r1=>K r1)
theorem bG {p0:Circ}{K:(List Nat)->Prop} (hm:aT p0 K) {h0:Heap} (hB:HasB vars h0):∃ r,K r/\CallD Tryz.prog NG 60 ⟨[aA p0]⟩ h0 ((ag 1 i64) r) h0:=by
 unfold aT at hm
 refine fw Tryz.func60 hB (enc:=(ag 1 i64)) (fun r=>dg (fun _=>aj.cons (PureV.flat rfl) aj.nil)) fun O=>?_;conv=>whnf
 refine gX ?_
 refine fz ?_;refine gX ?_
 refine fz ?_;refine gH ?_
 refine ca (gh hm O.has) fun r1 hm=>?_;refine gX ?_
 exact fe hm O
def aH (p0:Circ) (K:(List Nat)->Prop):Prop :=
 cr p0 ([14]:(List Nat)) (fun r1=>K r1)
theorem aR {p0:Circ}{K:(List Nat)->Prop} (hm:aH p0 K) {h0:Heap} (hB:HasB vars h0):∃ r,K r/\CallD Tryz.prog NG 20 ⟨[aA p0]⟩ h0 ((ag 1 i64) r) h0:=by
 unfold aH at hm
 refine fw Tryz.func20 hB (enc:=(ag 1 i64)) (fun r=>dg (fun _=>aj.cons (PureV.flat rfl) aj.nil)) fun O=>?_;conv=>whnf
 refine gX ?_
 refine fz ?_;refine gX ?_
 refine fz ?_;refine gH ?_
 refine ca (gh hm O.has) fun r1 hm=>?_;refine gX ?_
 exact fe hm O
def dZ (p0:(List Nat)) (K:Int->Prop):Prop :=
 an (α:=Unit) (fun k1=>av (S:=Nat) (fun v2 nx3=>((ltN v2 p0.length)=true->∃ x4,p0[v2]?=some x4/\((ltN 3 x4)=true->K (Int.ofNat v2))/\((ltN 3 x4)=false->v2+1<2 ^ 63/\nx3 (v2+1)))/\((ltN v2 p0.length)=false->k1 ())) 0) (fun _=>K (Int.negSucc 0))
theorem mD {p0:(List Nat)}{K:Int->Prop} (hm:dZ p0 K) {h0:Heap} (hB:HasB vars h0):∃ r,K r/\CallD Tryz.prog NG 101 ⟨[(ag 1 n8) p0,(.func (.func 62) ⟨[]⟩ ⟨[]⟩)]⟩ h0 (z64 r) h0:=by
 unfold dZ at hm
 refine fw Tryz.func101 hB (enc:=z64) (fun r=>PureV.flat rfl) fun O=>?_;conv=>whnf
 apply Cs;conv=>whnf
 apply Cs;refine gH ?_
 refine jn hm 19 [] (fun s=>s) (fun _ h=>Own vars h0 [] h) (fun _=>[]) (fun hm=>?_) ?_
 ·refine gX ?_
  refine lw 19 [0,1,7] (σ:=Nat) (fun s=>s) (fun v2 h=>Own vars h0 [] h) (fun v2=>[(8,(i64 v2))]) 0 hm O ?_
  clear hm;rintro v2 nx3 base h hm O
  refine gX ?_
  refine br hm (fun hm=>?_) fun hm=>?_
  ·refine gX ?_
   refine atF hm fun x4 hx4 hm=>?_;refine gH ?_
   refine fg Tryz.func62 ?_;refine gX ?_
   refine br hm (fun hm=>?_) fun hm=>?_
   ·refine gX ?_
    exact fe hm O
   ·refine gX ?_
    refine aF hm fun hm=>?_;refine gH ?_
    exact jx (v2+1) hm O
  ·refine gX ?_
   exact jx () hm O
 ·clear hm;rintro _ base h hm O
  refine gX ?_
  exact fe hm O
def cG (p0:(List Nat)) (K:Bool->Prop):Prop :=
 dZ p0 (fun r1=>K (!ltI r1 (Int.ofNat 0)))
theorem iW {p0:(List Nat)}{K:Bool->Prop} (hm:cG p0 K) {h0:Heap} (hB:HasB vars h0):∃ r,K r/\CallD Tryz.prog NG 61 ⟨[(ag 1 n8) p0,(.func (.func 62) ⟨[]⟩ ⟨[]⟩)]⟩ h0 (Value.bool r) h0:=by
 unfold cG at hm
 refine fw Tryz.func61 hB (enc:=Value.bool) (fun r=>PureV.flat rfl) fun O=>?_;conv=>whnf
 refine gX ?_
 refine ca (mD hm O.has) fun r1 hm=>?_;refine gX ?_
 exact fe hm O
def eh (p0:SRun) (p1:Nat) (K:Nat->Prop):Prop :=
 an (α:=Bool) (fun k2=>((ltN p1 0)=true->k2 true)/\((ltN p1 0)=false->k2 (!ltN p1 p0.nets.length))) (fun v1=>(v1=true->K 2)/\(v1=false->∃ x3,p0.nets[p1]?=some x3/\de x3 (fun r4=>K r4)))
theorem kV {p0:SRun}{p1:Nat}{K:Nat->Prop} (hm:eh p0 p1 K) {h0:Heap} (hB:HasB vars h0):∃ r,K r/\CallD Tryz.prog NG 72 ⟨[zq p0,i64 p1]⟩ h0 (n8 r) h0:=by
 unfold eh at hm
 refine fw Tryz.func72 hB (enc:=n8) (fun r=>PureV.flat rfl) fun O=>?_;conv=>whnf
 refine gX ?_
 refine fz ?_;refine gH ?_
 apply Cs;conv=>whnf
 refine jn hm 20 [1,2] (fun s=>s) (fun v1 h=>Own vars h0 [] h) (fun v1=>[(13,(.bool v1))]) (fun hm=>?_) ?_
 ·refine gX ?_
  refine br hm (fun hm=>?_) fun hm=>?_
  ·refine gX ?_
   exact jx true hm O
  ·refine gX ?_
   exact jx (!ltN p1 p0.nets.length) hm O
 ·clear hm;rintro v1 base h hm O
  refine gX ?_
  refine br hm (fun hm=>?_) fun hm=>?_
  ·refine gX ?_
   exact fe hm O
  ·refine gX ?_
   refine atF hm fun x3 hx3 hm=>?_;refine gH ?_
   refine ca (jG hm O.has) fun r4 hm=>?_;refine gX ?_
   exact fe hm O
def dU (p0:SRun) (K:Rsp->Prop):Prop :=
 an (α:=(List Nat)) (fun k12=>av (S:=((List Nat)×Nat)) (fun (v14,v15) nx17=>((ltN v15 p0.circ.outs.length)=true->∃ x18,p0.circ.outs[v15]?=some x18/\eh p0 x18 (fun r19=>(v14.length+([r19]:(List Nat)).length)*1<=2 ^ 47/\v15+1<2 ^ 63/\nx17 ((v14++([r19]:(List Nat))),(v15+1))))/\((ltN v15 p0.circ.outs.length)=false->k12 v14)) (([]:List Nat),0)) (fun v10=>an (α:=(List Nat)) (fun k28=>aH p0.circ (fun r29=>av (S:=((List Nat)×Nat)) (fun (v31,v32) nx35=>((ltN v32 r29.length)=true->∃ x36,r29[v32]?=some x36/\an (α:=Nat) (fun k40=>∃ x41,p0.circ.nodes[x36]?=some x41/\((eqN x41.ins.length 1)=true->∃ x42,x41.ins[0]?=some x42/\eh p0 x42 (fun r43=>bA r43 (fun r44=>k40 r44)))/\((eqN x41.ins.length 1)=false->k40 2)) (fun v37=>(v31.length+([v37]:(List Nat)).length)*1<=2 ^ 47/\v32+1<2 ^ 63/\nx35 ((v31++([v37]:(List Nat))),(v32+1))))/\((ltN v32 r29.length)=false->k28 v31)) (([]:List Nat),0))) (fun v25=>K (⟨v10,v25⟩:Rsp)))
theorem oj {p0:SRun}{K:Rsp->Prop} (hm:dU p0 K) {h0:Heap} (hB:HasB vars h0):∃ r,K r/\CallD Tryz.prog NG 39 ⟨[zq p0]⟩ h0 (cT r) h0:=by
 unfold dU at hm
 refine fw Tryz.func39 hB (enc:=cT) (fun r=>kH _) fun O=>?_;conv=>whnf
 refine gX ?_
 refine fz ?_;refine gH ?_
 have O:=O.aG (.cells (flatC ((([]:List Nat)).map n8)) false)
 have O:=O.aG (.cells (flatC ((([]:List Nat)).map n8)) false)
 (first|refine O.new (ai (l:=[nS,nS]) rfl rfl rfl) fun g1 h O=>?_|refine O.bB (ai (l:=[nS,nS]) rfl rfl rfl) fun g1 h O=>?_);refine gH ?_
 refine gX ?_
 have O:=O.aG (.cells (flatC ((([]:List Nat)).map n8)) false)
 have O:=O.aG (.cells (flatC ((([]:List Nat)).map n8)) false)
 (first|refine O.new (ai (l:=[nS,nS]) rfl rfl rfl) fun g5 h O=>?_|refine O.bB (ai (l:=[nS,nS]) rfl rfl rfl) fun g5 h O=>?_);refine gH ?_
 refine jn (σ:=(List Nat)×Option Nat) hm 65 [1,2,3] (fun s=>s.1) (fun (v10,a9) h=>(a9=none->v10=[])/\Own vars h0 [(sC g1 [(ah 1 none (([]:List Nat).map n8)),(ah 1 none (([]:List Nat).map n8))]),(none,.cells (flatC (([]:List Nat).map n8)) false),(none,.cells (flatC (([]:List Nat).map n8)) false),(sC g5 [(ah 1 a9 (v10.map n8)),(ah 1 none (([]:List Nat).map n8))]),(a9,.cells (flatC (v10.map n8)) false),(none,.cells (flatC (([]:List Nat).map n8)) false)] h) (fun (v10,a9)=>[]) (fun hm=>?_) ?_
 ·refine gX ?_
  refine lw 65 [1,2,3,12,13] (σ:=((List Nat)×Nat)×Option Nat) (fun s=>s.1) (fun ((v14,v15),a13) h=>(a13=none->v14=[])/\Own vars h0 [(sC g1 [(ah 1 none (([]:List Nat).map n8)),(ah 1 none (([]:List Nat).map n8))]),(none,.cells (flatC (([]:List Nat).map n8)) false),(none,.cells (flatC (([]:List Nat).map n8)) false),(sC g5 [(ah 1 a13 (v14.map n8)),(ah 1 none (([]:List Nat).map n8))]),(a13,.cells (flatC (v14.map n8)) false),(none,.cells (flatC (([]:List Nat).map n8)) false)] h) (fun ((v14,v15),a13)=>[(14,(i64 v15))]) ((([]:List Nat),0),none) hm ⟨(fun _=>rfl),(O.sel [3,5,4,0,2,1] (by decide))⟩ ?_
  clear hm;rintro⟨⟨v14,v15⟩,a13⟩ nx17 base h hm ⟨ha16,O⟩
  refine gX ?_
  refine br hm (fun hm=>?_) fun hm=>?_
  ·refine gX ?_
   refine atF hm fun x18 hx18 hm=>?_;refine gX ?_
   refine ldO (O.at (.tail _ (.tail _ (.tail _ (.head _))))) ?_;refine gH ?_
   first|refine⟨.inr (.inr (ae rfl (O.at (.tail _ (.tail _ (.tail _ (.head _))))) rfl rfl)),?_⟩|refine⟨.inr (.inl (by kernel_rfl)),?_⟩
   refine gX ?_
   refine dF ?_
   refine gX ?_
   refine ca (kV hm O.has) fun r19 hm=>?_;refine gH ?_
   (first|refine⟨.inr (.inr (ae rfl (O.at (.head _)) rfl rfl)),?_⟩|refine⟨.inr (.inr (ae rfl (O.at (.tail _ (.head _))) rfl rfl)),?_⟩|refine⟨.inr (.inr (ae rfl (O.at (.tail _ (.tail _ (.head _)))) rfl rfl)),?_⟩|refine⟨.inr (.inr (ae rfl (O.at (.tail _ (.tail _ (.tail _ (.head _))))) rfl rfl)),?_⟩|refine⟨.inr (.inr (ae rfl (O.at (.tail _ (.tail _ (.tail _ (.tail _ (.head _)))))) rfl rfl)),?_⟩|refine⟨.inr (.inr (ae rfl (O.at (.tail _ (.tail _ (.tail _ (.tail _ (.tail _ (.head _))))))) rfl rfl)),?_⟩|refine⟨.inr (.inr (ae rfl (O.at (.tail _ (.tail _ (.tail _ (.tail _ (.tail _ (.tail _ (.head _)))))))) rfl rfl)),?_⟩|refine⟨.inl (Ext.refl _),?_⟩|refine⟨.inr (.inr rfl),?_⟩|refine⟨.inr (by kernel_rfl),?_⟩|refine⟨.inl (by kernel_rfl),?_⟩|refine id ?_);refine gH ?_
   refine O.bE (l:=([r19]:(List Nat))) (enc:=n8) (s:=1) (z:=(n8 0)) rfl rfl (by kernel_rfl) (by kernel_rfl) rfl rfl rfl rfl (fun _=>rfl) fun g20 h O=>?_;refine gH ?_
   refine O.bQ (enc:=n8) (l:=v14) (new:=([r19]:(List Nat))) (s:=1) (b:=1) (.tail _ (.tail _ (.tail _ (.tail _ (.tail _ (.head _)))))) ha16 rfl rfl rfl rfl rfl rfl rfl rfl (YOk.own (O.at (.head _)) rfl (fun _=>rfl) rfl) (fun _=>rfl) (fun _=>rfl) (by decide) hm.1 fun a22 h ha23 O=>?_;refine gH ?_
   (first|refine⟨.inr (.inr (ae rfl (O.at (.head _)) rfl rfl)),?_⟩|refine⟨.inr (.inr (ae rfl (O.at (.tail _ (.head _))) rfl rfl)),?_⟩|refine⟨.inr (.inr (ae rfl (O.at (.tail _ (.tail _ (.head _)))) rfl rfl)),?_⟩|refine⟨.inr (.inr (ae rfl (O.at (.tail _ (.tail _ (.tail _ (.head _))))) rfl rfl)),?_⟩|refine⟨.inr (.inr (ae rfl (O.at (.tail _ (.tail _ (.tail _ (.tail _ (.head _)))))) rfl rfl)),?_⟩|refine⟨.inr (.inr (ae rfl (O.at (.tail _ (.tail _ (.tail _ (.tail _ (.tail _ (.head _))))))) rfl rfl)),?_⟩|refine⟨.inr (.inr (ae rfl (O.at (.tail _ (.tail _ (.tail _ (.tail _ (.tail _ (.tail _ (.head _)))))))) rfl rfl)),?_⟩|refine⟨.inl (Ext.refl _),?_⟩|refine⟨.inr (.inr rfl),?_⟩|refine⟨.inr (by kernel_rfl),?_⟩|refine⟨.inl (by kernel_rfl),?_⟩|refine id ?_);refine gH ?_
   replace hm:=hm.2
   refine O.stC 1 (.tail _ (.tail _ (.tail _ (.tail _ (.head _))))) [(ah 1 a22 ((v14++([r19]:(List Nat))).map n8)),(ah 1 none (([]:List Nat).map n8))] fun h O=>?_;refine gH ?_
   (first|refine⟨.inr (.inr (ae rfl (O.at (.head _)) rfl rfl)),?_⟩|refine⟨.inr (.inr (ae rfl (O.at (.tail _ (.head _))) rfl rfl)),?_⟩|refine⟨.inr (.inr (ae rfl (O.at (.tail _ (.tail _ (.head _)))) rfl rfl)),?_⟩|refine⟨.inr (.inr (ae rfl (O.at (.tail _ (.tail _ (.tail _ (.head _))))) rfl rfl)),?_⟩|refine⟨.inr (.inr (ae rfl (O.at (.tail _ (.tail _ (.tail _ (.tail _ (.head _)))))) rfl rfl)),?_⟩|refine⟨.inr (.inr (ae rfl (O.at (.tail _ (.tail _ (.tail _ (.tail _ (.tail _ (.head _))))))) rfl rfl)),?_⟩|refine⟨.inr (.inr (ae rfl (O.at (.tail _ (.tail _ (.tail _ (.tail _ (.tail _ (.tail _ (.head _)))))))) rfl rfl)),?_⟩|refine⟨.inl (Ext.refl _),?_⟩|refine⟨.inr (.inr rfl),?_⟩|refine⟨.inr (by kernel_rfl),?_⟩|refine⟨.inl (by kernel_rfl),?_⟩|refine id ?_);refine gH ?_
   refine gX ?_
   refine aF hm fun hm=>?_;refine gH ?_
   exact jx (((v14++([r19]:(List Nat))),(v15+1)),a22) hm ⟨ha23,(O.sel [1,2,3,4,5,6] (by decide))⟩
  ·refine gX ?_
   exact jx (v14,a13) hm ⟨ha16,O⟩
 ·clear hm;rintro⟨v10,a9⟩ base h hm ⟨ha11,O⟩
  conv=>whnf
  refine jn (σ:=(List Nat)×Option Nat) hm 65 [2,3] (fun s=>s.1) (fun (v25,a24) h=>(a9=none->v10=[])/\(a24=none->v25=[])/\Own vars h0 [(sC g1 [(ah 1 none (([]:List Nat).map n8)),(ah 1 none (([]:List Nat).map n8))]),(none,.cells (flatC (([]:List Nat).map n8)) false),(none,.cells (flatC (([]:List Nat).map n8)) false),(sC g5 [(ah 1 a9 (v10.map n8)),(ah 1 a24 (v25.map n8))]),(a9,.cells (flatC (v10.map n8)) false),(a24,.cells (flatC (v25.map n8)) false)] h) (fun (v25,a24)=>[]) (fun hm=>?_) ?_
  ·refine gX ?_
   refine ca (aR hm O.has) fun r29 hm=>?_;refine gX ?_
   refine lw 65 [1,2,3,29,30] (σ:=((List Nat)×Nat)×Option Nat) (fun s=>s.1) (fun ((v31,v32),a30) h=>(a9=none->v10=[])/\(a30=none->v31=[])/\Own vars h0 [(sC g1 [(ah 1 none (([]:List Nat).map n8)),(ah 1 none (([]:List Nat).map n8))]),(none,.cells (flatC (([]:List Nat).map n8)) false),(none,.cells (flatC (([]:List Nat).map n8)) false),(sC g5 [(ah 1 a9 (v10.map n8)),(ah 1 a30 (v31.map n8))]),(a9,.cells (flatC (v10.map n8)) false),(a30,.cells (flatC (v31.map n8)) false)] h) (fun ((v31,v32),a30)=>[(31,(i64 v32))]) ((([]:List Nat),0),none) hm ⟨ha11,(fun _=>rfl),O⟩ ?_
   clear hm;rintro⟨⟨v31,v32⟩,a30⟩ nx35 base h hm ⟨ha33,ha34,O⟩
   refine gX ?_
   refine br hm (fun hm=>?_) fun hm=>?_
   ·refine gX ?_
    refine atF hm fun x36 hx36 hm=>?_;refine gH ?_
    apply Cs;conv=>whnf
    apply Cs;refine gH ?_
    refine jn hm 65 [1,2,3,29,30,31] (fun s=>s) (fun v37 h=>(a9=none->v10=[])/\(a30=none->v31=[])/\Own vars h0 [(sC g1 [(ah 1 none (([]:List Nat).map n8)),(ah 1 none (([]:List Nat).map n8))]),(none,.cells (flatC (([]:List Nat).map n8)) false),(none,.cells (flatC (([]:List Nat).map n8)) false),(sC g5 [(ah 1 a9 (v10.map n8)),(ah 1 a30 (v31.map n8))]),(a9,.cells (flatC (v10.map n8)) false),(a30,.cells (flatC (v31.map n8)) false)] h) (fun v37=>[(8,(n8 v37))]) (fun hm=>?_) ?_
    ·refine gX ?_
     refine atF hm fun x41 hx41 hm=>?_;refine gX ?_
     refine br hm (fun hm=>?_) fun hm=>?_
     ·refine gX ?_
      refine dF ?_
      refine gX ?_
      refine atF hm fun x42 hx42 hm=>?_;refine gH ?_
      refine ca (kV hm O.has) fun r43 hm=>?_;refine gH ?_
      (first|refine⟨.inr (.inr (ae rfl (O.at (.head _)) rfl rfl)),?_⟩|refine⟨.inr (.inr (ae rfl (O.at (.tail _ (.head _))) rfl rfl)),?_⟩|refine⟨.inr (.inr (ae rfl (O.at (.tail _ (.tail _ (.head _)))) rfl rfl)),?_⟩|refine⟨.inr (.inr (ae rfl (O.at (.tail _ (.tail _ (.tail _ (.head _))))) rfl rfl)),?_⟩|refine⟨.inr (.inr (ae rfl (O.at (.tail _ (.tail _ (.tail _ (.tail _ (.head _)))))) rfl rfl)),?_⟩|refine⟨.inr (.inr (ae rfl (O.at (.tail _ (.tail _ (.tail _ (.tail _ (.tail _ (.head _))))))) rfl rfl)),?_⟩|refine⟨.inr (.inr (ae rfl (O.at (.tail _ (.tail _ (.tail _ (.tail _ (.tail _ (.tail _ (.head _)))))))) rfl rfl)),?_⟩|refine⟨.inl (Ext.refl _),?_⟩|refine⟨.inr (.inr rfl),?_⟩|refine⟨.inr (by kernel_rfl),?_⟩|refine⟨.inl (by kernel_rfl),?_⟩|refine id ?_);refine gH ?_
      refine ca (cF hm O.has) fun r44 hm=>?_;refine gH ?_
      (first|refine⟨.inr (.inr (ae rfl (O.at (.head _)) rfl rfl)),?_⟩|refine⟨.inr (.inr (ae rfl (O.at (.tail _ (.head _))) rfl rfl)),?_⟩|refine⟨.inr (.inr (ae rfl (O.at (.tail _ (.tail _ (.head _)))) rfl rfl)),?_⟩|refine⟨.inr (.inr (ae rfl (O.at (.tail _ (.tail _ (.tail _ (.head _))))) rfl rfl)),?_⟩|refine⟨.inr (.inr (ae rfl (O.at (.tail _ (.tail _ (.tail _ (.tail _ (.head _)))))) rfl rfl)),?_⟩|refine⟨.inr (.inr (ae rfl (O.at (.tail _ (.tail _ (.tail _ (.tail _ (.tail _ (.head _))))))) rfl rfl)),?_⟩|refine⟨.inr (.inr (ae rfl (O.at (.tail _ (.tail _ (.tail _ (.tail _ (.tail _ (.tail _ (.head _)))))))) rfl rfl)),?_⟩|refine⟨.inl (Ext.refl _),?_⟩|refine⟨.inr (.inr rfl),?_⟩|refine⟨.inr (by kernel_rfl),?_⟩|refine⟨.inl (by kernel_rfl),?_⟩|refine id ?_);refine gH ?_
      exact jx r44 hm ⟨ha33,ha34,O⟩
     ·refine gX ?_
      exact jx 2 hm ⟨ha33,ha34,O⟩
    ·clear hm;rintro v37 base h hm ⟨ha38,ha39,O⟩
     refine gX ?_
     refine ldO (O.at (.tail _ (.tail _ (.tail _ (.head _))))) ?_;refine gH ?_
     refine fz ?_;refine gH ?_
     refine O.apL (enc:=n8) (l:=v31) (new:=([v37]:(List Nat))) 1 (.tail _ (.tail _ (.tail _ (.tail _ (.tail _ (.head _)))))) ha39 hm fun a45 h ha46 O hm=>?_;refine gH ?_
     refine O.stC 1 (.tail _ (.tail _ (.tail _ (.head _)))) [(ah 1 a9 (v10.map n8)),(ah 1 a45 ((v31++([v37]:(List Nat))).map n8))] fun h O=>?_;refine gX ?_
     refine aF hm fun hm=>?_;refine gH ?_
     exact jx (((v31++([v37]:(List Nat))),(v32+1)),a45) hm ⟨ha38,ha46,O⟩
   ·refine gX ?_
    exact jx (v31,a30) hm ⟨ha33,ha34,O⟩
  ·clear hm;rintro⟨v25,a24⟩ base h hm ⟨ha26,ha27,O⟩
   refine gX ?_
   refine ldO (O.at (.tail _ (.tail _ (.tail _ (.head _))))) ?_;refine gH ?_
   first|refine⟨.inr (.inr (ae rfl (O.at (.tail _ (.tail _ (.tail _ (.head _))))) rfl rfl)),?_⟩|refine⟨.inr (.inl (by kernel_rfl)),?_⟩
   refine gX ?_
   refine fg Tryz.func73 ?_;refine gX ?_
   refine gK (s:=1) (enc:=n8) (l:=v10) (n:=v10.length) (m:=v10.length) rfl rfl rfl rfl rfl rfl rfl ?_;refine gX ?_
   (first|refine⟨.inr (.inr (ae rfl (O.at (.head _)) rfl rfl)),?_⟩|refine⟨.inr (.inr (ae rfl (O.at (.tail _ (.head _))) rfl rfl)),?_⟩|refine⟨.inr (.inr (ae rfl (O.at (.tail _ (.tail _ (.head _)))) rfl rfl)),?_⟩|refine⟨.inr (.inr (ae rfl (O.at (.tail _ (.tail _ (.tail _ (.head _))))) rfl rfl)),?_⟩|refine⟨.inr (.inr (ae rfl (O.at (.tail _ (.tail _ (.tail _ (.tail _ (.head _)))))) rfl rfl)),?_⟩|refine⟨.inr (.inr (ae rfl (O.at (.tail _ (.tail _ (.tail _ (.tail _ (.tail _ (.head _))))))) rfl rfl)),?_⟩|refine⟨.inr (.inr (ae rfl (O.at (.tail _ (.tail _ (.tail _ (.tail _ (.tail _ (.tail _ (.head _)))))))) rfl rfl)),?_⟩|refine⟨.inl (Ext.refl _),?_⟩|refine⟨.inr (.inr rfl),?_⟩|refine⟨.inr (by kernel_rfl),?_⟩|refine⟨.inl (by kernel_rfl),?_⟩|refine id ?_);refine gH ?_
   refine ldO (O.at (.tail _ (.tail _ (.tail _ (.head _))))) ?_;refine gH ?_
   first|refine⟨.inr (.inr (ae rfl (O.at (.tail _ (.tail _ (.tail _ (.head _))))) rfl rfl)),?_⟩|refine⟨.inr (.inl (by kernel_rfl)),?_⟩
   refine gX ?_
   refine fg Tryz.func73 ?_;refine gX ?_
   refine gK (s:=1) (enc:=n8) (l:=v25) (n:=v25.length) (m:=v25.length) rfl rfl rfl rfl rfl rfl rfl ?_;refine gX ?_
   (first|refine⟨.inr (.inr (ae rfl (O.at (.head _)) rfl rfl)),?_⟩|refine⟨.inr (.inr (ae rfl (O.at (.tail _ (.head _))) rfl rfl)),?_⟩|refine⟨.inr (.inr (ae rfl (O.at (.tail _ (.tail _ (.head _)))) rfl rfl)),?_⟩|refine⟨.inr (.inr (ae rfl (O.at (.tail _ (.tail _ (.tail _ (.head _))))) rfl rfl)),?_⟩|refine⟨.inr (.inr (ae rfl (O.at (.tail _ (.tail _ (.tail _ (.tail _ (.head _)))))) rfl rfl)),?_⟩|refine⟨.inr (.inr (ae rfl (O.at (.tail _ (.tail _ (.tail _ (.tail _ (.tail _ (.head _))))))) rfl rfl)),?_⟩|refine⟨.inr (.inr (ae rfl (O.at (.tail _ (.tail _ (.tail _ (.tail _ (.tail _ (.tail _ (.head _)))))))) rfl rfl)),?_⟩|refine⟨.inl (Ext.refl _),?_⟩|refine⟨.inr (.inr rfl),?_⟩|refine⟨.inr (by kernel_rfl),?_⟩|refine⟨.inl (by kernel_rfl),?_⟩|refine id ?_);refine gH ?_
   refine O.stC 2 (.head _) [(bN a9 (v10.map n8)),(bN a24 (v25.map n8))] fun h O=>?_;refine gH ?_
   (first|refine⟨.inr (.inr (ae rfl (O.at (.head _)) rfl rfl)),?_⟩|refine⟨.inr (.inr (ae rfl (O.at (.tail _ (.head _))) rfl rfl)),?_⟩|refine⟨.inr (.inr (ae rfl (O.at (.tail _ (.tail _ (.head _)))) rfl rfl)),?_⟩|refine⟨.inr (.inr (ae rfl (O.at (.tail _ (.tail _ (.tail _ (.head _))))) rfl rfl)),?_⟩|refine⟨.inr (.inr (ae rfl (O.at (.tail _ (.tail _ (.tail _ (.tail _ (.head _)))))) rfl rfl)),?_⟩|refine⟨.inr (.inr (ae rfl (O.at (.tail _ (.tail _ (.tail _ (.tail _ (.tail _ (.head _))))))) rfl rfl)),?_⟩|refine⟨.inr (.inr (ae rfl (O.at (.tail _ (.tail _ (.tail _ (.tail _ (.tail _ (.tail _ (.head _)))))))) rfl rfl)),?_⟩|refine⟨.inl (Ext.refl _),?_⟩|refine⟨.inr (.inr rfl),?_⟩|refine⟨.inr (by kernel_rfl),?_⟩|refine⟨.inl (by kernel_rfl),?_⟩|refine id ?_);refine gH ?_
   refine gX ?_
   refine⟨_,aD rfl rfl (O.at (.head _)) rfl rfl (lbE rfl) rfl,?_⟩;conv=>whnf
   exact⟨(⟨v10,v25⟩:Rsp),hm,O.ext,fun h2 F=>VLe.agg (LLe.cons (O.iH F (Nat.le_refl _) (.tail _ (.tail _ (.tail _ (.tail _ (.head _))))) ha26 (fun _=>rfl)) (LLe.cons (O.iH F (Nat.le_refl _) (.tail _ (.tail _ (.tail _ (.tail _ (.tail _ (.head _)))))) ha27 (fun _=>rfl)) (LLe.nil _)))⟩
def dY (p0:Circ) (p1:Pat) (K:Nat->Prop):Prop :=
 an (α:=Bool) (fun k2=>((ltN 0 p0.mems.length)=true->k2 true)/\((ltN 0 p0.mems.length)=false->cr p0 ([15]:(List Nat)) (fun r3=>k2 (ltN 0 r3.length)))) (fun v1=>(v1=true->K 7)/\(v1=false->an (α:=Bool) (fun k5=>aT p0 (fun r6=>((neN p1.inp.length r6.length)=true->k5 true)/\((neN p1.inp.length r6.length)=false->aH p0 (fun r7=>k5 (neN p1.state.length r7.length))))) (fun v4=>(v4=true->K 8)/\(v4=false->an (α:=Bool) (fun k9=>cG p1.inp (fun r10=>(r10=true->k9 true)/\(r10=false->cG p1.state (fun r11=>k9 r11)))) (fun v8=>(v8=true->K 1)/\(v8=false->K 0))))))
theorem kI {p0:Circ}{p1:Pat}{K:Nat->Prop} (hm:dY p0 p1 K) {h0:Heap} (hB:HasB vars h0):∃ r,K r/\CallD Tryz.prog NG 35 ⟨[aA p0,bZ p1]⟩ h0 (i64 r) h0:=by
 unfold dY at hm
 refine fw Tryz.func35 hB (enc:=i64) (fun r=>PureV.flat rfl) fun O=>?_;conv=>whnf
 refine gX ?_
 refine fz ?_;refine gH ?_
 refine fz ?_;refine gH ?_
 apply Cs;conv=>whnf
 apply Cs;conv=>whnf
 refine jn hm 43 [2,3] (fun s=>s) (fun v1 h=>Own vars h0 [] h) (fun v1=>[(5,(.bool v1))]) (fun hm=>?_) ?_
 ·refine gX ?_
  refine br hm (fun hm=>?_) fun hm=>?_
  ·refine gX ?_
   exact jx true hm O
  ·refine gX ?_
   refine fz ?_;refine gH ?_
   refine ca (gh hm O.has) fun r3 hm=>?_;refine gH ?_
   exact jx (ltN 0 r3.length) hm O
 ·clear hm;rintro v1 base h hm O
  refine gX ?_
  refine br hm (fun hm=>?_) fun hm=>?_
  ·refine gX ?_
   exact fe hm O
  ·refine jn hm 43 [3] (fun s=>s) (fun v4 h=>Own vars h0 [] h) (fun v4=>[(17,(.bool v4))]) (fun hm=>?_) ?_
   ·refine gX ?_
    refine dF ?_
    refine gX ?_
    refine dF ?_
    refine gX ?_
    refine ca (bG hm O.has) fun r6 hm=>?_;refine gH ?_
    (first|refine⟨.inr (.inr (ae rfl (O.at (.head _)) rfl rfl)),?_⟩|refine⟨.inr (.inr (ae rfl (O.at (.tail _ (.head _))) rfl rfl)),?_⟩|refine⟨.inr (.inr (ae rfl (O.at (.tail _ (.tail _ (.head _)))) rfl rfl)),?_⟩|refine⟨.inr (.inr (ae rfl (O.at (.tail _ (.tail _ (.tail _ (.head _))))) rfl rfl)),?_⟩|refine⟨.inr (.inr (ae rfl (O.at (.tail _ (.tail _ (.tail _ (.tail _ (.head _)))))) rfl rfl)),?_⟩|refine⟨.inr (.inr (ae rfl (O.at (.tail _ (.tail _ (.tail _ (.tail _ (.tail _ (.head _))))))) rfl rfl)),?_⟩|refine⟨.inr (.inr (ae rfl (O.at (.tail _ (.tail _ (.tail _ (.tail _ (.tail _ (.tail _ (.head _)))))))) rfl rfl)),?_⟩|refine⟨.inl (Ext.refl _),?_⟩|refine⟨.inr (.inr rfl),?_⟩|refine⟨.inr (by kernel_rfl),?_⟩|refine⟨.inl (by kernel_rfl),?_⟩|refine id ?_);refine gH ?_
    refine br hm (fun hm=>?_) fun hm=>?_
    ·refine gX ?_
     exact jx true hm O
    ·refine gX ?_
     refine dF ?_
     refine gX ?_
     refine dF ?_
     refine gX ?_
     refine ca (aR hm O.has) fun r7 hm=>?_;refine gH ?_
     (first|refine⟨.inr (.inr (ae rfl (O.at (.head _)) rfl rfl)),?_⟩|refine⟨.inr (.inr (ae rfl (O.at (.tail _ (.head _))) rfl rfl)),?_⟩|refine⟨.inr (.inr (ae rfl (O.at (.tail _ (.tail _ (.head _)))) rfl rfl)),?_⟩|refine⟨.inr (.inr (ae rfl (O.at (.tail _ (.tail _ (.tail _ (.head _))))) rfl rfl)),?_⟩|refine⟨.inr (.inr (ae rfl (O.at (.tail _ (.tail _ (.tail _ (.tail _ (.head _)))))) rfl rfl)),?_⟩|refine⟨.inr (.inr (ae rfl (O.at (.tail _ (.tail _ (.tail _ (.tail _ (.tail _ (.head _))))))) rfl rfl)),?_⟩|refine⟨.inr (.inr (ae rfl (O.at (.tail _ (.tail _ (.tail _ (.tail _ (.tail _ (.tail _ (.head _)))))))) rfl rfl)),?_⟩|refine⟨.inl (Ext.refl _),?_⟩|refine⟨.inr (.inr rfl),?_⟩|refine⟨.inr (by kernel_rfl),?_⟩|refine⟨.inl (by kernel_rfl),?_⟩|refine id ?_);refine gH ?_
     exact jx (neN p1.state.length r7.length) hm O
   ·clear hm;rintro v4 base h hm O
    refine gX ?_
    refine br hm (fun hm=>?_) fun hm=>?_
    ·refine gX ?_
     exact fe hm O
    ·refine jn hm 43 [] (fun s=>s) (fun v8 h=>Own vars h0 [] h) (fun v8=>[(34,(.bool v8))]) (fun hm=>?_) ?_
     ·refine gX ?_
      refine ca (iW hm O.has) fun r10 hm=>?_;refine gH ?_
      refine br hm (fun hm=>?_) fun hm=>?_
      ·refine gX ?_
       exact jx true hm O
      ·refine gX ?_
       refine ca (iW hm O.has) fun r11 hm=>?_;refine gH ?_
       exact jx r11 hm O
     ·clear hm;rintro v8 base h hm O
      refine gX ?_
      refine br hm (fun hm=>?_) fun hm=>?_
      ·refine gX ?_
       exact fe hm O
      ·refine gX ?_
       exact fe hm O
def dK (p0:Circ) (p1:Pat) (K:(Rsp×(List Nat)×Nat)->Prop):Prop :=
 aW p0 (fun r5=>an (α:=Nat) (fun k7=>((eqN r5.2 0)=true->dY p0 p1 (fun r8=>k7 r8))/\((eqN r5.2 0)=false->k7 r5.2)) (fun v6=>((neN v6 0)=true->K ((⟨[],[]⟩:Rsp),[],v6))/\((neN v6 0)=false->1*p0.nodes.length<=2 ^ 48/\p0.nodes.length<2 ^ 63/\an (α:=(List Nat)) (fun k21=>aT p0 (fun r22=>av (S:=((List Nat)×Nat)) (fun (v23,v24) nx25=>((ltN v24 r22.length)=true->∃ x26,r22[v24]?=some x26/\∃ x27,p1.inp[v24]?=some x27/\x26<p0.nodes.length/\∃ x28,v23[x26]?=some x28/\v24+1<2 ^ 63/\nx25 ((v23.set x26 x27),(v24+1)))/\((ltN v24 r22.length)=false->k21 v23)) ((List.replicate p0.nodes.length (0:Nat)),0))) (fun v20=>aH p0 (fun r29=>av (S:=((List Nat)×Nat)) (fun (v30,v31) nx32=>((ltN v31 r29.length)=true->∃ x33,r29[v31]?=some x33/\∃ x34,p1.state[v31]?=some x34/\x33<p0.nodes.length/\∃ x35,v30[x33]?=some x35/\v31+1<2 ^ 63/\nx32 ((v30.set x33 x34),(v31+1)))/\((ltN v31 r29.length)=false->an (α:=(List Nat)) (fun k39=>av (S:=((List Nat)×(List Nat)×Nat×Nat)) (fun (v40,v41,v42,v43) nx44=>((ltN v43 r5.1.length)=true->an (α:=((List Nat)×(List Nat)×Nat)) (fun k48=>∃ x49,r5.1[v43]?=some x49/\∃ x50,p0.nodes[x49]?=some x50/\bW x50.kind (fun r54=>((!r54)=true->k48 (v40,v41,v42))/\((!r54)=false->0<=16/\an (α:=((List Nat)×Nat)) (fun k57=>av (S:=((List Nat)×Nat×Nat)) (fun (v58,v59,v60) nx61=>((ltN v60 x50.ins.length)=true->∃ x62,x50.ins[v60]?=some x62/\x62<p0.nodes.length/\∃ x63,v40[x62]?=some x63/\(v59+1)<=16/\(v59+1)<=v58.length/\v60+1<2 ^ 63/\nx61 ((v58.take v59++(([x63]:(List Nat))++v58.drop (v59+1))),(v59+1),(v60+1)))/\((ltN v60 x50.ins.length)=false->k57 (v58,v59))) (v41,0,0)) (fun (v55,v56)=>v56<=v55.length/\aS x50.kind (v55.take v56) (fun r64=>x49<p0.nodes.length/\∃ x66,v40[x49]?=some x66/\k48 ((v40.set x49 r64),v55,v56)))))) (fun (v45,v46,v47)=>v43+1<2 ^ 63/\nx44 (v45,v46,v47,(v43+1))))/\((ltN v43 r5.1.length)=false->k39 v40)) (v30,(List.replicate 16 (0:Nat)),0,0)) (fun v38=>p0.nodes.length=v38.length/\dU (⟨p0,v38⟩:SRun) (fun r68=>K (r68,v38,0))))) (v20,0))))))
theorem lT {p0:Circ}{p1:Pat}{K:(Rsp×(List Nat)×Nat)->Prop} (hm:dK p0 p1 K) {h0:Heap} (hB:HasB vars h0):∃ r,K r/\CallD Tryz.prog NG 16 ⟨[aA p0,bZ p1]⟩ h0 ((fun (r:(Rsp×(List Nat)×Nat))=>Value.tuple ⟨[cT (r.1),(ag 1 n8) (r.2.1),i64 (r.2.2)]⟩) r) h0:=by
 unfold dK at hm
 refine fw Tryz.func16 hB (enc:=(fun (r:(Rsp×(List Nat)×Nat))=>Value.tuple ⟨[cT (r.1),(ag 1 n8) (r.2.1),i64 (r.2.2)]⟩)) (fun r=>PureV.tup (aj.cons (kH _) (aj.cons (dg (fun _=>aj.cons (PureV.flat rfl) aj.nil)) (aj.cons (PureV.flat rfl) (aj.nil))))) fun O=>?_;conv=>whnf
 refine gX ?_
 refine fz ?_;refine gH ?_
 refine fz ?_;refine gH ?_
 have O:=O.aG (.cells (flatC ((([]:List Nat)).map n8)) false)
 have O:=O.aG (.cells (flatC ((([]:List Nat)).map n8)) false)
 (first|refine O.new (ai (l:=[nS,nS]) rfl rfl rfl) fun g1 h O=>?_|refine O.bB (ai (l:=[nS,nS]) rfl rfl rfl) fun g1 h O=>?_);refine gH ?_
 refine gX ?_
 refine ca (cg hm O.has) fun r5 hm=>?_;refine gH ?_
 refine jn hm 87 [2,3,4,7] (fun s=>s) (fun v6 h=>Own vars h0 [(sC g1 [(ah 1 none (([]:List Nat).map n8)),(ah 1 none (([]:List Nat).map n8))]),(none,.cells (flatC (([]:List Nat).map n8)) false),(none,.cells (flatC (([]:List Nat).map n8)) false)] h) (fun v6=>[(8,(i64 v6))]) (fun hm=>?_) ?_
 ·refine gX ?_
  refine br hm (fun hm=>?_) fun hm=>?_
  ·refine gX ?_
   refine ca (kI hm O.has) fun r8 hm=>?_;refine gH ?_
   exact jx r8 hm (O.sel [0,2,1] (by decide))
  ·refine gX ?_
   exact jx r5.2 hm (O.sel [0,2,1] (by decide))
 ·clear hm;rintro v6 base h hm O
  refine gX ?_
  refine br hm (fun hm=>?_) fun hm=>?_
  ·refine gX ?_
   refine O.stC 2 (.head _) [nS,nS] fun h O=>?_;refine gX ?_
   refine⟨_,aD rfl rfl (O.at (.head _)) rfl rfl (lbE rfl) rfl,?_⟩;conv=>whnf
   exact⟨((⟨[],[]⟩:Rsp),[],v6),hm,O.ext,fun h2 F=>VLe.tup (LLe.cons (VLe.agg (LLe.cons (VLe.nil _ _) (LLe.cons (VLe.nil _ _) (LLe.nil _)))) (LLe.cons (VLe.nil _ _) (LLe.cons (VLe.refl _ _) (LLe.nil _))))⟩
  ·refine gX ?_
   refine dF ?_
   refine gX ?_
   refine dF ?_
   refine gX ?_
   refine O.BA (enc:=n8) (z:=0) (b:=1) (s:=1) (n:=p0.nodes.length) rfl rfl rfl rfl rfl (by decide) (by kernel_rfl) rfl rfl hm.1 hm.2.1 fun g9 h O=>?_;refine gH ?_
   replace hm:=hm.2.2
   have O:=O.aG (.cells (flatC ((([]:List Node)).map al)) false)
   have O:=O.aG (.cells (flatC ((([]:List ByteArray)).map Value.string)) false)
   have O:=O.aG (.cells (flatC ((([]:List Memo)).map ax)) false)
   have O:=O.aG (.cells (flatC ((([]:List Nat)).map i64)) false)
   have O:=O.aG (.cells (flatC ((([]:List Nat)).map n8)) false)
   (first|refine O.new (ai (l:=[nS,nS,nS,nS,nS]) rfl rfl rfl) fun g11 h O=>?_|refine O.bB (ai (l:=[nS,nS,nS,nS,nS]) rfl rfl rfl) fun g11 h O=>?_);refine gH ?_
   refine O.stC 5 (.head _) [((ag 4 al) p0.nodes),((ag 1 Value.string) p0.names),((ag 3 ax) p0.mems),((ag 1 i64) p0.outs),(.slice (some ⟨g9,0,none⟩) p0.nodes.length p0.nodes.length)] fun h O=>?_;refine gH ?_
   (first|refine⟨.inr (.inr (ae rfl (O.at (.head _)) rfl rfl)),?_⟩|refine⟨.inr (.inr (ae rfl (O.at (.tail _ (.head _))) rfl rfl)),?_⟩|refine⟨.inr (.inr (ae rfl (O.at (.tail _ (.tail _ (.head _)))) rfl rfl)),?_⟩|refine⟨.inr (.inr (ae rfl (O.at (.tail _ (.tail _ (.tail _ (.head _))))) rfl rfl)),?_⟩|refine⟨.inr (.inr (ae rfl (O.at (.tail _ (.tail _ (.tail _ (.tail _ (.head _)))))) rfl rfl)),?_⟩|refine⟨.inr (.inr (ae rfl (O.at (.tail _ (.tail _ (.tail _ (.tail _ (.tail _ (.head _))))))) rfl rfl)),?_⟩|refine⟨.inr (.inr (ae rfl (O.at (.tail _ (.tail _ (.tail _ (.tail _ (.tail _ (.tail _ (.head _)))))))) rfl rfl)),?_⟩|refine⟨.inl (Ext.refl _),?_⟩|refine⟨.inr (.inr rfl),?_⟩|refine⟨.inr (by kernel_rfl),?_⟩|refine⟨.inl (by kernel_rfl),?_⟩|refine id ?_);refine gH ?_
   refine gX ?_
   refine ldA (O.at (.head _)) ?_;refine gH ?_
   refine fg Tryz.func36 ?_;refine gX ?_
   (first|refine O.new (lH rfl) fun g18 h O=>?_|refine O.bB (lH rfl) fun g18 h O=>?_);refine gH ?_
   refine fz ?_;refine gH ?_
   refine jn hm 46 [2,3] (fun s=>s) (fun v20 h=>Own vars h0 [(sC g18 [((ag 4 al) p0.nodes),((ag 1 Value.string) p0.names),((ag 3 ax) p0.mems),((ag 1 i64) p0.outs),(.slice (some ⟨g9,0,none⟩) p0.nodes.length p0.nodes.length)]),(sC g9 (flatC (v20.map n8))),(sC g1 [(ah 1 none (([]:List Nat).map n8)),(ah 1 none (([]:List Nat).map n8))]),(none,.cells (flatC (([]:List Nat).map n8)) false),(none,.cells (flatC (([]:List Nat).map n8)) false),(sC g11 [((ag 4 al) p0.nodes),((ag 1 Value.string) p0.names),((ag 3 ax) p0.mems),((ag 1 i64) p0.outs),(.slice (some ⟨g9,0,none⟩) p0.nodes.length p0.nodes.length)])] h) (fun v20=>[]) (fun hm=>?_) ?_
   ·refine gX ?_
    refine ldA (O.at (.head _)) ?_;refine gH ?_
    refine ca (bG hm O.has) fun r22 hm=>?_;refine gX ?_
    refine lw 46 [2,3,10,11] (σ:=((List Nat)×Nat)) (fun s=>s) (fun (v23,v24) h=>Own vars h0 [(sC g18 [((ag 4 al) p0.nodes),((ag 1 Value.string) p0.names),((ag 3 ax) p0.mems),((ag 1 i64) p0.outs),(.slice (some ⟨g9,0,none⟩) p0.nodes.length p0.nodes.length)]),(sC g9 (flatC (v23.map n8))),(sC g1 [(ah 1 none (([]:List Nat).map n8)),(ah 1 none (([]:List Nat).map n8))]),(none,.cells (flatC (([]:List Nat).map n8)) false),(none,.cells (flatC (([]:List Nat).map n8)) false),(sC g11 [((ag 4 al) p0.nodes),((ag 1 Value.string) p0.names),((ag 3 ax) p0.mems),((ag 1 i64) p0.outs),(.slice (some ⟨g9,0,none⟩) p0.nodes.length p0.nodes.length)])] h) (fun (v23,v24)=>[(12,(i64 v24))]) ((List.replicate p0.nodes.length (0:Nat)),0) hm (O.sel [0,7,8,9,10,1] (by decide)) ?_
    clear hm;rintro⟨v23,v24⟩ nx25 base h hm O
    refine gX ?_
    refine br hm (fun hm=>?_) fun hm=>?_
    ·refine gX ?_
     refine atF hm fun x26 hx26 hm=>?_;refine gX ?_
     first|refine⟨.inr (.inr (ae rfl (O.at (.head _)) rfl rfl)),?_⟩|refine⟨.inr (.inl (by kernel_rfl)),?_⟩
     refine gX ?_
     refine dF ?_
     refine gX ?_
     refine atF hm fun x27 hx27 hm=>?_;refine gH ?_
     refine ix 1 hm fun x28 hx28 hm=>?_;refine gH ?_
     refine O.stE 1 (.tail _ (.head _)) hx28 x27 fun h O=>?_;refine gH ?_
     (first|refine⟨.inr (.inr (ae rfl (O.at (.head _)) rfl rfl)),?_⟩|refine⟨.inr (.inr (ae rfl (O.at (.tail _ (.head _))) rfl rfl)),?_⟩|refine⟨.inr (.inr (ae rfl (O.at (.tail _ (.tail _ (.head _)))) rfl rfl)),?_⟩|refine⟨.inr (.inr (ae rfl (O.at (.tail _ (.tail _ (.tail _ (.head _))))) rfl rfl)),?_⟩|refine⟨.inr (.inr (ae rfl (O.at (.tail _ (.tail _ (.tail _ (.tail _ (.head _)))))) rfl rfl)),?_⟩|refine⟨.inr (.inr (ae rfl (O.at (.tail _ (.tail _ (.tail _ (.tail _ (.tail _ (.head _))))))) rfl rfl)),?_⟩|refine⟨.inr (.inr (ae rfl (O.at (.tail _ (.tail _ (.tail _ (.tail _ (.tail _ (.tail _ (.head _)))))))) rfl rfl)),?_⟩|refine⟨.inl (Ext.refl _),?_⟩|refine⟨.inr (.inr rfl),?_⟩|refine⟨.inr (by kernel_rfl),?_⟩|refine⟨.inl (by kernel_rfl),?_⟩|refine id ?_);refine gH ?_
     refine gX ?_
     refine aF hm fun hm=>?_;refine gH ?_
     exact jx ((v23.set x26 x27),(v24+1)) hm O
    ·refine gX ?_
     exact jx v23 hm O
   ·clear hm;rintro v20 base h hm O
    refine gX ?_
    refine ldA (O.at (.head _)) ?_;refine gH ?_
    refine ca (aR hm O.has) fun r29 hm=>?_;refine gX ?_
    refine lw 46 [2,3,29,30] (σ:=((List Nat)×Nat)) (fun s=>s) (fun (v30,v31) h=>Own vars h0 [(sC g18 [((ag 4 al) p0.nodes),((ag 1 Value.string) p0.names),((ag 3 ax) p0.mems),((ag 1 i64) p0.outs),(.slice (some ⟨g9,0,none⟩) p0.nodes.length p0.nodes.length)]),(sC g9 (flatC (v30.map n8))),(sC g1 [(ah 1 none (([]:List Nat).map n8)),(ah 1 none (([]:List Nat).map n8))]),(none,.cells (flatC (([]:List Nat).map n8)) false),(none,.cells (flatC (([]:List Nat).map n8)) false),(sC g11 [((ag 4 al) p0.nodes),((ag 1 Value.string) p0.names),((ag 3 ax) p0.mems),((ag 1 i64) p0.outs),(.slice (some ⟨g9,0,none⟩) p0.nodes.length p0.nodes.length)])] h) (fun (v30,v31)=>[(31,(i64 v31))]) (v20,0) hm O ?_
    clear hm;rintro⟨v30,v31⟩ nx32 base h hm O
    refine gX ?_
    refine br hm (fun hm=>?_) fun hm=>?_
    ·refine gX ?_
     refine atF hm fun x33 hx33 hm=>?_;refine gX ?_
     first|refine⟨.inr (.inr (ae rfl (O.at (.head _)) rfl rfl)),?_⟩|refine⟨.inr (.inl (by kernel_rfl)),?_⟩
     refine gX ?_
     refine dF ?_
     refine gX ?_
     refine atF hm fun x34 hx34 hm=>?_;refine gH ?_
     refine ix 1 hm fun x35 hx35 hm=>?_;refine gH ?_
     refine O.stE 1 (.tail _ (.head _)) hx35 x34 fun h O=>?_;refine gH ?_
     (first|refine⟨.inr (.inr (ae rfl (O.at (.head _)) rfl rfl)),?_⟩|refine⟨.inr (.inr (ae rfl (O.at (.tail _ (.head _))) rfl rfl)),?_⟩|refine⟨.inr (.inr (ae rfl (O.at (.tail _ (.tail _ (.head _)))) rfl rfl)),?_⟩|refine⟨.inr (.inr (ae rfl (O.at (.tail _ (.tail _ (.tail _ (.head _))))) rfl rfl)),?_⟩|refine⟨.inr (.inr (ae rfl (O.at (.tail _ (.tail _ (.tail _ (.tail _ (.head _)))))) rfl rfl)),?_⟩|refine⟨.inr (.inr (ae rfl (O.at (.tail _ (.tail _ (.tail _ (.tail _ (.tail _ (.head _))))))) rfl rfl)),?_⟩|refine⟨.inr (.inr (ae rfl (O.at (.tail _ (.tail _ (.tail _ (.tail _ (.tail _ (.tail _ (.head _)))))))) rfl rfl)),?_⟩|refine⟨.inl (Ext.refl _),?_⟩|refine⟨.inr (.inr rfl),?_⟩|refine⟨.inr (by kernel_rfl),?_⟩|refine⟨.inl (by kernel_rfl),?_⟩|refine id ?_);refine gH ?_
     refine gX ?_
     refine aF hm fun hm=>?_;refine gH ?_
     exact jx ((v30.set x33 x34),(v31+1)) hm O
    ·refine gX ?_
     refine O.Cc (enc:=n8) (z:=0) (b:=1) (s:=1) (m:=0) (n:=16) rfl rfl rfl rfl rfl (by decide) (by kernel_rfl) rfl rfl (by decide) (by decide) (by decide) fun g36 h O=>?_;refine gH ?_
     refine jn hm 87 [4,9] (fun s=>s) (fun v38 h=>Own vars h0 [(sC g1 [(ah 1 none (([]:List Nat).map n8)),(ah 1 none (([]:List Nat).map n8))]),(none,.cells (flatC (([]:List Nat).map n8)) false),(none,.cells (flatC (([]:List Nat).map n8)) false),(sC g11 [((ag 4 al) p0.nodes),((ag 1 Value.string) p0.names),((ag 3 ax) p0.mems),((ag 1 i64) p0.outs),(.slice (some ⟨g9,0,none⟩) p0.nodes.length p0.nodes.length)]),(sC g9 (flatC (v38.map n8)))] h) (fun v38=>[]) (fun hm=>?_) ?_
     ·refine gX ?_
      refine lw 87 [4,9,40,41] (σ:=((List Nat)×(List Nat)×Nat×Nat)) (fun s=>s) (fun (v40,v41,v42,v43) h=>Own vars h0 [(sC g1 [(ah 1 none (([]:List Nat).map n8)),(ah 1 none (([]:List Nat).map n8))]),(none,.cells (flatC (([]:List Nat).map n8)) false),(none,.cells (flatC (([]:List Nat).map n8)) false),(sC g11 [((ag 4 al) p0.nodes),((ag 1 Value.string) p0.names),((ag 3 ax) p0.mems),((ag 1 i64) p0.outs),(.slice (some ⟨g9,0,none⟩) p0.nodes.length p0.nodes.length)]),(sC g9 (flatC (v40.map n8))),(sC g36 (flatC (v41.map n8)))] h) (fun (v40,v41,v42,v43)=>[(10,(.slice (some ⟨g36,0,none⟩) v42 16)),(42,(i64 v43))]) (v30,(List.replicate 16 (0:Nat)),0,0) hm (O.sel [3,4,5,6,2,0] (by decide)) ?_
      clear hm;rintro⟨v40,v41,v42,v43⟩ nx44 base h hm O
      refine gX ?_
      refine br hm (fun hm=>?_) fun hm=>?_
      ·apply Cs;conv=>whnf
       refine jn hm 87 [4,9,40,41,42] (fun s=>s) (fun (v45,v46,v47) h=>Own vars h0 [(sC g1 [(ah 1 none (([]:List Nat).map n8)),(ah 1 none (([]:List Nat).map n8))]),(none,.cells (flatC (([]:List Nat).map n8)) false),(none,.cells (flatC (([]:List Nat).map n8)) false),(sC g11 [((ag 4 al) p0.nodes),((ag 1 Value.string) p0.names),((ag 3 ax) p0.mems),((ag 1 i64) p0.outs),(.slice (some ⟨g9,0,none⟩) p0.nodes.length p0.nodes.length)]),(sC g9 (flatC (v45.map n8))),(sC g36 (flatC (v46.map n8)))] h) (fun (v45,v46,v47)=>[(10,(.slice (some ⟨g36,0,none⟩) v47 16))]) (fun hm=>?_) ?_
       ·refine gX ?_
        refine atF hm fun x49 hx49 hm=>?_;refine gX ?_
        refine ldO (O.at (.tail _ (.tail _ (.tail _ (.head _))))) ?_;refine gH ?_
        refine atF hm fun x50 hx50 hm=>?_;refine gH ?_
        have O:=O.aG (.cells (flatC ((([]:List Nat)).map i64)) false)
        (first|refine O.new (ai (l:=[(n8 0),nS,(i64 0),(i64 0)]) rfl rfl rfl) fun g51 h O=>?_|refine O.bB (ai (l:=[(n8 0),nS,(i64 0),(i64 0)]) rfl rfl rfl) fun g51 h O=>?_);refine gH ?_
        refine O.stC 4 (.head _) [(n8 x50.kind),((ag 1 i64) x50.ins),(i64 x50.mem),(i64 x50.bit)] fun h O=>?_;refine gX ?_
        refine ca (fj hm O.has) fun r54 hm=>?_;refine gX ?_
        refine br hm (fun hm=>?_) fun hm=>?_
        ·refine gX ?_
         exact jx (v40,v41,v42) hm (O.sel [2,3,4,5,6,7] (by decide))
        ·refine gX ?_
         refine Bi (s:=1) (m:=0) rfl rfl rfl rfl hm.1 ?_;refine gH ?_
         replace hm:=hm.2
         refine jn hm 87 [4,9,12,13,40,41,42] (fun s=>s) (fun (v55,v56) h=>Own vars h0 [(sC g1 [(ah 1 none (([]:List Nat).map n8)),(ah 1 none (([]:List Nat).map n8))]),(none,.cells (flatC (([]:List Nat).map n8)) false),(none,.cells (flatC (([]:List Nat).map n8)) false),(sC g11 [((ag 4 al) p0.nodes),((ag 1 Value.string) p0.names),((ag 3 ax) p0.mems),((ag 1 i64) p0.outs),(.slice (some ⟨g9,0,none⟩) p0.nodes.length p0.nodes.length)]),(sC g9 (flatC (v40.map n8))),(sC g36 (flatC (v55.map n8))),(sC g51 [(n8 x50.kind),((ag 1 i64) x50.ins),(i64 x50.mem),(i64 x50.bit)])] h) (fun (v55,v56)=>[(10,(.slice (some ⟨g36,0,none⟩) v56 16))]) (fun hm=>?_) ?_
         ·refine gX ?_
          refine lw 87 [4,9,12,13,40,41,42,59,60] (σ:=((List Nat)×Nat×Nat)) (fun s=>s) (fun (v58,v59,v60) h=>Own vars h0 [(sC g1 [(ah 1 none (([]:List Nat).map n8)),(ah 1 none (([]:List Nat).map n8))]),(none,.cells (flatC (([]:List Nat).map n8)) false),(none,.cells (flatC (([]:List Nat).map n8)) false),(sC g11 [((ag 4 al) p0.nodes),((ag 1 Value.string) p0.names),((ag 3 ax) p0.mems),((ag 1 i64) p0.outs),(.slice (some ⟨g9,0,none⟩) p0.nodes.length p0.nodes.length)]),(sC g9 (flatC (v40.map n8))),(sC g36 (flatC (v58.map n8))),(sC g51 [(n8 x50.kind),((ag 1 i64) x50.ins),(i64 x50.mem),(i64 x50.bit)])] h) (fun (v58,v59,v60)=>[(10,(.slice (some ⟨g36,0,none⟩) v59 16)),(61,(i64 v60))]) (v41,0,0) hm (O.sel [2,3,4,5,6,7,0] (by decide)) ?_
          clear hm;rintro⟨v58,v59,v60⟩ nx61 base h hm O
          refine gX ?_
          refine br hm (fun hm=>?_) fun hm=>?_
          ·refine gX ?_
           refine atF hm fun x62 hx62 hm=>?_;refine gX ?_
           refine ldO (O.at (.tail _ (.tail _ (.tail _ (.head _))))) ?_;refine gH ?_
           refine ix 1 hm fun x63 hx63 hm=>?_;refine gH ?_
           refine ldE (s:=1) (i:=0) (O.at (.tail _ (.tail _ (.tail _ (.tail _ (.head _)))))) hx63 ?_;refine gH ?_
           refine fz ?_;refine gH ?_
           refine O.AQ (enc:=n8) (l:=v58) (new:=([x63]:(List Nat))) (s:=1) (b:=1) (.tail _ (.tail _ (.tail _ (.tail _ (.tail _ (.head _)))))) rfl rfl rfl rfl rfl rfl rfl (YOk.fl rfl) (fun _=>rfl) (fun _=>rfl) (Nat.zero_lt_succ _) hm.1 hm.2.1 fun h O=>?_;refine gX ?_
           replace hm:=hm.2.2
           refine aF hm fun hm=>?_;refine gH ?_
           exact jx ((v58.take v59++(([x63]:(List Nat))++v58.drop (v59+1))),(v59+1),(v60+1)) hm O
          ·refine gX ?_
           exact jx (v58,v59) hm O
         ·clear hm;rintro⟨v55,v56⟩ base h hm O
          refine gX ?_
          refine ldO (O.at (.tail _ (.tail _ (.tail _ (.head _))))) ?_;refine gH ?_
          first|refine⟨.inr (.inr (ae rfl (O.at (.tail _ (.tail _ (.tail _ (.head _))))) rfl rfl)),?_⟩|refine⟨.inr (.inl (by kernel_rfl)),?_⟩
          refine gX ?_
          refine ldO (O.at (.tail _ (.tail _ (.tail _ (.tail _ (.tail _ (.tail _ (.head _)))))))) ?_;refine gH ?_
          obtain⟨hn65,hm⟩:=hm
          refine CallD.yX (fun _ hb=>cH hm hb) (fun _=>js rfl) oy O.has (fun h2 F=>(LLe.cons (VLe.refl _ _) (LLe.cons (O.Cb F (Nat.zero_le _) (.tail _ (.tail _ (.tail _ (.tail _ (.tail _ (.head _)))))) (fun _=>rfl) hn65) (LLe.nil _)))) (by kernel_rfl) (fun r64 hm'=>?_);replace hm:=hm';refine gH ?_
          (first|refine⟨.inr (.inr (ae rfl (O.at (.head _)) rfl rfl)),?_⟩|refine⟨.inr (.inr (ae rfl (O.at (.tail _ (.head _))) rfl rfl)),?_⟩|refine⟨.inr (.inr (ae rfl (O.at (.tail _ (.tail _ (.head _)))) rfl rfl)),?_⟩|refine⟨.inr (.inr (ae rfl (O.at (.tail _ (.tail _ (.tail _ (.head _))))) rfl rfl)),?_⟩|refine⟨.inr (.inr (ae rfl (O.at (.tail _ (.tail _ (.tail _ (.tail _ (.head _)))))) rfl rfl)),?_⟩|refine⟨.inr (.inr (ae rfl (O.at (.tail _ (.tail _ (.tail _ (.tail _ (.tail _ (.head _))))))) rfl rfl)),?_⟩|refine⟨.inr (.inr (ae rfl (O.at (.tail _ (.tail _ (.tail _ (.tail _ (.tail _ (.tail _ (.head _)))))))) rfl rfl)),?_⟩|refine⟨.inl (Ext.refl _),?_⟩|refine⟨.inr (.inr rfl),?_⟩|refine⟨.inr (by kernel_rfl),?_⟩|refine⟨.inl (by kernel_rfl),?_⟩|refine id ?_);refine gH ?_
          refine ix 1 hm fun x66 hx66 hm=>?_;refine gH ?_
          refine O.stE 1 (.tail _ (.tail _ (.tail _ (.tail _ (.head _))))) hx66 r64 fun h O=>?_;refine gH ?_
          (first|refine⟨.inr (.inr (ae rfl (O.at (.head _)) rfl rfl)),?_⟩|refine⟨.inr (.inr (ae rfl (O.at (.tail _ (.head _))) rfl rfl)),?_⟩|refine⟨.inr (.inr (ae rfl (O.at (.tail _ (.tail _ (.head _)))) rfl rfl)),?_⟩|refine⟨.inr (.inr (ae rfl (O.at (.tail _ (.tail _ (.tail _ (.head _))))) rfl rfl)),?_⟩|refine⟨.inr (.inr (ae rfl (O.at (.tail _ (.tail _ (.tail _ (.tail _ (.head _)))))) rfl rfl)),?_⟩|refine⟨.inr (.inr (ae rfl (O.at (.tail _ (.tail _ (.tail _ (.tail _ (.tail _ (.head _))))))) rfl rfl)),?_⟩|refine⟨.inr (.inr (ae rfl (O.at (.tail _ (.tail _ (.tail _ (.tail _ (.tail _ (.tail _ (.head _)))))))) rfl rfl)),?_⟩|refine⟨.inl (Ext.refl _),?_⟩|refine⟨.inr (.inr rfl),?_⟩|refine⟨.inr (by kernel_rfl),?_⟩|refine⟨.inl (by kernel_rfl),?_⟩|refine id ?_);refine gH ?_
          exact jx ((v40.set x49 r64),v55,v56) hm (O.sel [0,1,2,3,4,5] (by decide))
       ·clear hm;rintro⟨v45,v46,v47⟩ base h hm O
        refine gX ?_
        refine aF hm fun hm=>?_;refine gH ?_
        exact jx (v45,v46,v47,(v43+1)) hm O
      ·refine gX ?_
       exact jx v40 hm (O.sel [0,1,2,3,4] (by decide))
     ·clear hm;rintro v38 base h hm O
      conv=>whnf
      apply Cs;conv=>whnf
      obtain⟨hn67,hm⟩:=hm
      refine CodeS.zj (cs2':=[((ag 4 al) p0.nodes),((ag 1 Value.string) p0.names),((ag 3 ax) p0.mems),((ag 1 i64) p0.outs),((ag 1 n8) v38)]) (v:=(.agg ⟨[((ag 4 al) p0.nodes),((ag 1 Value.string) p0.names),((ag 3 ax) p0.mems),((ag 1 i64) p0.outs),((ag 1 n8) v38)]⟩)) O (.tail _ (.tail _ (.tail _ (.tail _ (.head _))))) (.tail _ (.tail _ (.tail _ (.head _)))) (j:=4) (t2:=9) rfl rfl rfl rfl (fun h2 q=>(LLe.cons (VLe.refl _ _) (LLe.cons (VLe.refl _ _) (LLe.cons (VLe.refl _ _) (LLe.cons (VLe.refl _ _) (LLe.cons (VLe.flM q hn67 (fun _=>rfl)) (LLe.nil _))))))) fun h O=>?_;conv=>whnf
      refine CodeS.jc ?_;refine gH ?_
      refine ca (oj hm O.has) fun r68 hm=>?_;refine gH ?_
      refine O.stC 2 (.head _) [((ag 1 n8) r68.out),((ag 1 n8) r68.next)] fun h O=>?_;refine gX ?_
      refine⟨_,aD rfl rfl (O.at (.head _)) rfl rfl (lbE rfl) rfl,?_⟩;conv=>whnf
      exact⟨(r68,v38,0),hm,O.ext,fun h2 F=>VLe.tup (LLe.cons (VLe.refl _ _) (LLe.cons (VLe.refl _ _) (LLe.cons (VLe.refl _ _) (LLe.nil _))))⟩
def eP (p0:Circ) (p1:Pat) (K:Nat->Prop):Prop :=
 cc p0 (fun r1=>((neN r1 0)=true->K r1)/\((neN r1 0)=false->dY p0 p1 (fun r2=>K r2)))
theorem pB {p0:Circ}{p1:Pat}{K:Nat->Prop} (hm:eP p0 p1 K) {h0:Heap} (hB:HasB vars h0):∃ r,K r/\CallD Tryz.prog NG 54 ⟨[aA p0,bZ p1]⟩ h0 (i64 r) h0:=by
 unfold eP at hm
 refine fw Tryz.func54 hB (enc:=i64) (fun r=>PureV.flat rfl) fun O=>?_;conv=>whnf
 refine gX ?_
 refine fz ?_;refine gH ?_
 refine fz ?_;refine gX ?_
 refine ca (gQ hm O.has) fun r1 hm=>?_;refine gX ?_
 refine br hm (fun hm=>?_) fun hm=>?_
 ·refine gX ?_
  exact fe hm O
 ·refine gX ?_
  refine ca (kI hm O.has) fun r2 hm=>?_;refine gX ?_
  exact fe hm O
end Go.Proofs.YteceaohcjmbfbaaGreatDoor
