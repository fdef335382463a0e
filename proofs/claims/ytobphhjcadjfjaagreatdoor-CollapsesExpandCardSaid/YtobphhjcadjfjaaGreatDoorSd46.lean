/-
  C5, Ms, Lnz, S2, J0: parts of the proof.
-/
import Derived.Test.YtobphhjcadjfjaaGreatDoorSd45
namespace Go.Proofs.YtobphhjcadjfjaaGreatDoor
open Go.Abs
set_option maxRecDepth 100000
set_option maxHeartbeats 8000000
def iv (p0:CData) (K:Circ->Prop):Prop :=
 an (α:=(List Node)) (fun k12=>au (S:=((List Node)×Nat)) (fun (v14,v15) nx17=>0<4/\(p0.inp%4)<256/\((!ltN (p0.inp%4) v15)=true->(v14.length+([(⟨0,([]:(List Nat)),0,0⟩:Node)]:(List Node)).length)*48<=2 ^ 47/\v15+1<2 ^ 63/\nx17 ((v14++([(⟨0,([]:(List Nat)),0,0⟩:Node)]:(List Node))),(v15+1)))/\((!ltN (p0.inp%4) v15)=false->k12 v14)) (([]:List Node),0)) (fun v10=>0<3/\(p0.dffs%3)<256/\an (α:=(List Node)) (fun k23=>au (S:=((List Node)×Nat)) (fun (v25,v26) nx28=>((ltN v26 (p0.dffs%3))=true->(v25.length+([(⟨14,([0]:(List Nat)),0,0⟩:Node)]:(List Node)).length)*48<=2 ^ 47/\v26+1<2 ^ 63/\nx28 ((v25++([(⟨14,([0]:(List Nat)),0,0⟩:Node)]:(List Node))),(v26+1)))/\((ltN v26 (p0.dffs%3))=false->k23 v25)) (v10,0)) (fun v21=>an (α:=(List Node)) (fun k34=>(p0.mem=true->(v21.length+([(⟨15,([]:(List Nat)),0,0⟩:Node),(⟨15,([]:(List Nat)),0,1⟩:Node)]:(List Node)).length)*48<=2 ^ 47/\k34 (v21++([(⟨15,([]:(List Nat)),0,0⟩:Node),(⟨15,([]:(List Nat)),0,1⟩:Node)]:(List Node))))/\(p0.mem=false->k34 v21)) (fun v32=>an (α:=(List Node)) (fun k40=>au (S:=((List Node)×Nat)) (fun (v42,v43) nx45=>an (α:=Bool) (fun k48=>((ltN v43 p0.gates.length)=true->k48 (ltN v43 8))/\((ltN v43 p0.gates.length)=false->k48 false)) (fun v46=>(v46=true->∃ x49,p0.gates[v43]?=some x49/\GOk x49/\0<v42.length/\v42.length<=1000/\(v42.length+([(iA p0.bus x49 (v42.map Node.kind))]:(List Node)).length)*48<=2 ^ 47/\v43+1<2 ^ 63/\nx45 ((v42++([(iA p0.bus x49 (v42.map Node.kind))]:(List Node))),(v43+1)))/\(v46=false->k40 v42))) (v32,0)) (fun v38=>an (α:=(List Node)) (fun k58=>au (S:=((List Node)×Nat)) (fun (v60,v61) nx63=>((ltN v61 (p0.dffs%3))=true->v10.length+v61<2 ^ 63/\v61<2/\(v61=0->p0.data0<256/\0<v38.length/\∃ x66,v60[(v10.length+v61)]?=some x66/\v61+1<2 ^ 63/\nx63 ((v60.set (v10.length+v61) { x66 with ins:=([(p0.data0%v38.length)]:(List Nat)) }),(v61+1)))/\(v61=1->p0.data1<256/\0<v38.length/\∃ x70,v60[(v10.length+v61)]?=some x70/\v61+1<2 ^ 63/\nx63 ((v60.set (v10.length+v61) { x70 with ins:=([(p0.data1%v38.length)]:(List Nat)) }),(v61+1))))/\((ltN v61 (p0.dffs%3))=false->k58 v60)) (v38,0)) (fun v56=>(p0.mem=true->p0.port0<256/\0<v38.length/\p0.port1<256/\0<v38.length/\p0.port2<256/\0<v38.length/\p0.port3<256/\0<v38.length/\an (α:=(List ByteArray)) (fun k82=>au (S:=((List ByteArray)×Nat)) (fun (v84,v85) nx88=>((ltN v85 v38.length)=true->gY v85 (fun r89=>(v84.length+([r89]:(List ByteArray)).length)*16<=2 ^ 47/\v85+1<2 ^ 63/\nx88 ((v84++([r89]:(List ByteArray))),(v85+1))))/\((ltN v85 v38.length)=false->k82 v84)) (([]:List ByteArray),0)) (fun v79=>an (α:=(List Nat)) (fun k99=>au (S:=((List Nat)×Nat)) (fun (v101,v102) nx106=>an (α:=Bool) (fun k111=>((ltN v102 p0.outs.length)=true->k111 (ltN v102 3))/\((ltN v102 p0.outs.length)=false->k111 false)) (fun v107=>(v107=true->∃ x112,p0.outs[v102]?=some x112/\x112<256/\0<v38.length/\(v101.length+([(x112%v38.length)]:(List Nat)).length)*8<=2 ^ 47/\v102+1<2 ^ 63/\nx106 ((v101++([(x112%v38.length)]:(List Nat))),(v102+1)))/\(v107=false->k99 v101))) (([]:List Nat),0)) (fun v95=>1<=v38.length/\v38.length<2 ^ 63/\(v95.length+([(v38.length-1)]:(List Nat)).length)*8<=2 ^ 47/\1=([(p0.port0%v38.length)]:(List Nat)).length/\2=([(p0.port1%v38.length),(p0.port2%v38.length)]:(List Nat)).length/\1=([(p0.port0%v38.length)]:(List Nat)).length/\2=([(p0.port1%v38.length),(p0.port2%v38.length)]:(List Nat)).length/\K (⟨v56,v79,[(⟨([(p0.port0%v38.length)]:(List Nat)),([(p0.port1%v38.length),(p0.port2%v38.length)]:(List Nat)),(p0.port3%v38.length)⟩:Memo)],(v95++([(v38.length-1)]:(List Nat)))⟩:Circ))))/\(p0.mem=false->an (α:=(List ByteArray)) (fun k127=>au (S:=((List ByteArray)×Nat)) (fun (v129,v130) nx133=>((ltN v130 v38.length)=true->gY v130 (fun r134=>(v129.length+([r134]:(List ByteArray)).length)*16<=2 ^ 47/\v130+1<2 ^ 63/\nx133 ((v129++([r134]:(List ByteArray))),(v130+1))))/\((ltN v130 v38.length)=false->k127 v129)) (([]:List ByteArray),0)) (fun v124=>an (α:=(List Nat)) (fun k144=>au (S:=((List Nat)×Nat)) (fun (v146,v147) nx151=>an (α:=Bool) (fun k156=>((ltN v147 p0.outs.length)=true->k156 (ltN v147 3))/\((ltN v147 p0.outs.length)=false->k156 false)) (fun v152=>(v152=true->∃ x157,p0.outs[v147]?=some x157/\x157<256/\0<v38.length/\(v146.length+([(x157%v38.length)]:(List Nat)).length)*8<=2 ^ 47/\v147+1<2 ^ 63/\nx151 ((v146++([(x157%v38.length)]:(List Nat))),(v147+1)))/\(v152=false->k144 v146))) (([]:List Nat),0)) (fun v140=>1<=v38.length/\v38.length<2 ^ 63/\(v140.length+([(v38.length-1)]:(List Nat)).length)*8<=2 ^ 47/\K (⟨v56,v124,([]:List Memo),(v140++([(v38.length-1)]:(List Nat)))⟩:Circ)))))))))
theorem tE {p0:CData}{K:Circ->Prop} (hm:iv p0 K) {h0:Heap} (hB:HasB vars h0):∃ r,K r/\CallD Tryz.prog NG 28 ⟨[bH p0]⟩ h0 (aB r) h0:=by
 unfold iv at hm
 refine fw Tryz.func28 hB (enc:=aB) (fun r=>mQ _) fun O=>?_;conv=>whnf
 refine gX ?_
 refine fz ?_;refine gH ?_
 refine O.new (ak (l:=[nS,nS,nS,nS]) rfl rfl rfl) fun g1 h O=>?_;refine gH ?_
 refine gX ?_
 have O:=O.aN (.cells (flatC ((([]:List Node)).map al)) false)
 have O:=O.aN (.cells (flatC ((([]:List ByteArray)).map Value.string)) false)
 have O:=O.aN (.cells (flatC ((([]:List Memo)).map av)) false)
 have O:=O.aN (.cells (flatC ((([]:List Nat)).map i64)) false)
 refine O.new (ak (l:=[nS,nS,nS,nS]) rfl rfl rfl) fun g3 h O=>?_;refine gH ?_
 refine jn (σ:=(List Node)×Option Nat) hm 178 [1,2,3] (fun s=>s.1) (fun (v10,a9) h=>(a9=none->v10=[])/\Own vars h0 [(sC g1 [nS,nS,nS,nS]),(sC g3 [(ag 4 a9 (v10.map al)),(ag 1 none (([]:List ByteArray).map Value.string)),(ag 3 none (([]:List Memo).map av)),(ag 1 none (([]:List Nat).map i64))]),(a9,.cells (flatC (v10.map al)) false),(none,.cells (flatC (([]:List ByteArray).map Value.string)) false),(none,.cells (flatC (([]:List Memo).map av)) false),(none,.cells (flatC (([]:List Nat).map i64)) false)] h) (fun (v10,a9)=>[]) (fun hm=>?_) ?_
 ·refine gX ?_
  refine lw 178 [1,2,3] (σ:=((List Node)×Nat)×Option Nat) (fun s=>s.1) (fun ((v14,v15),a13) h=>(a13=none->v14=[])/\Own vars h0 [(sC g1 [nS,nS,nS,nS]),(sC g3 [(ag 4 a13 (v14.map al)),(ag 1 none (([]:List ByteArray).map Value.string)),(ag 3 none (([]:List Memo).map av)),(ag 1 none (([]:List Nat).map i64))]),(a13,.cells (flatC (v14.map al)) false),(none,.cells (flatC (([]:List ByteArray).map Value.string)) false),(none,.cells (flatC (([]:List Memo).map av)) false),(none,.cells (flatC (([]:List Nat).map i64)) false)] h) (fun ((v14,v15),a13)=>[(4,(i64 v15))]) ((([]:List Node),0),none) hm ⟨(fun _=>rfl),(O.sel [5,0,4,3,2,1] (by decide))⟩ ?_
  clear hm;rintro⟨⟨v14,v15⟩,a13⟩ nx17 base h hm ⟨ha16,O⟩
  refine gX ?_
  refine qV hm fun hm=>?_;refine gH ?_
  refine aCv hm wI8 fun hm=>?_;refine gX ?_
  refine br hm (fun hm=>?_) fun hm=>?_
  ·refine gX ?_
   refine NewG.frzW rfl (VLe.els (s:=4) (es':=([(⟨0,([]:(List Nat)),0,0⟩:Node)]).map al) rfl (cb (enc:=al) (s:=4) (fun _=>rfl) _) (LLe.cons (VLe.refl _ _) (LLe.cons (VLe.nil _ _) (LLe.cons (VLe.refl _ _) (LLe.cons (VLe.refl _ _) (LLe.nil _)))))) ?_;refine gH ?_
   refine O.apL (enc:=al) (l:=v14) (new:=([(⟨0,([]:(List Nat)),0,0⟩:Node)]:(List Node))) 4 (.tail _ (.tail _ (.head _))) ha16 hm fun a18 h ha19 O hm=>?_;refine gH ?_
   refine O.stC 1 (.tail _ (.head _)) [(ag 4 a18 ((v14++([(⟨0,([]:(List Nat)),0,0⟩:Node)]:(List Node))).map al)),(ag 1 none (([]:List ByteArray).map Value.string)),(ag 3 none (([]:List Memo).map av)),(ag 1 none (([]:List Nat).map i64))] fun h O=>?_;refine gX ?_
   refine aL hm fun hm=>?_;refine gH ?_
   exact jx (((v14++([(⟨0,([]:(List Nat)),0,0⟩:Node)]:(List Node))),(v15+1)),a18) hm ⟨ha19,O⟩
  ·refine gX ?_
   exact jx (v14,a13) hm ⟨ha16,O⟩
 ·clear hm;rintro⟨v10,a9⟩ base h hm ⟨ha11,O⟩
  refine gX ?_
  refine qV hm fun hm=>?_;refine gH ?_
  refine aCv hm wI8 fun hm=>?_;refine gH ?_
  refine jn (σ:=(List Node)×Option Nat) hm 178 [1,2,3,5,6] (fun s=>s.1) (fun (v21,a20) h=>(a20=none->v21=[])/\Own vars h0 [(sC g1 [nS,nS,nS,nS]),(sC g3 [(ag 4 a20 (v21.map al)),(ag 1 none (([]:List ByteArray).map Value.string)),(ag 3 none (([]:List Memo).map av)),(ag 1 none (([]:List Nat).map i64))]),(a20,.cells (flatC (v21.map al)) false),(none,.cells (flatC (([]:List ByteArray).map Value.string)) false),(none,.cells (flatC (([]:List Memo).map av)) false),(none,.cells (flatC (([]:List Nat).map i64)) false)] h) (fun (v21,a20)=>[]) (fun hm=>?_) ?_
  ·refine gX ?_
   refine lw 178 [1,2,3,5,6] (σ:=((List Node)×Nat)×Option Nat) (fun s=>s.1) (fun ((v25,v26),a24) h=>(a24=none->v25=[])/\Own vars h0 [(sC g1 [nS,nS,nS,nS]),(sC g3 [(ag 4 a24 (v25.map al)),(ag 1 none (([]:List ByteArray).map Value.string)),(ag 3 none (([]:List Memo).map av)),(ag 1 none (([]:List Nat).map i64))]),(a24,.cells (flatC (v25.map al)) false),(none,.cells (flatC (([]:List ByteArray).map Value.string)) false),(none,.cells (flatC (([]:List Memo).map av)) false),(none,.cells (flatC (([]:List Nat).map i64)) false)] h) (fun ((v25,v26),a24)=>[(7,(i64 v26))]) ((v10,0),a9) hm ⟨ha11,O⟩ ?_
   clear hm;rintro⟨⟨v25,v26⟩,a24⟩ nx28 base h hm ⟨ha27,O⟩
   refine gX ?_
   refine br hm (fun hm=>?_) fun hm=>?_
   ·refine gX ?_
    refine fz ?_;refine gH ?_
    refine fz ?_;refine gH ?_
    refine O.apL (enc:=al) (l:=v25) (new:=([(⟨14,([0]:(List Nat)),0,0⟩:Node)]:(List Node))) 4 (.tail _ (.tail _ (.head _))) ha27 hm fun a29 h ha30 O hm=>?_;refine gH ?_
    refine O.stC 1 (.tail _ (.head _)) [(ag 4 a29 ((v25++([(⟨14,([0]:(List Nat)),0,0⟩:Node)]:(List Node))).map al)),(ag 1 none (([]:List ByteArray).map Value.string)),(ag 3 none (([]:List Memo).map av)),(ag 1 none (([]:List Nat).map i64))] fun h O=>?_;refine gX ?_
    refine aL hm fun hm=>?_;refine gH ?_
    exact jx (((v25++([(⟨14,([0]:(List Nat)),0,0⟩:Node)]:(List Node))),(v26+1)),a29) hm ⟨ha30,O⟩
   ·refine gX ?_
    exact jx (v25,a24) hm ⟨ha27,O⟩
  ·clear hm;rintro⟨v21,a20⟩ base h hm ⟨ha22,O⟩
   conv=>whnf
   refine jn (σ:=(List Node)×Option Nat) hm 178 [1,2,3,5,6] (fun s=>s.1) (fun (v32,a31) h=>(a31=none->v32=[])/\Own vars h0 [(sC g1 [nS,nS,nS,nS]),(sC g3 [(ag 4 a31 (v32.map al)),(ag 1 none (([]:List ByteArray).map Value.string)),(ag 3 none (([]:List Memo).map av)),(ag 1 none (([]:List Nat).map i64))]),(a31,.cells (flatC (v32.map al)) false),(none,.cells (flatC (([]:List ByteArray).map Value.string)) false),(none,.cells (flatC (([]:List Memo).map av)) false),(none,.cells (flatC (([]:List Nat).map i64)) false)] h) (fun (v32,a31)=>[]) (fun hm=>?_) ?_
   ·refine gX ?_
    refine br hm (fun hm=>?_) fun hm=>?_
    ·refine gX ?_
     refine NewG.frzW rfl (VLe.els (s:=4) (es':=([(⟨15,([]:(List Nat)),0,0⟩:Node),(⟨15,([]:(List Nat)),0,1⟩:Node)]).map al) rfl (cb (enc:=al) (s:=4) (fun _=>rfl) _) (LLe.cons (VLe.refl _ _) (LLe.cons (VLe.nil _ _) (LLe.cons (VLe.refl _ _) (LLe.cons (VLe.refl _ _) (LLe.cons (VLe.refl _ _) (LLe.cons (VLe.nil _ _) (LLe.cons (VLe.refl _ _) (LLe.cons (VLe.refl _ _) (LLe.nil _)))))))))) ?_;refine gH ?_
     refine O.apL (enc:=al) (l:=v21) (new:=([(⟨15,([]:(List Nat)),0,0⟩:Node),(⟨15,([]:(List Nat)),0,1⟩:Node)]:(List Node))) 4 (.tail _ (.tail _ (.head _))) ha22 hm fun a35 h ha36 O hm=>?_;refine gH ?_
     refine O.stC 1 (.tail _ (.head _)) [(ag 4 a35 ((v21++([(⟨15,([]:(List Nat)),0,0⟩:Node),(⟨15,([]:(List Nat)),0,1⟩:Node)]:(List Node))).map al)),(ag 1 none (([]:List ByteArray).map Value.string)),(ag 3 none (([]:List Memo).map av)),(ag 1 none (([]:List Nat).map i64))] fun h O=>?_;refine gH ?_
     exact jx ((v21++([(⟨15,([]:(List Nat)),0,0⟩:Node),(⟨15,([]:(List Nat)),0,1⟩:Node)]:(List Node))),a35) hm ⟨ha36,O⟩
    ·refine gX ?_
     exact jx (v21,a20) hm ⟨ha22,O⟩
   ·clear hm;rintro⟨v32,a31⟩ base h hm ⟨ha33,O⟩
    conv=>whnf
    refine jn (σ:=(List Node)×Option Nat) hm 178 [1,2,3,5,6] (fun s=>s.1) (fun (v38,a37) h=>(a37=none->v38=[])/\Own vars h0 [(sC g1 [nS,nS,nS,nS]),(sC g3 [(ag 4 a37 (v38.map al)),(ag 1 none (([]:List ByteArray).map Value.string)),(ag 3 none (([]:List Memo).map av)),(ag 1 none (([]:List Nat).map i64))]),(a37,.cells (flatC (v38.map al)) false),(none,.cells (flatC (([]:List ByteArray).map Value.string)) false),(none,.cells (flatC (([]:List Memo).map av)) false),(none,.cells (flatC (([]:List Nat).map i64)) false)] h) (fun (v38,a37)=>[]) (fun hm=>?_) ?_
    ·refine gX ?_
     refine lw 178 [1,2,3,5,6] (σ:=((List Node)×Nat)×Option Nat) (fun s=>s.1) (fun ((v42,v43),a41) h=>(a41=none->v42=[])/\Own vars h0 [(sC g1 [nS,nS,nS,nS]),(sC g3 [(ag 4 a41 (v42.map al)),(ag 1 none (([]:List ByteArray).map Value.string)),(ag 3 none (([]:List Memo).map av)),(ag 1 none (([]:List Nat).map i64))]),(a41,.cells (flatC (v42.map al)) false),(none,.cells (flatC (([]:List ByteArray).map Value.string)) false),(none,.cells (flatC (([]:List Memo).map av)) false),(none,.cells (flatC (([]:List Nat).map i64)) false)] h) (fun ((v42,v43),a41)=>[(8,(i64 v43))]) ((v32,0),a31) hm ⟨ha33,O⟩ ?_
     clear hm;rintro⟨⟨v42,v43⟩,a41⟩ nx45 base h hm ⟨ha44,O⟩
     conv=>whnf
     apply Cs;conv=>whnf
     refine jn hm 178 [1,2,3,5,6,8] (fun s=>s) (fun v46 h=>(a41=none->v42=[])/\Own vars h0 [(sC g1 [nS,nS,nS,nS]),(sC g3 [(ag 4 a41 (v42.map al)),(ag 1 none (([]:List ByteArray).map Value.string)),(ag 3 none (([]:List Memo).map av)),(ag 1 none (([]:List Nat).map i64))]),(a41,.cells (flatC (v42.map al)) false),(none,.cells (flatC (([]:List ByteArray).map Value.string)) false),(none,.cells (flatC (([]:List Memo).map av)) false),(none,.cells (flatC (([]:List Nat).map i64)) false)] h) (fun v46=>[(63,(.bool v46))]) (fun hm=>?_) ?_
     ·refine gX ?_
      refine br hm (fun hm=>?_) fun hm=>?_
      ·refine gX ?_
       exact jx (ltN v43 8) hm ⟨ha44,O⟩
      ·refine gX ?_
       exact jx false hm ⟨ha44,O⟩
     ·clear hm;rintro v46 base h hm ⟨ha47,O⟩
      refine gX ?_
      refine br hm (fun hm=>?_) fun hm=>?_
      ·refine gX ?_
       first|refine⟨.inr (.inr (ae rfl (O.at (.tail _ (.head _))) rfl rfl)),?_⟩|refine⟨.inr (.inl (by kernel_rfl)),?_⟩
       refine gX ?_
       refine dF ?_
       refine gX ?_
       refine dF ?_
       refine gX ?_
       refine atF hm fun x49 hx49 hm=>?_;refine gH ?_
       refine dF ?_
       refine gX ?_
       first|refine⟨.inr (.inr (ae rfl (O.at (.tail _ (.head _))) rfl rfl)),?_⟩|refine⟨.inr (.inl (by kernel_rfl)),?_⟩
       refine gX ?_
       obtain⟨hgk,hn1,hn2,hm⟩:=hm
       have h9:=hm
       obtain⟨g50,rfl⟩:=Cv ha47 hn1
       replace hm:=h9
       refine⟨_,_,CX (x:=p0) hgk hn1 hn2 O.has (O.at (.tail _ (.tail _ (.head _)))),?_⟩;refine gH ?_
       refine⟨.inl (Ext.refl _),?_⟩;refine gH ?_
       refine O.bT (l:=([(iA p0.bus x49 (v42.map Node.kind))]:(List Node))) (enc:=al) (s:=4) (z:=(.agg ⟨[(n8 0),nS,(i64 0),(i64 0)]⟩)) rfl rfl (by kernel_rfl) (by kernel_rfl) rfl rfl rfl rfl (fun _=>rfl) fun g51 h O=>?_;refine gH ?_
       refine O.ct (enc:=al) (l:=v42) (new:=([(iA p0.bus x49 (v42.map Node.kind))]:(List Node))) (s:=4) (b:=48) (.tail _ (.tail _ (.tail _ (.head _)))) cz rfl rfl rfl rfl rfl rfl rfl rfl (YOk.own (O.at (.head _)) rfl (fun _=>rfl) rfl) (fun _=>rfl) (fun _=>rfl) (by decide) hm.1 fun a53 h ha54 O=>?_;refine gH ?_
       replace hm:=hm.2
       refine O.stC 1 (.tail _ (.tail _ (.head _))) [(ag 4 a53 ((v42++([(iA p0.bus x49 (v42.map Node.kind))]:(List Node))).map al)),(ag 1 none (([]:List ByteArray).map Value.string)),(ag 3 none (([]:List Memo).map av)),(ag 1 none (([]:List Nat).map i64))] fun h O=>?_;refine gH ?_
       refine gX ?_
       refine aL hm fun hm=>?_;refine gH ?_
       exact jx (((v42++([(iA p0.bus x49 (v42.map Node.kind))]:(List Node))),(v43+1)),a53) hm ⟨ha54,(O.sel [1,2,3,4,5,6] (by decide))⟩
      ·refine gX ?_
       exact jx (v42,a41) hm ⟨ha47,O⟩
    ·clear hm;rintro⟨v38,a37⟩ base h hm ⟨ha39,O⟩
     conv=>whnf
     apply Cs;conv=>whnf
     apply Cs;refine gH ?_
     refine jn (σ:=(List Node)×Option Nat) hm 178 [1,2,3,9] (fun s=>s.1) (fun (v56,a55) h=>(a55=none->v56=[])/\Own vars h0 [(sC g1 [nS,nS,nS,nS]),(sC g3 [(ag 4 a55 (v56.map al)),(ag 1 none (([]:List ByteArray).map Value.string)),(ag 3 none (([]:List Memo).map av)),(ag 1 none (([]:List Nat).map i64))]),(a55,.cells (flatC (v56.map al)) false),(none,.cells (flatC (([]:List ByteArray).map Value.string)) false),(none,.cells (flatC (([]:List Memo).map av)) false),(none,.cells (flatC (([]:List Nat).map i64)) false)] h) (fun (v56,a55)=>[]) (fun hm=>?_) ?_
     ·refine gX ?_
      refine lw 178 [1,2,3,5,6,9] (σ:=((List Node)×Nat)×Option Nat) (fun s=>s.1) (fun ((v60,v61),a59) h=>(a59=none->v60=[])/\Own vars h0 [(sC g1 [nS,nS,nS,nS]),(sC g3 [(ag 4 a59 (v60.map al)),(ag 1 none (([]:List ByteArray).map Value.string)),(ag 3 none (([]:List Memo).map av)),(ag 1 none (([]:List Nat).map i64))]),(a59,.cells (flatC (v60.map al)) false),(none,.cells (flatC (([]:List ByteArray).map Value.string)) false),(none,.cells (flatC (([]:List Memo).map av)) false),(none,.cells (flatC (([]:List Nat).map i64)) false)] h) (fun ((v60,v61),a59)=>[(10,(i64 v61))]) ((v38,0),a37) hm ⟨ha39,O⟩ ?_
      clear hm;rintro⟨⟨v60,v61⟩,a59⟩ nx63 base h hm ⟨ha62,O⟩
      refine gX ?_
      refine br hm (fun hm=>?_) fun hm=>?_
      ·refine gX ?_
       first|refine⟨.inr (.inr (ae rfl (O.at (.tail _ (.head _))) rfl rfl)),?_⟩|refine⟨.inr (.inl (by kernel_rfl)),?_⟩
       refine gX ?_
       refine aL hm fun hm=>?_;refine gH ?_
       have hq:v61=0\/v61=1:=by have:=hm.1;omega
       replace hm:=hm.2
       rcases hq with hq|hq
       ·replace hm:=hm.1 hq
        refine DO (s:=1) (j:=v61) (q:=0) rfl rfl rfl rfl hq rfl rfl ?_;refine gH ?_
        refine aCv hm wI8 fun hm=>?_;refine gH ?_
        refine qV hm fun hm=>?_;refine gH ?_
        refine O.bT (l:=([(p0.data0%v38.length)]:(List Nat))) (enc:=i64) (s:=1) (z:=(i64 0)) rfl rfl (by kernel_rfl) (by kernel_rfl) rfl rfl rfl rfl (fun _=>rfl) fun g64 h O=>?_;refine gH ?_
        obtain⟨x66,hx66,hm⟩:=hm
        have h9:=hm
        obtain⟨g67,rfl⟩:=dM ha62 hx66
        replace hm:=h9
        refine cE (s:=4) (j:=(v10.length+v61)) rfl rfl rfl rfl (by rw[List.length_map];exact aj hx66) ?_;refine gH ?_
        refine O.store (n:=1) (cs':=(bI (flatC (v60.map al)) (0+(v10.length+v61)*4+1) [(.slice (some ⟨g64,0,none⟩) 1 1)])) (.tail _ (.tail _ (.tail _ (.head _)))) rfl rfl rfl rfl (uk (enc:=al) (s:=4) (k:=1) (n:=1) (fun _=>rfl) (aj hx66) (lbE rfl)) rfl rfl fun h O=>?_;refine gH ?_
        refine CodeS.ghost (cs2':=flatC ((v60.set (v10.length+v61) { x66 with ins:=([(p0.data0%v38.length)]:(List Nat)) }).map al)) O (.head _) (.tail _ (.tail _ (.tail _ (.head _)))) (t1:=100) (t2:=89) rfl rfl rfl rfl (fun h2 hq=>qE (enc:=al) (s:=4) (fun _=>rfl) hx66 (x:={ x66 with ins:=([(p0.data0%v38.length)]:(List Nat)) }) (k:=1) (v':=(ah 1 i64) ([(p0.data0%v38.length)]:(List Nat))) (lbE rfl) rfl (VLe.flM hq rfl (fun _=>rfl))) fun h O=>?_
        try rw[um (enc:=al) (l:=v60) (j:=(v10.length+v61)) (x:={ x66 with ins:=([(p0.data0%v38.length)]:(List Nat)) })] at O
        refine gX ?_
        refine aL hm fun hm=>?_;refine gH ?_
        exact jx (((v60.set (v10.length+v61) { x66 with ins:=([(p0.data0%v38.length)]:(List Nat)) }),(v61+1)),(some g67)) hm ⟨cz,(O.sel [1,2,3,4,5,6] (by decide))⟩
       ·replace hm:=hm.2 hq
        refine DO (s:=1) (j:=v61) (q:=1) rfl rfl rfl rfl hq rfl rfl ?_;refine gH ?_
        refine aCv hm wI8 fun hm=>?_;refine gH ?_
        refine qV hm fun hm=>?_;refine gH ?_
        refine O.bT (l:=([(p0.data1%v38.length)]:(List Nat))) (enc:=i64) (s:=1) (z:=(i64 0)) rfl rfl (by kernel_rfl) (by kernel_rfl) rfl rfl rfl rfl (fun _=>rfl) fun g68 h O=>?_;refine gH ?_
        obtain⟨x70,hx70,hm⟩:=hm
        have h9:=hm
        obtain⟨g71,rfl⟩:=dM ha62 hx70
        replace hm:=h9
        refine cE (s:=4) (j:=(v10.length+v61)) rfl rfl rfl rfl (by rw[List.length_map];exact aj hx70) ?_;refine gH ?_
        refine O.store (n:=1) (cs':=(bI (flatC (v60.map al)) (0+(v10.length+v61)*4+1) [(.slice (some ⟨g68,0,none⟩) 1 1)])) (.tail _ (.tail _ (.tail _ (.head _)))) rfl rfl rfl rfl (uk (enc:=al) (s:=4) (k:=1) (n:=1) (fun _=>rfl) (aj hx70) (lbE rfl)) rfl rfl fun h O=>?_;refine gH ?_
        refine CodeS.ghost (cs2':=flatC ((v60.set (v10.length+v61) { x70 with ins:=([(p0.data1%v38.length)]:(List Nat)) }).map al)) O (.head _) (.tail _ (.tail _ (.tail _ (.head _)))) (t1:=100) (t2:=89) rfl rfl rfl rfl (fun h2 hq=>qE (enc:=al) (s:=4) (fun _=>rfl) hx70 (x:={ x70 with ins:=([(p0.data1%v38.length)]:(List Nat)) }) (k:=1) (v':=(ah 1 i64) ([(p0.data1%v38.length)]:(List Nat))) (lbE rfl) rfl (VLe.flM hq rfl (fun _=>rfl))) fun h O=>?_
        try rw[um (enc:=al) (l:=v60) (j:=(v10.length+v61)) (x:={ x70 with ins:=([(p0.data1%v38.length)]:(List Nat)) })] at O
        refine gX ?_
        refine aL hm fun hm=>?_;refine gH ?_
        exact jx (((v60.set (v10.length+v61) { x70 with ins:=([(p0.data1%v38.length)]:(List Nat)) }),(v61+1)),(some g71)) hm ⟨cz,(O.sel [1,2,3,4,5,6] (by decide))⟩
      ·refine gX ?_
       exact jx (v60,a59) hm ⟨ha62,O⟩
     ·clear hm;rintro⟨v56,a55⟩ base h hm ⟨ha57,O⟩
      refine gX ?_
      refine br hm (fun hm=>?_) fun hm=>?_
      ·refine gX ?_
       refine lU rfl ?_;refine gH ?_
       refine aCv hm wI8 fun hm=>?_;refine gH ?_
       refine qV hm fun hm=>?_;refine gH ?_
       refine O.bT (l:=([(p0.port0%v38.length)]:(List Nat))) (enc:=i64) (s:=1) (z:=(i64 0)) rfl rfl (by kernel_rfl) (by kernel_rfl) rfl rfl rfl rfl (fun _=>rfl) fun g72 h O=>?_;refine gH ?_
       refine lU rfl ?_;refine gH ?_
       refine aCv hm wI8 fun hm=>?_;refine gH ?_
       refine qV hm fun hm=>?_;refine gH ?_
       refine lU rfl ?_;refine gH ?_
       refine aCv hm wI8 fun hm=>?_;refine gH ?_
       refine qV hm fun hm=>?_;refine gH ?_
       refine O.bT (l:=([(p0.port1%v38.length),(p0.port2%v38.length)]:(List Nat))) (enc:=i64) (s:=1) (z:=(i64 0)) rfl rfl (by kernel_rfl) (by kernel_rfl) rfl rfl rfl rfl (fun _=>rfl) fun g74 h O=>?_;refine gH ?_
       refine lU rfl ?_;refine gH ?_
       refine aCv hm wI8 fun hm=>?_;refine gH ?_
       refine qV hm fun hm=>?_;refine gH ?_
       refine O.dA (nV (vs:=[(.agg ⟨[(.slice (some ⟨g72,0,none⟩) 1 1),(.slice (some ⟨g74,0,none⟩) 2 2),(i64 (p0.port3%v38.length))]⟩)]) (s:=3) (z:=(.agg ⟨[nS,nS,(i64 0)]⟩)) rfl rfl (by kernel_rfl) (by kernel_rfl) rfl rfl rfl rfl (by intro e he;simp only[List.mem_cons,List.not_mem_nil,or_false] at he;rcases he with rfl <;> rfl)) fun g76 h O=>?_;refine gH ?_
       refine O.stC 1 (.tail _ (.tail _ (.tail _ (.tail _ (.head _))))) [(ag 4 a55 (v56.map al)),(ag 1 none (([]:List ByteArray).map Value.string)),(.slice (some ⟨g76,0,none⟩) 1 1),(ag 1 none (([]:List Nat).map i64))] fun h O=>?_;refine gH ?_
       refine jn (σ:=(List ByteArray)×Option Nat) hm 178 [1,2,3,9] (fun s=>s.1) (fun (v79,a78) h=>(a55=none->v56=[])/\(a78=none->v79=[])/\Own vars h0 [(sC g1 [nS,nS,nS,nS]),(sC g3 [(ag 4 a55 (v56.map al)),(ag 1 a78 (v79.map Value.string)),(.slice (some ⟨g76,0,none⟩) 1 1),(ag 1 none (([]:List Nat).map i64))]),(a55,.cells (flatC (v56.map al)) false),(a78,.cells (flatC (v79.map Value.string)) false),(sC g76 [(.slice (some ⟨g72,0,none⟩) 1 1),(.slice (some ⟨g74,0,none⟩) 2 2),(i64 (p0.port3%v38.length))]),(sC g72 (flatC (([(p0.port0%v38.length)]:(List Nat)).map i64))),(sC g74 (flatC (([(p0.port1%v38.length),(p0.port2%v38.length)]:(List Nat)).map i64))),(none,.cells (flatC (([]:List Nat).map i64)) false)] h) (fun (v79,a78)=>[]) (fun hm=>?_) ?_
       ·refine gX ?_
        refine lw 178 [1,2,3,9] (σ:=((List ByteArray)×Nat)×Option Nat) (fun s=>s.1) (fun ((v84,v85),a83) h=>(a55=none->v56=[])/\(a83=none->v84=[])/\Own vars h0 [(sC g1 [nS,nS,nS,nS]),(sC g3 [(ag 4 a55 (v56.map al)),(ag 1 a83 (v84.map Value.string)),(.slice (some ⟨g76,0,none⟩) 1 1),(ag 1 none (([]:List Nat).map i64))]),(a55,.cells (flatC (v56.map al)) false),(a83,.cells (flatC (v84.map Value.string)) false),(sC g76 [(.slice (some ⟨g72,0,none⟩) 1 1),(.slice (some ⟨g74,0,none⟩) 2 2),(i64 (p0.port3%v38.length))]),(sC g72 (flatC (([(p0.port0%v38.length)]:(List Nat)).map i64))),(sC g74 (flatC (([(p0.port1%v38.length),(p0.port2%v38.length)]:(List Nat)).map i64))),(none,.cells (flatC (([]:List Nat).map i64)) false)] h) (fun ((v84,v85),a83)=>[(11,(i64 v85))]) ((([]:List ByteArray),0),none) hm ⟨ha57,(fun _=>rfl),(O.sel [3,4,5,6,0,2,1,8] (by decide))⟩ ?_
        clear hm;rintro⟨⟨v84,v85⟩,a83⟩ nx88 base h hm ⟨ha86,ha87,O⟩
        refine gX ?_
        refine br hm (fun hm=>?_) fun hm=>?_
        ·refine gX ?_
         first|refine⟨.inr (.inr (ae rfl (O.at (.tail _ (.head _))) rfl rfl)),?_⟩|refine⟨.inr (.inl (by kernel_rfl)),?_⟩
         refine gX ?_
         refine ca (kY hm O.has) fun r89 hm=>?_;refine gH ?_
         refine⟨.inl (Ext.refl _),?_⟩;refine gH ?_
         refine O.bT (l:=([r89]:(List ByteArray))) (enc:=Value.string) (s:=1) (z:=(.string (⟨#[]⟩:ByteArray))) rfl rfl (by kernel_rfl) (by kernel_rfl) rfl rfl rfl rfl (fun _=>rfl) fun g90 h O=>?_;refine gH ?_
         refine O.ct (enc:=Value.string) (l:=v84) (new:=([r89]:(List ByteArray))) (s:=1) (b:=16) (.tail _ (.tail _ (.tail _ (.tail _ (.head _))))) ha87 rfl rfl rfl rfl rfl rfl rfl rfl (YOk.own (O.at (.head _)) rfl (fun _=>rfl) rfl) (fun _=>rfl) (fun _=>rfl) (by decide) hm.1 fun a92 h ha93 O=>?_;refine gH ?_
         replace hm:=hm.2
         refine O.stC 1 (.tail _ (.tail _ (.head _))) [(ag 4 a55 (v56.map al)),(ag 1 a92 ((v84++([r89]:(List ByteArray))).map Value.string)),(.slice (some ⟨g76,0,none⟩) 1 1),(ag 1 none (([]:List Nat).map i64))] fun h O=>?_;refine gH ?_
         refine gX ?_
         refine aL hm fun hm=>?_;refine gH ?_
         exact jx (((v84++([r89]:(List ByteArray))),(v85+1)),a92) hm ⟨ha86,ha93,(O.sel [1,2,3,4,5,6,7,8] (by decide))⟩
        ·refine gX ?_
         exact jx (v84,a83) hm ⟨ha86,ha87,O⟩
       ·clear hm;rintro⟨v79,a78⟩ base h hm ⟨ha80,ha81,O⟩
        conv=>whnf
        refine jn (σ:=(List Nat)×Option Nat) hm 178 [2,3,9] (fun s=>s.1) (fun (v95,a94) h=>(a55=none->v56=[])/\(a78=none->v79=[])/\(a94=none->v95=[])/\Own vars h0 [(sC g1 [nS,nS,nS,nS]),(sC g3 [(ag 4 a55 (v56.map al)),(ag 1 a78 (v79.map Value.string)),(.slice (some ⟨g76,0,none⟩) 1 1),(ag 1 a94 (v95.map i64))]),(a55,.cells (flatC (v56.map al)) false),(a78,.cells (flatC (v79.map Value.string)) false),(sC g76 [(.slice (some ⟨g72,0,none⟩) 1 1),(.slice (some ⟨g74,0,none⟩) 2 2),(i64 (p0.port3%v38.length))]),(sC g72 (flatC (([(p0.port0%v38.length)]:(List Nat)).map i64))),(sC g74 (flatC (([(p0.port1%v38.length),(p0.port2%v38.length)]:(List Nat)).map i64))),(a94,.cells (flatC (v95.map i64)) false)] h) (fun (v95,a94)=>[]) (fun hm=>?_) ?_
        ·refine gX ?_
         refine lw 178 [1,2,3,9] (σ:=((List Nat)×Nat)×Option Nat) (fun s=>s.1) (fun ((v101,v102),a100) h=>(a55=none->v56=[])/\(a78=none->v79=[])/\(a100=none->v101=[])/\Own vars h0 [(sC g1 [nS,nS,nS,nS]),(sC g3 [(ag 4 a55 (v56.map al)),(ag 1 a78 (v79.map Value.string)),(.slice (some ⟨g76,0,none⟩) 1 1),(ag 1 a100 (v101.map i64))]),(a55,.cells (flatC (v56.map al)) false),(a78,.cells (flatC (v79.map Value.string)) false),(sC g76 [(.slice (some ⟨g72,0,none⟩) 1 1),(.slice (some ⟨g74,0,none⟩) 2 2),(i64 (p0.port3%v38.length))]),(sC g72 (flatC (([(p0.port0%v38.length)]:(List Nat)).map i64))),(sC g74 (flatC (([(p0.port1%v38.length),(p0.port2%v38.length)]:(List Nat)).map i64))),(a100,.cells (flatC (v101.map i64)) false)] h) (fun ((v101,v102),a100)=>[(12,(i64 v102))]) ((([]:List Nat),0),none) hm ⟨ha80,ha81,(fun _=>rfl),O⟩ ?_
         clear hm;rintro⟨⟨v101,v102⟩,a100⟩ nx106 base h hm ⟨ha103,ha104,ha105,O⟩
         conv=>whnf
         apply Cs;conv=>whnf
         refine jn hm 178 [1,2,3,9,12] (fun s=>s) (fun v107 h=>(a55=none->v56=[])/\(a78=none->v79=[])/\(a100=none->v101=[])/\Own vars h0 [(sC g1 [nS,nS,nS,nS]),(sC g3 [(ag 4 a55 (v56.map al)),(ag 1 a78 (v79.map Value.string)),(.slice (some ⟨g76,0,none⟩) 1 1),(ag 1 a100 (v101.map i64))]),(a55,.cells (flatC (v56.map al)) false),(a78,.cells (flatC (v79.map Value.string)) false),(sC g76 [(.slice (some ⟨g72,0,none⟩) 1 1),(.slice (some ⟨g74,0,none⟩) 2 2),(i64 (p0.port3%v38.length))]),(sC g72 (flatC (([(p0.port0%v38.length)]:(List Nat)).map i64))),(sC g74 (flatC (([(p0.port1%v38.length),(p0.port2%v38.length)]:(List Nat)).map i64))),(a100,.cells (flatC (v101.map i64)) false)] h) (fun v107=>[(154,(.bool v107))]) (fun hm=>?_) ?_
         ·refine gX ?_
          refine br hm (fun hm=>?_) fun hm=>?_
          ·refine gX ?_
           exact jx (ltN v102 3) hm ⟨ha103,ha104,ha105,O⟩
          ·refine gX ?_
           exact jx false hm ⟨ha103,ha104,ha105,O⟩
         ·clear hm;rintro v107 base h hm ⟨ha108,ha109,ha110,O⟩
          refine gX ?_
          refine br hm (fun hm=>?_) fun hm=>?_
          ·refine gX ?_
           first|refine⟨.inr (.inr (ae rfl (O.at (.tail _ (.head _))) rfl rfl)),?_⟩|refine⟨.inr (.inl (by kernel_rfl)),?_⟩
           refine gX ?_
           refine dF ?_
           refine gX ?_
           refine atF hm fun x112 hx112 hm=>?_;refine gH ?_
           refine aCv hm wI8 fun hm=>?_;refine gH ?_
           refine qV hm fun hm=>?_;refine gH ?_
           refine O.bT (l:=([(x112%v38.length)]:(List Nat))) (enc:=i64) (s:=1) (z:=(i64 0)) rfl rfl (by kernel_rfl) (by kernel_rfl) rfl rfl rfl rfl (fun _=>rfl) fun g113 h O=>?_;refine gH ?_
           refine O.ct (enc:=i64) (l:=v101) (new:=([(x112%v38.length)]:(List Nat))) (s:=1) (b:=8) (.tail _ (.tail _ (.tail _ (.tail _ (.tail _ (.tail _ (.tail _ (.tail _ (.head _))))))))) ha110 rfl rfl rfl rfl rfl rfl rfl rfl (YOk.own (O.at (.head _)) rfl (fun _=>rfl) rfl) (fun _=>rfl) (fun _=>rfl) (by decide) hm.1 fun a115 h ha116 O=>?_;refine gH ?_
           replace hm:=hm.2
           refine O.stC 1 (.tail _ (.tail _ (.head _))) [(ag 4 a55 (v56.map al)),(ag 1 a78 (v79.map Value.string)),(.slice (some ⟨g76,0,none⟩) 1 1),(ag 1 a115 ((v101++([(x112%v38.length)]:(List Nat))).map i64))] fun h O=>?_;refine gH ?_
           refine gX ?_
           refine aL hm fun hm=>?_;refine gH ?_
           exact jx (((v101++([(x112%v38.length)]:(List Nat))),(v102+1)),a115) hm ⟨ha108,ha109,ha116,(O.sel [1,2,3,4,5,6,7,8] (by decide))⟩
          ·refine gX ?_
           exact jx (v101,a100) hm ⟨ha108,ha109,ha110,O⟩
        ·clear hm;rintro⟨v95,a94⟩ base h hm ⟨ha96,ha97,ha98,O⟩
         refine gX ?_
         refine pP hm fun hm=>?_;refine gH ?_
         refine fz ?_;refine gH ?_
         refine O.apL (enc:=i64) (l:=v95) (new:=([(v38.length-1)]:(List Nat))) 1 (.tail _ (.tail _ (.tail _ (.tail _ (.tail _ (.tail _ (.tail _ (.head _)))))))) ha98 hm fun a117 h ha118 O hm=>?_;refine gH ?_
         refine O.stC 1 (.tail _ (.head _)) [(ag 4 a55 (v56.map al)),(ag 1 a78 (v79.map Value.string)),(.slice (some ⟨g76,0,none⟩) 1 1),(ag 1 a117 ((v95++([(v38.length-1)]:(List Nat))).map i64))] fun h O=>?_;refine gX ?_
         refine ldA (O.at (.tail _ (.head _))) ?_;refine gH ?_
         refine O.stC 4 (.head _) [(ag 4 a55 (v56.map al)),(ag 1 a78 (v79.map Value.string)),(.slice (some ⟨g76,0,none⟩) 1 1),(ag 1 a117 ((v95++([(v38.length-1)]:(List Nat))).map i64))] fun h O=>?_;refine gX ?_
         refine⟨_,aH rfl rfl (O.at (.head _)) rfl rfl (lbE rfl) rfl,?_⟩;conv=>whnf
         obtain⟨hn119,hn120,hn121,hn122,hm⟩:=hm
         exact⟨(⟨v56,v79,[(⟨([(p0.port0%v38.length)]:(List Nat)),([(p0.port1%v38.length),(p0.port2%v38.length)]:(List Nat)),(p0.port3%v38.length)⟩:Memo)],(v95++([(v38.length-1)]:(List Nat)))⟩:Circ),hm,O.ext,fun h2 F=>VLe.agg (LLe.cons (O.iz F (Nat.le_refl _) (.tail _ (.tail _ (.head _))) ha96 (fun _=>rfl)) (LLe.cons (O.iz F (Nat.le_refl _) (.tail _ (.tail _ (.tail _ (.head _)))) ha97 (fun _=>rfl)) (LLe.cons (O.zz (es:=([(⟨([(p0.port0%v38.length)]:(List Nat)),([(p0.port1%v38.length),(p0.port2%v38.length)]:(List Nat)),(p0.port3%v38.length)⟩:Memo)]:(List Memo)).map av) F (Nat.le_refl _) (.tail _ (.tail _ (.tail _ (.tail _ (.head _))))) rfl (cb (enc:=av) (s:=3) (fun _=>rfl) _) rfl (LLe.cons (O.jC F (Nat.le_refl _) (.tail _ (.tail _ (.tail _ (.tail _ (.tail _ (.head _)))))) (fun _=>rfl) hn121) (LLe.cons (O.jC F (Nat.le_refl _) (.tail _ (.tail _ (.tail _ (.tail _ (.tail _ (.tail _ (.head _))))))) (fun _=>rfl) hn122) (LLe.cons (VLe.refl _ _) (LLe.nil _))))) (LLe.cons (O.iz F (Nat.le_refl _) (.tail _ (.tail _ (.tail _ (.tail _ (.tail _ (.tail _ (.tail _ (.head _)))))))) ha118 (fun _=>rfl)) (LLe.nil _)))))⟩
      ·apply Cs;conv=>whnf
       refine jn (σ:=(List ByteArray)×Option Nat) hm 178 [1,2,3,9] (fun s=>s.1) (fun (v124,a123) h=>(a55=none->v56=[])/\(a123=none->v124=[])/\Own vars h0 [(sC g1 [nS,nS,nS,nS]),(sC g3 [(ag 4 a55 (v56.map al)),(ag 1 a123 (v124.map Value.string)),(ag 3 none (([]:List Memo).map av)),(ag 1 none (([]:List Nat).map i64))]),(a55,.cells (flatC (v56.map al)) false),(a123,.cells (flatC (v124.map Value.string)) false),(none,.cells (flatC (([]:List Memo).map av)) false),(none,.cells (flatC (([]:List Nat).map i64)) false)] h) (fun (v124,a123)=>[]) (fun hm=>?_) ?_
       ·refine gX ?_
        refine lw 178 [1,2,3,9] (σ:=((List ByteArray)×Nat)×Option Nat) (fun s=>s.1) (fun ((v129,v130),a128) h=>(a55=none->v56=[])/\(a128=none->v129=[])/\Own vars h0 [(sC g1 [nS,nS,nS,nS]),(sC g3 [(ag 4 a55 (v56.map al)),(ag 1 a128 (v129.map Value.string)),(ag 3 none (([]:List Memo).map av)),(ag 1 none (([]:List Nat).map i64))]),(a55,.cells (flatC (v56.map al)) false),(a128,.cells (flatC (v129.map Value.string)) false),(none,.cells (flatC (([]:List Memo).map av)) false),(none,.cells (flatC (([]:List Nat).map i64)) false)] h) (fun ((v129,v130),a128)=>[(11,(i64 v130))]) ((([]:List ByteArray),0),none) hm ⟨ha57,(fun _=>rfl),O⟩ ?_
        clear hm;rintro⟨⟨v129,v130⟩,a128⟩ nx133 base h hm ⟨ha131,ha132,O⟩
        refine gX ?_
        refine br hm (fun hm=>?_) fun hm=>?_
        ·refine gX ?_
         first|refine⟨.inr (.inr (ae rfl (O.at (.tail _ (.head _))) rfl rfl)),?_⟩|refine⟨.inr (.inl (by kernel_rfl)),?_⟩
         refine gX ?_
         refine ca (kY hm O.has) fun r134 hm=>?_;refine gH ?_
         refine⟨.inl (Ext.refl _),?_⟩;refine gH ?_
         refine O.bT (l:=([r134]:(List ByteArray))) (enc:=Value.string) (s:=1) (z:=(.string (⟨#[]⟩:ByteArray))) rfl rfl (by kernel_rfl) (by kernel_rfl) rfl rfl rfl rfl (fun _=>rfl) fun g135 h O=>?_;refine gH ?_
         refine O.ct (enc:=Value.string) (l:=v129) (new:=([r134]:(List ByteArray))) (s:=1) (b:=16) (.tail _ (.tail _ (.tail _ (.tail _ (.head _))))) ha132 rfl rfl rfl rfl rfl rfl rfl rfl (YOk.own (O.at (.head _)) rfl (fun _=>rfl) rfl) (fun _=>rfl) (fun _=>rfl) (by decide) hm.1 fun a137 h ha138 O=>?_;refine gH ?_
         replace hm:=hm.2
         refine O.stC 1 (.tail _ (.tail _ (.head _))) [(ag 4 a55 (v56.map al)),(ag 1 a137 ((v129++([r134]:(List ByteArray))).map Value.string)),(ag 3 none (([]:List Memo).map av)),(ag 1 none (([]:List Nat).map i64))] fun h O=>?_;refine gH ?_
         refine gX ?_
         refine aL hm fun hm=>?_;refine gH ?_
         exact jx (((v129++([r134]:(List ByteArray))),(v130+1)),a137) hm ⟨ha131,ha138,(O.sel [1,2,3,4,5,6] (by decide))⟩
        ·refine gX ?_
         exact jx (v129,a128) hm ⟨ha131,ha132,O⟩
       ·clear hm;rintro⟨v124,a123⟩ base h hm ⟨ha125,ha126,O⟩
        conv=>whnf
        refine jn (σ:=(List Nat)×Option Nat) hm 178 [2,3,9] (fun s=>s.1) (fun (v140,a139) h=>(a55=none->v56=[])/\(a123=none->v124=[])/\(a139=none->v140=[])/\Own vars h0 [(sC g1 [nS,nS,nS,nS]),(sC g3 [(ag 4 a55 (v56.map al)),(ag 1 a123 (v124.map Value.string)),(ag 3 none (([]:List Memo).map av)),(ag 1 a139 (v140.map i64))]),(a55,.cells (flatC (v56.map al)) false),(a123,.cells (flatC (v124.map Value.string)) false),(none,.cells (flatC (([]:List Memo).map av)) false),(a139,.cells (flatC (v140.map i64)) false)] h) (fun (v140,a139)=>[]) (fun hm=>?_) ?_
        ·refine gX ?_
         refine lw 178 [1,2,3,9] (σ:=((List Nat)×Nat)×Option Nat) (fun s=>s.1) (fun ((v146,v147),a145) h=>(a55=none->v56=[])/\(a123=none->v124=[])/\(a145=none->v146=[])/\Own vars h0 [(sC g1 [nS,nS,nS,nS]),(sC g3 [(ag 4 a55 (v56.map al)),(ag 1 a123 (v124.map Value.string)),(ag 3 none (([]:List Memo).map av)),(ag 1 a145 (v146.map i64))]),(a55,.cells (flatC (v56.map al)) false),(a123,.cells (flatC (v124.map Value.string)) false),(none,.cells (flatC (([]:List Memo).map av)) false),(a145,.cells (flatC (v146.map i64)) false)] h) (fun ((v146,v147),a145)=>[(12,(i64 v147))]) ((([]:List Nat),0),none) hm ⟨ha125,ha126,(fun _=>rfl),O⟩ ?_
         clear hm;rintro⟨⟨v146,v147⟩,a145⟩ nx151 base h hm ⟨ha148,ha149,ha150,O⟩
         conv=>whnf
         apply Cs;conv=>whnf
         refine jn hm 178 [1,2,3,9,12] (fun s=>s) (fun v152 h=>(a55=none->v56=[])/\(a123=none->v124=[])/\(a145=none->v146=[])/\Own vars h0 [(sC g1 [nS,nS,nS,nS]),(sC g3 [(ag 4 a55 (v56.map al)),(ag 1 a123 (v124.map Value.string)),(ag 3 none (([]:List Memo).map av)),(ag 1 a145 (v146.map i64))]),(a55,.cells (flatC (v56.map al)) false),(a123,.cells (flatC (v124.map Value.string)) false),(none,.cells (flatC (([]:List Memo).map av)) false),(a145,.cells (flatC (v146.map i64)) false)] h) (fun v152=>[(154,(.bool v152))]) (fun hm=>?_) ?_
         ·refine gX ?_
          refine br hm (fun hm=>?_) fun hm=>?_
          ·refine gX ?_
           exact jx (ltN v147 3) hm ⟨ha148,ha149,ha150,O⟩
          ·refine gX ?_
           exact jx false hm ⟨ha148,ha149,ha150,O⟩
         ·clear hm;rintro v152 base h hm ⟨ha153,ha154,ha155,O⟩
          refine gX ?_
          refine br hm (fun hm=>?_) fun hm=>?_
          ·refine gX ?_
           first|refine⟨.inr (.inr (ae rfl (O.at (.tail _ (.head _))) rfl rfl)),?_⟩|refine⟨.inr (.inl (by kernel_rfl)),?_⟩
           refine gX ?_
           refine dF ?_
           refine gX ?_
           refine atF hm fun x157 hx157 hm=>?_;refine gH ?_
           refine aCv hm wI8 fun hm=>?_;refine gH ?_
           refine qV hm fun hm=>?_;refine gH ?_
           refine O.bT (l:=([(x157%v38.length)]:(List Nat))) (enc:=i64) (s:=1) (z:=(i64 0)) rfl rfl (by kernel_rfl) (by kernel_rfl) rfl rfl rfl rfl (fun _=>rfl) fun g158 h O=>?_;refine gH ?_
           refine O.ct (enc:=i64) (l:=v146) (new:=([(x157%v38.length)]:(List Nat))) (s:=1) (b:=8) (.tail _ (.tail _ (.tail _ (.tail _ (.tail _ (.tail _ (.head _))))))) ha155 rfl rfl rfl rfl rfl rfl rfl rfl (YOk.own (O.at (.head _)) rfl (fun _=>rfl) rfl) (fun _=>rfl) (fun _=>rfl) (by decide) hm.1 fun a160 h ha161 O=>?_;refine gH ?_
           replace hm:=hm.2
           refine O.stC 1 (.tail _ (.tail _ (.head _))) [(ag 4 a55 (v56.map al)),(ag 1 a123 (v124.map Value.string)),(ag 3 none (([]:List Memo).map av)),(ag 1 a160 ((v146++([(x157%v38.length)]:(List Nat))).map i64))] fun h O=>?_;refine gH ?_
           refine gX ?_
           refine aL hm fun hm=>?_;refine gH ?_
           exact jx (((v146++([(x157%v38.length)]:(List Nat))),(v147+1)),a160) hm ⟨ha153,ha154,ha161,(O.sel [1,2,3,4,5,6] (by decide))⟩
          ·refine gX ?_
           exact jx (v146,a145) hm ⟨ha153,ha154,ha155,O⟩
        ·clear hm;rintro⟨v140,a139⟩ base h hm ⟨ha141,ha142,ha143,O⟩
         refine gX ?_
         refine pP hm fun hm=>?_;refine gH ?_
         refine fz ?_;refine gH ?_
         refine O.apL (enc:=i64) (l:=v140) (new:=([(v38.length-1)]:(List Nat))) 1 (.tail _ (.tail _ (.tail _ (.tail _ (.tail _ (.head _)))))) ha143 hm fun a162 h ha163 O hm=>?_;refine gH ?_
         refine O.stC 1 (.tail _ (.head _)) [(ag 4 a55 (v56.map al)),(ag 1 a123 (v124.map Value.string)),(ag 3 none (([]:List Memo).map av)),(ag 1 a162 ((v140++([(v38.length-1)]:(List Nat))).map i64))] fun h O=>?_;refine gX ?_
         refine ldA (O.at (.tail _ (.head _))) ?_;refine gH ?_
         refine O.stC 4 (.head _) [(ag 4 a55 (v56.map al)),(ag 1 a123 (v124.map Value.string)),(ag 3 none (([]:List Memo).map av)),(ag 1 a162 ((v140++([(v38.length-1)]:(List Nat))).map i64))] fun h O=>?_;refine gX ?_
         refine⟨_,aH rfl rfl (O.at (.head _)) rfl rfl (lbE rfl) rfl,?_⟩;conv=>whnf
         exact⟨(⟨v56,v124,([]:List Memo),(v140++([(v38.length-1)]:(List Nat)))⟩:Circ),hm,O.ext,fun h2 F=>VLe.agg (LLe.cons (O.iz F (Nat.le_refl _) (.tail _ (.tail _ (.head _))) ha141 (fun _=>rfl)) (LLe.cons (O.iz F (Nat.le_refl _) (.tail _ (.tail _ (.tail _ (.head _)))) ha142 (fun _=>rfl)) (LLe.cons (O.iz F (Nat.le_refl _) (.tail _ (.tail _ (.tail _ (.tail _ (.head _))))) (fun _=>rfl) (fun _=>rfl)) (LLe.cons (O.iz F (Nat.le_refl _) (.tail _ (.tail _ (.tail _ (.tail _ (.tail _ (.head _)))))) ha163 (fun _=>rfl)) (LLe.nil _)))))⟩
structure Pat where
 inp:List Nat
 state:List Nat
def lN (x:Pat):Value:=.agg ⟨[ah 1 n8 x.inp,ah 1 n8 x.state]⟩
theorem kF (l:List Nat):PureV (ah 1 n8 l):=ee fun _=>ai.cons (PureV.flat rfl) ai.nil
theorem AW (x:Pat):ai (cl (lN x)):=ai.cons (kF _) (ai.cons (kF _) ai.nil)
theorem Bc (x:Pat):PureV (lN x):=PureV.agg (AW x)
structure Rsp where
 out:List Nat
 next:List Nat
def fU (x:Rsp):Value:=.agg ⟨[ah 1 n8 x.out,ah 1 n8 x.next]⟩
theorem zS (x:Rsp):ai (cl (fU x)):=ai.cons (kF _) (ai.cons (kF _) ai.nil)
theorem oZ (x:Rsp):PureV (fU x):=PureV.agg (zS x)
structure SRun where
 circ:Circ
 nets:List Nat
def BB (x:SRun):Value:=.agg ⟨[FL 4 (x.circ.nodes.map al),FL 1 (x.circ.names.map .string),FL 3 (x.circ.mems.map av),FL 1 (x.circ.outs.map i64),ah 1 n8 x.nets]⟩
structure LnZ where
 node:Nat
 pin:Int
deriving DecidableEq
def aw (x:LnZ):Value:=.agg ⟨[i64 x.node,z64 x.pin]⟩
theorem An (x:LnZ):ai (cl (aw x)):=ai.cons (PureV.flat rfl) (ai.cons (PureV.flat rfl) ai.nil)
structure Flt where
 model:Nat
 line:LnZ
 value:Nat
 other:Nat
deriving DecidableEq
def az (x:Flt):Value:=.agg ⟨[n8 x.model,i64 x.line.node,z64 x.line.pin,n8 x.value,i64 x.other]⟩
theorem pj (x:Flt):ai (cl (az x)):=ai.cons (PureV.flat rfl) (ai.cons (PureV.flat rfl) (ai.cons (PureV.flat rfl) (ai.cons (PureV.flat rfl) (ai.cons (PureV.flat rfl) ai.nil))))
structure LnI where
 node:Int
 pin:Int
deriving DecidableEq
structure FData where
 model:Nat
 node:Nat
 pin:Nat
 other:Nat
 one:Bool
def Ln.toZ (x:Ln):LnZ:=⟨x.node,Int.ofNat x.pin⟩
theorem Aw (l:List Ln):ah 2 aw (l.map Ln.toZ)=ah 2 bW l:=by
 unfold ah
 rw[List.map_map]
 rfl
theorem yO (l:List (List Ln)):ah 1 (ah 2 aw) (l.map (List.map Ln.toZ))=ah 1 (ah 2 bW) l:=by
 show FL 1 _=FL 1 _
 rw[List.map_map]
 congr 1
 exact List.map_congr_left fun x _=>Aw x
def CF (c:Circ):List (List LnZ):=(mV c).map (List.map Ln.toZ)
def iC (c:Circ) (K:List (List LnZ)->Prop):Prop:=FanOk c/\K (CF c)
theorem lp {c:Circ}{K:List (List LnZ)->Prop} (hm:iC c K) {h0:Heap} (hB:HasB vars h0):∃ r,K r/\CallD Tryz.prog NG 57 ⟨[aB c]⟩ h0 ((ah 1 (ah 2 aw)) r) h0:=by
 obtain⟨r,k,h⟩:=ic (K:=fun r=>K (r.map (List.map Ln.toZ))) hm hB
 refine⟨_,k,?_⟩
 rw[yO]
 exact h
set_option maxHeartbeats 8000000
def bY (p0:CData) (K:Circ->Prop):Prop :=
 iv (⟨p0.inp,p0.dffs,p0.data0,p0.data1,p0.bus,false,p0.port0,p0.port1,p0.port2,p0.port3,p0.gates,p0.outs⟩:CData) (fun r5=>K r5)
theorem iK {p0:CData}{K:Circ->Prop} (hm:bY p0 K) {h0:Heap} (hB:HasB vars h0):∃ r,K r/\CallD Tryz.prog NG 16 ⟨[bH p0]⟩ h0 (aB r) h0:=by
 unfold bY at hm
 refine fw Tryz.func16 hB (enc:=aB) (fun r=>mQ _) fun O=>?_;conv=>whnf
 refine gX ?_
 (first|refine O.new (nH rfl) fun g1 h O=>?_|refine O.dA (nH rfl) fun g1 h O=>?_);refine gH ?_
 (first|refine O.new (ak (l:=[(.slice none 0 0),(.slice none 0 0),(.slice none 0 0),(.slice none 0 0)]) rfl rfl rfl) fun g3 h O=>?_|refine O.dA (ak (l:=[(.slice none 0 0),(.slice none 0 0),(.slice none 0 0),(.slice none 0 0)]) rfl rfl rfl) fun g3 h O=>?_);refine gH ?_
 refine gX ?_
 refine O.stC 1 (.tail _ (.head _)) [(n8 p0.inp),(n8 p0.dffs),(n8 p0.data0),(n8 p0.data1),(.bool p0.bus),(.bool false),(n8 p0.port0),(n8 p0.port1),(n8 p0.port2),(n8 p0.port3),((ah 4 yH) p0.gates),((ah 1 n8) p0.outs)] fun h O=>?_;refine gX ?_
 refine ldA (O.at (.tail _ (.head _))) ?_;refine gH ?_
 refine ca (tE hm O.has) fun r5 hm=>?_;refine gH ?_
 refine O.stC 4 (.head _) [((ah 4 al) r5.nodes),((ah 1 Value.string) r5.names),((ah 3 av) r5.mems),((ah 1 i64) r5.outs)] fun h O=>?_;refine gX ?_
 refine⟨_,aH rfl rfl (O.at (.head _)) rfl rfl (lbE rfl) rfl,?_⟩;conv=>whnf
 exact fe hm O
def bh (p0:Circ) (K:(List Nat)->Prop):Prop :=
 cM p0 ([0]:(List Nat)) (fun r1=>K r1)
theorem cm {p0:Circ}{K:(List Nat)->Prop} (hm:bh p0 K) {h0:Heap} (hB:HasB vars h0):∃ r,K r/\CallD Tryz.prog NG 72 ⟨[aB p0]⟩ h0 ((ah 1 i64) r) h0:=by
 unfold bh at hm
 refine fw Tryz.func72 hB (enc:=(ah 1 i64)) (fun r=>ee (fun _=>ai.cons (PureV.flat rfl) ai.nil)) fun O=>?_;conv=>whnf
 refine gX ?_
 refine fz ?_;refine gX ?_
 refine fz ?_;refine gH ?_
 refine ca (gL hm O.has) fun r1 hm=>?_;refine gX ?_
 exact fe hm O
def aZ (p0:Circ) (K:(List Nat)->Prop):Prop :=
 cM p0 ([14]:(List Nat)) (fun r1=>K r1)
theorem bL {p0:Circ}{K:(List Nat)->Prop} (hm:aZ p0 K) {h0:Heap} (hB:HasB vars h0):∃ r,K r/\CallD Tryz.prog NG 71 ⟨[aB p0]⟩ h0 ((ah 1 i64) r) h0:=by
 unfold aZ at hm
 refine fw Tryz.func71 hB (enc:=(ah 1 i64)) (fun r=>ee (fun _=>ai.cons (PureV.flat rfl) ai.nil)) fun O=>?_;conv=>whnf
 refine gX ?_
 refine fz ?_;refine gX ?_
 refine fz ?_;refine gH ?_
 refine ca (gL hm O.has) fun r1 hm=>?_;refine gX ?_
 exact fe hm O
def eQ (p0:(List Nat)) (K:Int->Prop):Prop :=
 an (α:=Unit) (fun k1=>au (S:=Nat) (fun v2 nx3=>((ltN v2 p0.length)=true->∃ x4,p0[v2]?=some x4/\((ltN 3 x4)=true->K (Int.ofNat v2))/\((ltN 3 x4)=false->v2+1<2 ^ 63/\nx3 (v2+1)))/\((ltN v2 p0.length)=false->k1 ())) 0) (fun _=>K (Int.negSucc 0))
theorem nT {p0:(List Nat)}{K:Int->Prop} (hm:eQ p0 K) {h0:Heap} (hB:HasB vars h0):∃ r,K r/\CallD Tryz.prog NG 120 ⟨[(ah 1 n8) p0,(.func (.func 90) ⟨[]⟩ ⟨[]⟩)]⟩ h0 (z64 r) h0:=by
 unfold eQ at hm
 refine fw Tryz.func120 hB (enc:=z64) (fun r=>PureV.flat rfl) fun O=>?_;conv=>whnf
 apply Cs;conv=>whnf
 apply Cs;refine gH ?_
 refine jn hm 19 [] (fun s=>s) (fun _ h=>Own vars h0 [] h) (fun _=>[]) (fun hm=>?_) ?_
 ·refine gX ?_
  refine lw 19 [0,1,7] (σ:=Nat) (fun s=>s) (fun v2 h=>Own vars h0 [] h) (fun v2=>[(8,(i64 v2))]) 0 hm O ?_
  clear hm;rintro v2 nx3 base h hm O
  refine gX ?_
  refine br hm (fun hm=>?_) fun hm=>?_
  ·refine gX ?_
   refine atF hm fun x4 hx4 hm=>?_;refine gH ?_
   refine fg Tryz.func90 ?_;refine gX ?_
   refine br hm (fun hm=>?_) fun hm=>?_
   ·refine gX ?_
    exact fe hm O
   ·refine gX ?_
    refine aL hm fun hm=>?_;refine gH ?_
    exact jx (v2+1) hm O
  ·refine gX ?_
   exact jx () hm O
 ·clear hm;rintro _ base h hm O
  refine gX ?_
  exact fe hm O
def cU (p0:(List Nat)) (K:Bool->Prop):Prop :=
 eQ p0 (fun r1=>K (!ltI r1 (Int.ofNat 0)))
theorem jJ {p0:(List Nat)}{K:Bool->Prop} (hm:cU p0 K) {h0:Heap} (hB:HasB vars h0):∃ r,K r/\CallD Tryz.prog NG 89 ⟨[(ah 1 n8) p0,(.func (.func 90) ⟨[]⟩ ⟨[]⟩)]⟩ h0 (Value.bool r) h0:=by
 unfold cU at hm
 refine fw Tryz.func89 hB (enc:=Value.bool) (fun r=>PureV.flat rfl) fun O=>?_;conv=>whnf
 refine gX ?_
 refine ca (nT hm O.has) fun r1 hm=>?_;refine gX ?_
 exact fe hm O
def eK (p0:SRun) (p1:Nat) (K:Nat->Prop):Prop :=
 an (α:=Bool) (fun k2=>((ltN p1 0)=true->k2 true)/\((ltN p1 0)=false->k2 (!ltN p1 p0.nets.length))) (fun v1=>(v1=true->K 2)/\(v1=false->∃ x3,p0.nets[p1]?=some x3/\dq x3 (fun r4=>K r4)))
theorem lQ {p0:SRun}{p1:Nat}{K:Nat->Prop} (hm:eK p0 p1 K) {h0:Heap} (hB:HasB vars h0):∃ r,K r/\CallD Tryz.prog NG 100 ⟨[BB p0,i64 p1]⟩ h0 (n8 r) h0:=by
 unfold eK at hm
 refine fw Tryz.func100 hB (enc:=n8) (fun r=>PureV.flat rfl) fun O=>?_;conv=>whnf
 refine gX ?_
 refine fz ?_;refine gH ?_
 apply Cs;conv=>whnf
 refine jn hm 20 [1,2] (fun s=>s) (fun v1 h=>Own vars h0 [] h) (fun v1=>[(13,(.bool v1))]) (fun hm=>?_) ?_
 ·refine gX ?_
  refine br hm (fun hm=>?_) fun hm=>?_
  ·refine gX ?_
   exact jx true hm O
  ·refine gX ?_
   exact jx (!ltN p1 p0.nets.length) hm O
 ·clear hm;rintro v1 base h hm O
  refine gX ?_
  refine br hm (fun hm=>?_) fun hm=>?_
  ·refine gX ?_
   exact fe hm O
  ·refine gX ?_
   refine atF hm fun x3 hx3 hm=>?_;refine gH ?_
   refine ca (ku hm O.has) fun r4 hm=>?_;refine gX ?_
   exact fe hm O
def dS (p0:SRun) (K:Rsp->Prop):Prop :=
 an (α:=(List Nat)) (fun k12=>au (S:=((List Nat)×Nat)) (fun (v14,v15) nx17=>((ltN v15 p0.circ.outs.length)=true->∃ x18,p0.circ.outs[v15]?=some x18/\eK p0 x18 (fun r19=>(v14.length+([r19]:(List Nat)).length)*1<=2 ^ 47/\v15+1<2 ^ 63/\nx17 ((v14++([r19]:(List Nat))),(v15+1))))/\((ltN v15 p0.circ.outs.length)=false->k12 v14)) (([]:List Nat),0)) (fun v10=>an (α:=(List Nat)) (fun k28=>aZ p0.circ (fun r29=>au (S:=((List Nat)×Nat)) (fun (v31,v32) nx35=>((ltN v32 r29.length)=true->∃ x36,r29[v32]?=some x36/\an (α:=Nat) (fun k40=>∃ x41,p0.circ.nodes[x36]?=some x41/\((eqN x41.ins.length 1)=true->∃ x42,x41.ins[0]?=some x42/\eK p0 x42 (fun r43=>bG r43 (fun r44=>k40 r44)))/\((eqN x41.ins.length 1)=false->k40 2)) (fun v37=>(v31.length+([v37]:(List Nat)).length)*1<=2 ^ 47/\v32+1<2 ^ 63/\nx35 ((v31++([v37]:(List Nat))),(v32+1))))/\((ltN v32 r29.length)=false->k28 v31)) (([]:List Nat),0))) (fun v25=>K (⟨v10,v25⟩:Rsp)))
theorem pD {p0:SRun}{K:Rsp->Prop} (hm:dS p0 K) {h0:Heap} (hB:HasB vars h0):∃ r,K r/\CallD Tryz.prog NG 64 ⟨[BB p0]⟩ h0 (fU r) h0:=by
 unfold dS at hm
 refine fw Tryz.func64 hB (enc:=fU) (fun r=>oZ _) fun O=>?_;conv=>whnf
 refine gX ?_
 refine fz ?_;refine gH ?_
 have O:=O.aN (.cells (flatC ((([]:List Nat)).map n8)) false)
 have O:=O.aN (.cells (flatC ((([]:List Nat)).map n8)) false)
 (first|refine O.new (ak (l:=[nS,nS]) rfl rfl rfl) fun g1 h O=>?_|refine O.dA (ak (l:=[nS,nS]) rfl rfl rfl) fun g1 h O=>?_);refine gH ?_
 refine gX ?_
 have O:=O.aN (.cells (flatC ((([]:List Nat)).map n8)) false)
 have O:=O.aN (.cells (flatC ((([]:List Nat)).map n8)) false)
 (first|refine O.new (ak (l:=[nS,nS]) rfl rfl rfl) fun g5 h O=>?_|refine O.dA (ak (l:=[nS,nS]) rfl rfl rfl) fun g5 h O=>?_);refine gH ?_
 refine jn (σ:=(List Nat)×Option Nat) hm 65 [1,2,3] (fun s=>s.1) (fun (v10,a9) h=>(a9=none->v10=[])/\Own vars h0 [(sC g1 [(ag 1 none (([]:List Nat).map n8)),(ag 1 none (([]:List Nat).map n8))]),(none,.cells (flatC (([]:List Nat).map n8)) false),(none,.cells (flatC (([]:List Nat).map n8)) false),(sC g5 [(ag 1 a9 (v10.map n8)),(ag 1 none (([]:List Nat).map n8))]),(a9,.cells (flatC (v10.map n8)) false),(none,.cells (flatC (([]:List Nat).map n8)) false)] h) (fun (v10,a9)=>[]) (fun hm=>?_) ?_
 ·refine gX ?_
  refine lw 65 [1,2,3,12,13] (σ:=((List Nat)×Nat)×Option Nat) (fun s=>s.1) (fun ((v14,v15),a13) h=>(a13=none->v14=[])/\Own vars h0 [(sC g1 [(ag 1 none (([]:List Nat).map n8)),(ag 1 none (([]:List Nat).map n8))]),(none,.cells (flatC (([]:List Nat).map n8)) false),(none,.cells (flatC (([]:List Nat).map n8)) false),(sC g5 [(ag 1 a13 (v14.map n8)),(ag 1 none (([]:List Nat).map n8))]),(a13,.cells (flatC (v14.map n8)) false),(none,.cells (flatC (([]:List Nat).map n8)) false)] h) (fun ((v14,v15),a13)=>[(14,(i64 v15))]) ((([]:List Nat),0),none) hm ⟨(fun _=>rfl),(O.sel [3,5,4,0,2,1] (by decide))⟩ ?_
  clear hm;rintro⟨⟨v14,v15⟩,a13⟩ nx17 base h hm ⟨ha16,O⟩
  refine gX ?_
  refine br hm (fun hm=>?_) fun hm=>?_
  ·refine gX ?_
   refine atF hm fun x18 hx18 hm=>?_;refine gX ?_
   refine ldO (O.at (.tail _ (.tail _ (.tail _ (.head _))))) ?_;refine gH ?_
   first|refine⟨.inr (.inr (ae rfl (O.at (.tail _ (.tail _ (.tail _ (.head _))))) rfl rfl)),?_⟩|refine⟨.inr (.inl (by kernel_rfl)),?_⟩
   refine gX ?_
   refine dF ?_
   refine gX ?_
   refine ca (lQ hm O.has) fun r19 hm=>?_;refine gH ?_
   (first|refine⟨.inr (.inr (ae rfl (O.at (.head _)) rfl rfl)),?_⟩|refine⟨.inr (.inr (ae rfl (O.at (.tail _ (.head _))) rfl rfl)),?_⟩|refine⟨.inr (.inr (ae rfl (O.at (.tail _ (.tail _ (.head _)))) rfl rfl)),?_⟩|refine⟨.inr (.inr (ae rfl (O.at (.tail _ (.tail _ (.tail _ (.head _))))) rfl rfl)),?_⟩|refine⟨.inr (.inr (ae rfl (O.at (.tail _ (.tail _ (.tail _ (.tail _ (.head _)))))) rfl rfl)),?_⟩|refine⟨.inr (.inr (ae rfl (O.at (.tail _ (.tail _ (.tail _ (.tail _ (.tail _ (.head _))))))) rfl rfl)),?_⟩|refine⟨.inr (.inr (ae rfl (O.at (.tail _ (.tail _ (.tail _ (.tail _ (.tail _ (.tail _ (.head _)))))))) rfl rfl)),?_⟩|refine⟨.inl (Ext.refl _),?_⟩|refine⟨.inr (.inr rfl),?_⟩|refine⟨.inr (by kernel_rfl),?_⟩|refine⟨.inl (by kernel_rfl),?_⟩|refine id ?_);refine gH ?_
   refine O.bT (l:=([r19]:(List Nat))) (enc:=n8) (s:=1) (z:=(n8 0)) rfl rfl (by kernel_rfl) (by kernel_rfl) rfl rfl rfl rfl (fun _=>rfl) fun g20 h O=>?_;refine gH ?_
   refine O.ct (enc:=n8) (l:=v14) (new:=([r19]:(List Nat))) (s:=1) (b:=1) (.tail _ (.tail _ (.tail _ (.tail _ (.tail _ (.head _)))))) ha16 rfl rfl rfl rfl rfl rfl rfl rfl (YOk.own (O.at (.head _)) rfl (fun _=>rfl) rfl) (fun _=>rfl) (fun _=>rfl) (by decide) hm.1 fun a22 h ha23 O=>?_;refine gH ?_
   (first|refine⟨.inr (.inr (ae rfl (O.at (.head _)) rfl rfl)),?_⟩|refine⟨.inr (.inr (ae rfl (O.at (.tail _ (.head _))) rfl rfl)),?_⟩|refine⟨.inr (.inr (ae rfl (O.at (.tail _ (.tail _ (.head _)))) rfl rfl)),?_⟩|refine⟨.inr (.inr (ae rfl (O.at (.tail _ (.tail _ (.tail _ (.head _))))) rfl rfl)),?_⟩|refine⟨.inr (.inr (ae rfl (O.at (.tail _ (.tail _ (.tail _ (.tail _ (.head _)))))) rfl rfl)),?_⟩|refine⟨.inr (.inr (ae rfl (O.at (.tail _ (.tail _ (.tail _ (.tail _ (.tail _ (.head _))))))) rfl rfl)),?_⟩|refine⟨.inr (.inr (ae rfl (O.at (.tail _ (.tail _ (.tail _ (.tail _ (.tail _ (.tail _ (.head _)))))))) rfl rfl)),?_⟩|refine⟨.inl (Ext.refl _),?_⟩|refine⟨.inr (.inr rfl),?_⟩|refine⟨.inr (by kernel_rfl),?_⟩|refine⟨.inl (by kernel_rfl),?_⟩|refine id ?_);refine gH ?_
   replace hm:=hm.2
   refine O.stC 1 (.tail _ (.tail _ (.tail _ (.tail _ (.head _))))) [(ag 1 a22 ((v14++([r19]:(List Nat))).map n8)),(ag 1 none (([]:List Nat).map n8))] fun h O=>?_;refine gH ?_
   (first|refine⟨.inr (.inr (ae rfl (O.at (.head _)) rfl rfl)),?_⟩|refine⟨.inr (.inr (ae rfl (O.at (.tail _ (.head _))) rfl rfl)),?_⟩|refine⟨.inr (.inr (ae rfl (O.at (.tail _ (.tail _ (.head _)))) rfl rfl)),?_⟩|refine⟨.inr (.inr (ae rfl (O.at (.tail _ (.tail _ (.tail _ (.head _))))) rfl rfl)),?_⟩|refine⟨.inr (.inr (ae rfl (O.at (.tail _ (.tail _ (.tail _ (.tail _ (.head _)))))) rfl rfl)),?_⟩|refine⟨.inr (.inr (ae rfl (O.at (.tail _ (.tail _ (.tail _ (.tail _ (.tail _ (.head _))))))) rfl rfl)),?_⟩|refine⟨.inr (.inr (ae rfl (O.at (.tail _ (.tail _ (.tail _ (.tail _ (.tail _ (.tail _ (.head _)))))))) rfl rfl)),?_⟩|refine⟨.inl (Ext.refl _),?_⟩|refine⟨.inr (.inr rfl),?_⟩|refine⟨.inr (by kernel_rfl),?_⟩|refine⟨.inl (by kernel_rfl),?_⟩|refine id ?_);refine gH ?_
   refine gX ?_
   refine aL hm fun hm=>?_;refine gH ?_
   exact jx (((v14++([r19]:(List Nat))),(v15+1)),a22) hm ⟨ha23,(O.sel [1,2,3,4,5,6] (by decide))⟩
  ·refine gX ?_
   exact jx (v14,a13) hm ⟨ha16,O⟩
 ·clear hm;rintro⟨v10,a9⟩ base h hm ⟨ha11,O⟩
  conv=>whnf
  refine jn (σ:=(List Nat)×Option Nat) hm 65 [2,3] (fun s=>s.1) (fun (v25,a24) h=>(a9=none->v10=[])/\(a24=none->v25=[])/\Own vars h0 [(sC g1 [(ag 1 none (([]:List Nat).map n8)),(ag 1 none (([]:List Nat).map n8))]),(none,.cells (flatC (([]:List Nat).map n8)) false),(none,.cells (flatC (([]:List Nat).map n8)) false),(sC g5 [(ag 1 a9 (v10.map n8)),(ag 1 a24 (v25.map n8))]),(a9,.cells (flatC (v10.map n8)) false),(a24,.cells (flatC (v25.map n8)) false)] h) (fun (v25,a24)=>[]) (fun hm=>?_) ?_
  ·refine gX ?_
   refine ca (bL hm O.has) fun r29 hm=>?_;refine gX ?_
   refine lw 65 [1,2,3,29,30] (σ:=((List Nat)×Nat)×Option Nat) (fun s=>s.1) (fun ((v31,v32),a30) h=>(a9=none->v10=[])/\(a30=none->v31=[])/\Own vars h0 [(sC g1 [(ag 1 none (([]:List Nat).map n8)),(ag 1 none (([]:List Nat).map n8))]),(none,.cells (flatC (([]:List Nat).map n8)) false),(none,.cells (flatC (([]:List Nat).map n8)) false),(sC g5 [(ag 1 a9 (v10.map n8)),(ag 1 a30 (v31.map n8))]),(a9,.cells (flatC (v10.map n8)) false),(a30,.cells (flatC (v31.map n8)) false)] h) (fun ((v31,v32),a30)=>[(31,(i64 v32))]) ((([]:List Nat),0),none) hm ⟨ha11,(fun _=>rfl),O⟩ ?_
   clear hm;rintro⟨⟨v31,v32⟩,a30⟩ nx35 base h hm ⟨ha33,ha34,O⟩
   refine gX ?_
   refine br hm (fun hm=>?_) fun hm=>?_
   ·refine gX ?_
    refine atF hm fun x36 hx36 hm=>?_;refine gH ?_
    apply Cs;conv=>whnf
    apply Cs;refine gH ?_
    refine jn hm 65 [1,2,3,29,30,31] (fun s=>s) (fun v37 h=>(a9=none->v10=[])/\(a30=none->v31=[])/\Own vars h0 [(sC g1 [(ag 1 none (([]:List Nat).map n8)),(ag 1 none (([]:List Nat).map n8))]),(none,.cells (flatC (([]:List Nat).map n8)) false),(none,.cells (flatC (([]:List Nat).map n8)) false),(sC g5 [(ag 1 a9 (v10.map n8)),(ag 1 a30 (v31.map n8))]),(a9,.cells (flatC (v10.map n8)) false),(a30,.cells (flatC (v31.map n8)) false)] h) (fun v37=>[(8,(n8 v37))]) (fun hm=>?_) ?_
    ·refine gX ?_
     refine atF hm fun x41 hx41 hm=>?_;refine gX ?_
     refine br hm (fun hm=>?_) fun hm=>?_
     ·refine gX ?_
      refine dF ?_
      refine gX ?_
      refine atF hm fun x42 hx42 hm=>?_;refine gH ?_
      refine ca (lQ hm O.has) fun r43 hm=>?_;refine gH ?_
      (first|refine⟨.inr (.inr (ae rfl (O.at (.head _)) rfl rfl)),?_⟩|refine⟨.inr (.inr (ae rfl (O.at (.tail _ (.head _))) rfl rfl)),?_⟩|refine⟨.inr (.inr (ae rfl (O.at (.tail _ (.tail _ (.head _)))) rfl rfl)),?_⟩|refine⟨.inr (.inr (ae rfl (O.at (.tail _ (.tail _ (.tail _ (.head _))))) rfl rfl)),?_⟩|refine⟨.inr (.inr (ae rfl (O.at (.tail _ (.tail _ (.tail _ (.tail _ (.head _)))))) rfl rfl)),?_⟩|refine⟨.inr (.inr (ae rfl (O.at (.tail _ (.tail _ (.tail _ (.tail _ (.tail _ (.head _))))))) rfl rfl)),?_⟩|refine⟨.inr (.inr (ae rfl (O.at (.tail _ (.tail _ (.tail _ (.tail _ (.tail _ (.tail _ (.head _)))))))) rfl rfl)),?_⟩|refine⟨.inl (Ext.refl _),?_⟩|refine⟨.inr (.inr rfl),?_⟩|refine⟨.inr (by kernel_rfl),?_⟩|refine⟨.inl (by kernel_rfl),?_⟩|refine id ?_);refine gH ?_
      refine ca (cT hm O.has) fun r44 hm=>?_;refine gH ?_
      (first|refine⟨.inr (.inr (ae rfl (O.at (.head _)) rfl rfl)),?_⟩|refine⟨.inr (.inr (ae rfl (O.at (.tail _ (.head _))) rfl rfl)),?_⟩|refine⟨.inr (.inr (ae rfl (O.at (.tail _ (.tail _ (.head _)))) rfl rfl)),?_⟩|refine⟨.inr (.inr (ae rfl (O.at (.tail _ (.tail _ (.tail _ (.head _))))) rfl rfl)),?_⟩|refine⟨.inr (.inr (ae rfl (O.at (.tail _ (.tail _ (.tail _ (.tail _ (.head _)))))) rfl rfl)),?_⟩|refine⟨.inr (.inr (ae rfl (O.at (.tail _ (.tail _ (.tail _ (.tail _ (.tail _ (.head _))))))) rfl rfl)),?_⟩|refine⟨.inr (.inr (ae rfl (O.at (.tail _ (.tail _ (.tail _ (.tail _ (.tail _ (.tail _ (.head _)))))))) rfl rfl)),?_⟩|refine⟨.inl (Ext.refl _),?_⟩|refine⟨.inr (.inr rfl),?_⟩|refine⟨.inr (by kernel_rfl),?_⟩|refine⟨.inl (by kernel_rfl),?_⟩|refine id ?_);refine gH ?_
      exact jx r44 hm ⟨ha33,ha34,O⟩
     ·refine gX ?_
      exact jx 2 hm ⟨ha33,ha34,O⟩
    ·clear hm;rintro v37 base h hm ⟨ha38,ha39,O⟩
     refine gX ?_
     refine ldO (O.at (.tail _ (.tail _ (.tail _ (.head _))))) ?_;refine gH ?_
     refine fz ?_;refine gH ?_
     refine O.apL (enc:=n8) (l:=v31) (new:=([v37]:(List Nat))) 1 (.tail _ (.tail _ (.tail _ (.tail _ (.tail _ (.head _)))))) ha39 hm fun a45 h ha46 O hm=>?_;refine gH ?_
     refine O.stC 1 (.tail _ (.tail _ (.tail _ (.head _)))) [(ag 1 a9 (v10.map n8)),(ag 1 a45 ((v31++([v37]:(List Nat))).map n8))] fun h O=>?_;refine gX ?_
     refine aL hm fun hm=>?_;refine gH ?_
     exact jx (((v31++([v37]:(List Nat))),(v32+1)),a45) hm ⟨ha38,ha46,O⟩
   ·refine gX ?_
    exact jx (v31,a30) hm ⟨ha33,ha34,O⟩
  ·clear hm;rintro⟨v25,a24⟩ base h hm ⟨ha26,ha27,O⟩
   refine gX ?_
   refine ldO (O.at (.tail _ (.tail _ (.tail _ (.head _))))) ?_;refine gH ?_
   first|refine⟨.inr (.inr (ae rfl (O.at (.tail _ (.tail _ (.tail _ (.head _))))) rfl rfl)),?_⟩|refine⟨.inr (.inl (by kernel_rfl)),?_⟩
   refine gX ?_
   refine fg Tryz.func75 ?_;refine gX ?_
   refine ij (s:=1) (enc:=n8) (l:=v10) (n:=v10.length) (m:=v10.length) rfl rfl rfl rfl rfl rfl rfl ?_;refine gX ?_
   (first|refine⟨.inr (.inr (ae rfl (O.at (.head _)) rfl rfl)),?_⟩|refine⟨.inr (.inr (ae rfl (O.at (.tail _ (.head _))) rfl rfl)),?_⟩|refine⟨.inr (.inr (ae rfl (O.at (.tail _ (.tail _ (.head _)))) rfl rfl)),?_⟩|refine⟨.inr (.inr (ae rfl (O.at (.tail _ (.tail _ (.tail _ (.head _))))) rfl rfl)),?_⟩|refine⟨.inr (.inr (ae rfl (O.at (.tail _ (.tail _ (.tail _ (.tail _ (.head _)))))) rfl rfl)),?_⟩|refine⟨.inr (.inr (ae rfl (O.at (.tail _ (.tail _ (.tail _ (.tail _ (.tail _ (.head _))))))) rfl rfl)),?_⟩|refine⟨.inr (.inr (ae rfl (O.at (.tail _ (.tail _ (.tail _ (.tail _ (.tail _ (.tail _ (.head _)))))))) rfl rfl)),?_⟩|refine⟨.inl (Ext.refl _),?_⟩|refine⟨.inr (.inr rfl),?_⟩|refine⟨.inr (by kernel_rfl),?_⟩|refine⟨.inl (by kernel_rfl),?_⟩|refine id ?_);refine gH ?_
   refine ldO (O.at (.tail _ (.tail _ (.tail _ (.head _))))) ?_;refine gH ?_
   first|refine⟨.inr (.inr (ae rfl (O.at (.tail _ (.tail _ (.tail _ (.head _))))) rfl rfl)),?_⟩|refine⟨.inr (.inl (by kernel_rfl)),?_⟩
   refine gX ?_
   refine fg Tryz.func75 ?_;refine gX ?_
   refine ij (s:=1) (enc:=n8) (l:=v25) (n:=v25.length) (m:=v25.length) rfl rfl rfl rfl rfl rfl rfl ?_;refine gX ?_
   (first|refine⟨.inr (.inr (ae rfl (O.at (.head _)) rfl rfl)),?_⟩|refine⟨.inr (.inr (ae rfl (O.at (.tail _ (.head _))) rfl rfl)),?_⟩|refine⟨.inr (.inr (ae rfl (O.at (.tail _ (.tail _ (.head _)))) rfl rfl)),?_⟩|refine⟨.inr (.inr (ae rfl (O.at (.tail _ (.tail _ (.tail _ (.head _))))) rfl rfl)),?_⟩|refine⟨.inr (.inr (ae rfl (O.at (.tail _ (.tail _ (.tail _ (.tail _ (.head _)))))) rfl rfl)),?_⟩|refine⟨.inr (.inr (ae rfl (O.at (.tail _ (.tail _ (.tail _ (.tail _ (.tail _ (.head _))))))) rfl rfl)),?_⟩|refine⟨.inr (.inr (ae rfl (O.at (.tail _ (.tail _ (.tail _ (.tail _ (.tail _ (.tail _ (.head _)))))))) rfl rfl)),?_⟩|refine⟨.inl (Ext.refl _),?_⟩|refine⟨.inr (.inr rfl),?_⟩|refine⟨.inr (by kernel_rfl),?_⟩|refine⟨.inl (by kernel_rfl),?_⟩|refine id ?_);refine gH ?_
   refine O.stC 2 (.head _) [(dK a9 (v10.map n8)),(dK a24 (v25.map n8))] fun h O=>?_;refine gH ?_
   (first|refine⟨.inr (.inr (ae rfl (O.at (.head _)) rfl rfl)),?_⟩|refine⟨.inr (.inr (ae rfl (O.at (.tail _ (.head _))) rfl rfl)),?_⟩|refine⟨.inr (.inr (ae rfl (O.at (.tail _ (.tail _ (.head _)))) rfl rfl)),?_⟩|refine⟨.inr (.inr (ae rfl (O.at (.tail _ (.tail _ (.tail _ (.head _))))) rfl rfl)),?_⟩|refine⟨.inr (.inr (ae rfl (O.at (.tail _ (.tail _ (.tail _ (.tail _ (.head _)))))) rfl rfl)),?_⟩|refine⟨.inr (.inr (ae rfl (O.at (.tail _ (.tail _ (.tail _ (.tail _ (.tail _ (.head _))))))) rfl rfl)),?_⟩|refine⟨.inr (.inr (ae rfl (O.at (.tail _ (.tail _ (.tail _ (.tail _ (.tail _ (.tail _ (.head _)))))))) rfl rfl)),?_⟩|refine⟨.inl (Ext.refl _),?_⟩|refine⟨.inr (.inr rfl),?_⟩|refine⟨.inr (by kernel_rfl),?_⟩|refine⟨.inl (by kernel_rfl),?_⟩|refine id ?_);refine gH ?_
   refine gX ?_
   refine⟨_,aH rfl rfl (O.at (.head _)) rfl rfl (lbE rfl) rfl,?_⟩;conv=>whnf
   exact⟨(⟨v10,v25⟩:Rsp),hm,O.ext,fun h2 F=>VLe.agg (LLe.cons (O.jY F (Nat.le_refl _) (.tail _ (.tail _ (.tail _ (.tail _ (.head _))))) ha26 (fun _=>rfl)) (LLe.cons (O.jY F (Nat.le_refl _) (.tail _ (.tail _ (.tail _ (.tail _ (.tail _ (.head _)))))) ha27 (fun _=>rfl)) (LLe.nil _)))⟩
def gk (p0:Circ) (p1:Pat) (K:Nat->Prop):Prop :=
 an (α:=Bool) (fun k2=>((ltN 0 p0.mems.length)=true->k2 true)/\((ltN 0 p0.mems.length)=false->cM p0 ([15]:(List Nat)) (fun r3=>k2 (ltN 0 r3.length)))) (fun v1=>(v1=true->K 7)/\(v1=false->an (α:=Bool) (fun k5=>bh p0 (fun r6=>((neN p1.inp.length r6.length)=true->k5 true)/\((neN p1.inp.length r6.length)=false->aZ p0 (fun r7=>k5 (neN p1.state.length r7.length))))) (fun v4=>(v4=true->K 8)/\(v4=false->an (α:=Bool) (fun k9=>cU p1.inp (fun r10=>(r10=true->k9 true)/\(r10=false->cU p1.state (fun r11=>k9 r11)))) (fun v8=>(v8=true->K 1)/\(v8=false->K 0))))))
theorem sy {p0:Circ}{p1:Pat}{K:Nat->Prop} (hm:gk p0 p1 K) {h0:Heap} (hB:HasB vars h0):∃ r,K r/\CallD Tryz.prog NG 60 ⟨[aB p0,lN p1]⟩ h0 (i64 r) h0:=by
 unfold gk at hm
 refine fw Tryz.func60 hB (enc:=i64) (fun r=>PureV.flat rfl) fun O=>?_;conv=>whnf
 refine gX ?_
 refine fz ?_;refine gH ?_
 refine fz ?_;refine gH ?_
 apply Cs;conv=>whnf
 apply Cs;conv=>whnf
 refine jn hm 43 [2,3] (fun s=>s) (fun v1 h=>Own vars h0 [] h) (fun v1=>[(5,(.bool v1))]) (fun hm=>?_) ?_
 ·refine gX ?_
  refine br hm (fun hm=>?_) fun hm=>?_
  ·refine gX ?_
   exact jx true hm O
  ·refine gX ?_
   refine fz ?_;refine gH ?_
   refine ca (gL hm O.has) fun r3 hm=>?_;refine gH ?_
   exact jx (ltN 0 r3.length) hm O
 ·clear hm;rintro v1 base h hm O
  refine gX ?_
  refine br hm (fun hm=>?_) fun hm=>?_
  ·refine gX ?_
   exact fe hm O
  ·refine jn hm 43 [3] (fun s=>s) (fun v4 h=>Own vars h0 [] h) (fun v4=>[(17,(.bool v4))]) (fun hm=>?_) ?_
   ·refine gX ?_
    refine dF ?_
    refine gX ?_
    refine dF ?_
    refine gX ?_
    refine ca (cm hm O.has) fun r6 hm=>?_;refine gH ?_
    (first|refine⟨.inr (.inr (ae rfl (O.at (.head _)) rfl rfl)),?_⟩|refine⟨.inr (.inr (ae rfl (O.at (.tail _ (.head _))) rfl rfl)),?_⟩|refine⟨.inr (.inr (ae rfl (O.at (.tail _ (.tail _ (.head _)))) rfl rfl)),?_⟩|refine⟨.inr (.inr (ae rfl (O.at (.tail _ (.tail _ (.tail _ (.head _))))) rfl rfl)),?_⟩|refine⟨.inr (.inr (ae rfl (O.at (.tail _ (.tail _ (.tail _ (.tail _ (.head _)))))) rfl rfl)),?_⟩|refine⟨.inr (.inr (ae rfl (O.at (.tail _ (.tail _ (.tail _ (.tail _ (.tail _ (.head _))))))) rfl rfl)),?_⟩|refine⟨.inr (.inr (ae rfl (O.at (.tail _ (.tail _ (.tail _ (.tail _ (.tail _ (.tail _ (.head _)))))))) rfl rfl)),?_⟩|refine⟨.inl (Ext.refl _),?_⟩|refine⟨.inr (.inr rfl),?_⟩|refine⟨.inr (by kernel_rfl),?_⟩|refine⟨.inl (by kernel_rfl),?_⟩|refine id ?_);refine gH ?_
    refine br hm (fun hm=>?_) fun hm=>?_
    ·refine gX ?_
     exact jx true hm O
    ·refine gX ?_
     refine dF ?_
     refine gX ?_
     refine dF ?_
     refine gX ?_
     refine ca (bL hm O.has) fun r7 hm=>?_;refine gH ?_
     (first|refine⟨.inr (.inr (ae rfl (O.at (.head _)) rfl rfl)),?_⟩|refine⟨.inr (.inr (ae rfl (O.at (.tail _ (.head _))) rfl rfl)),?_⟩|refine⟨.inr (.inr (ae rfl (O.at (.tail _ (.tail _ (.head _)))) rfl rfl)),?_⟩|refine⟨.inr (.inr (ae rfl (O.at (.tail _ (.tail _ (.tail _ (.head _))))) rfl rfl)),?_⟩|refine⟨.inr (.inr (ae rfl (O.at (.tail _ (.tail _ (.tail _ (.tail _ (.head _)))))) rfl rfl)),?_⟩|refine⟨.inr (.inr (ae rfl (O.at (.tail _ (.tail _ (.tail _ (.tail _ (.tail _ (.head _))))))) rfl rfl)),?_⟩|refine⟨.inr (.inr (ae rfl (O.at (.tail _ (.tail _ (.tail _ (.tail _ (.tail _ (.tail _ (.head _)))))))) rfl rfl)),?_⟩|refine⟨.inl (Ext.refl _),?_⟩|refine⟨.inr (.inr rfl),?_⟩|refine⟨.inr (by kernel_rfl),?_⟩|refine⟨.inl (by kernel_rfl),?_⟩|refine id ?_);refine gH ?_
     exact jx (neN p1.state.length r7.length) hm O
   ·clear hm;rintro v4 base h hm O
    refine gX ?_
    refine br hm (fun hm=>?_) fun hm=>?_
    ·refine gX ?_
     exact fe hm O
    ·refine jn hm 43 [] (fun s=>s) (fun v8 h=>Own vars h0 [] h) (fun v8=>[(34,(.bool v8))]) (fun hm=>?_) ?_
     ·refine gX ?_
      refine ca (jJ hm O.has) fun r10 hm=>?_;refine gH ?_
      refine br hm (fun hm=>?_) fun hm=>?_
      ·refine gX ?_
       exact jx true hm O
      ·refine gX ?_
       refine ca (jJ hm O.has) fun r11 hm=>?_;refine gH ?_
       exact jx r11 hm O
     ·clear hm;rintro v8 base h hm O
      refine gX ?_
      refine br hm (fun hm=>?_) fun hm=>?_
      ·refine gX ?_
       exact fe hm O
      ·refine gX ?_
       exact fe hm O
def fI (p0:Circ) (p1:Pat) (K:(Rsp×(List Nat)×Nat)->Prop):Prop :=
 bn p0 (fun r5=>an (α:=Nat) (fun k7=>((eqN r5.2 0)=true->gk p0 p1 (fun r8=>k7 r8))/\((eqN r5.2 0)=false->k7 r5.2)) (fun v6=>((neN v6 0)=true->K ((⟨[],[]⟩:Rsp),[],v6))/\((neN v6 0)=false->1*p0.nodes.length<=2 ^ 48/\p0.nodes.length<2 ^ 63/\an (α:=(List Nat)) (fun k21=>bh p0 (fun r22=>au (S:=((List Nat)×Nat)) (fun (v23,v24) nx25=>((ltN v24 r22.length)=true->∃ x26,r22[v24]?=some x26/\∃ x27,p1.inp[v24]?=some x27/\x26<p0.nodes.length/\∃ x28,v23[x26]?=some x28/\v24+1<2 ^ 63/\nx25 ((v23.set x26 x27),(v24+1)))/\((ltN v24 r22.length)=false->k21 v23)) ((List.replicate p0.nodes.length (0:Nat)),0))) (fun v20=>aZ p0 (fun r29=>au (S:=((List Nat)×Nat)) (fun (v30,v31) nx32=>((ltN v31 r29.length)=true->∃ x33,r29[v31]?=some x33/\∃ x34,p1.state[v31]?=some x34/\x33<p0.nodes.length/\∃ x35,v30[x33]?=some x35/\v31+1<2 ^ 63/\nx32 ((v30.set x33 x34),(v31+1)))/\((ltN v31 r29.length)=false->an (α:=(List Nat)) (fun k39=>au (S:=((List Nat)×(List Nat)×Nat×Nat)) (fun (v40,v41,v42,v43) nx44=>((ltN v43 r5.1.length)=true->an (α:=((List Nat)×(List Nat)×Nat)) (fun k48=>∃ x49,r5.1[v43]?=some x49/\∃ x50,p0.nodes[x49]?=some x50/\cg x50.kind (fun r54=>((!r54)=true->k48 (v40,v41,v42))/\((!r54)=false->0<=16/\an (α:=((List Nat)×Nat)) (fun k57=>au (S:=((List Nat)×Nat×Nat)) (fun (v58,v59,v60) nx61=>((ltN v60 x50.ins.length)=true->∃ x62,x50.ins[v60]?=some x62/\x62<p0.nodes.length/\∃ x63,v40[x62]?=some x63/\(v59+1)<=16/\(v59+1)<=v58.length/\v60+1<2 ^ 63/\nx61 ((v58.take v59++(([x63]:(List Nat))++v58.drop (v59+1))),(v59+1),(v60+1)))/\((ltN v60 x50.ins.length)=false->k57 (v58,v59))) (v41,0,0)) (fun (v55,v56)=>v56<=v55.length/\bA x50.kind (v55.take v56) (fun r64=>x49<p0.nodes.length/\∃ x66,v40[x49]?=some x66/\k48 ((v40.set x49 r64),v55,v56)))))) (fun (v45,v46,v47)=>v43+1<2 ^ 63/\nx44 (v45,v46,v47,(v43+1))))/\((ltN v43 r5.1.length)=false->k39 v40)) (v30,(List.replicate 16 (0:Nat)),0,0)) (fun v38=>p0.nodes.length=v38.length/\dS (⟨p0,v38⟩:SRun) (fun r68=>K (r68,v38,0))))) (v20,0))))))
theorem tt {p0:Circ}{p1:Pat}{K:(Rsp×(List Nat)×Nat)->Prop} (hm:fI p0 p1 K) {h0:Heap} (hB:HasB vars h0):∃ r,K r/\CallD Tryz.prog NG 36 ⟨[aB p0,lN p1]⟩ h0 ((fun (r:(Rsp×(List Nat)×Nat))=>Value.tuple ⟨[fU (r.1),(ah 1 n8) (r.2.1),i64 (r.2.2)]⟩) r) h0:=by
 unfold fI at hm
 refine fw Tryz.func36 hB (enc:=(fun (r:(Rsp×(List Nat)×Nat))=>Value.tuple ⟨[fU (r.1),(ah 1 n8) (r.2.1),i64 (r.2.2)]⟩)) (fun r=>PureV.tup (ai.cons (oZ _) (ai.cons (ee (fun _=>ai.cons (PureV.flat rfl) ai.nil)) (ai.cons (PureV.flat rfl) (ai.nil))))) fun O=>?_;conv=>whnf
 refine gX ?_
 refine fz ?_;refine gH ?_
 refine fz ?_;refine gH ?_
 have O:=O.aN (.cells (flatC ((([]:List Nat)).map n8)) false)
 have O:=O.aN (.cells (flatC ((([]:List Nat)).map n8)) false)
 (first|refine O.new (ak (l:=[nS,nS]) rfl rfl rfl) fun g1 h O=>?_|refine O.dA (ak (l:=[nS,nS]) rfl rfl rfl) fun g1 h O=>?_);refine gH ?_
 refine gX ?_
 refine ca (dj hm O.has) fun r5 hm=>?_;refine gH ?_
 refine jn hm 87 [2,3,4,7] (fun s=>s) (fun v6 h=>Own vars h0 [(sC g1 [(ag 1 none (([]:List Nat).map n8)),(ag 1 none (([]:List Nat).map n8))]),(none,.cells (flatC (([]:List Nat).map n8)) false),(none,.cells (flatC (([]:List Nat).map n8)) false)] h) (fun v6=>[(8,(i64 v6))]) (fun hm=>?_) ?_
 ·refine gX ?_
  refine br hm (fun hm=>?_) fun hm=>?_
  ·refine gX ?_
   refine ca (sy hm O.has) fun r8 hm=>?_;refine gH ?_
   exact jx r8 hm (O.sel [0,2,1] (by decide))
  ·refine gX ?_
   exact jx r5.2 hm (O.sel [0,2,1] (by decide))
 ·clear hm;rintro v6 base h hm O
  refine gX ?_
  refine br hm (fun hm=>?_) fun hm=>?_
  ·refine gX ?_
   refine O.stC 2 (.head _) [nS,nS] fun h O=>?_;refine gX ?_
   refine⟨_,aH rfl rfl (O.at (.head _)) rfl rfl (lbE rfl) rfl,?_⟩;conv=>whnf
   exact⟨((⟨[],[]⟩:Rsp),[],v6),hm,O.ext,fun h2 F=>VLe.tup (LLe.cons (VLe.agg (LLe.cons (VLe.nil _ _) (LLe.cons (VLe.nil _ _) (LLe.nil _)))) (LLe.cons (VLe.nil _ _) (LLe.cons (VLe.refl _ _) (LLe.nil _))))⟩
  ·refine gX ?_
   refine dF ?_
   refine gX ?_
   refine dF ?_
   refine gX ?_
   refine O.Ep (enc:=n8) (z:=0) (b:=1) (s:=1) (n:=p0.nodes.length) rfl rfl rfl rfl rfl (by decide) (by kernel_rfl) rfl rfl hm.1 hm.2.1 fun g9 h O=>?_;refine gH ?_
   replace hm:=hm.2.2
   have O:=O.aN (.cells (flatC ((([]:List Node)).map al)) false)
   have O:=O.aN (.cells (flatC ((([]:List ByteArray)).map Value.string)) false)
   have O:=O.aN (.cells (flatC ((([]:List Memo)).map av)) false)
   have O:=O.aN (.cells (flatC ((([]:List Nat)).map i64)) false)
   have O:=O.aN (.cells (flatC ((([]:List Nat)).map n8)) false)
   (first|refine O.new (ak (l:=[nS,nS,nS,nS,nS]) rfl rfl rfl) fun g11 h O=>?_|refine O.dA (ak (l:=[nS,nS,nS,nS,nS]) rfl rfl rfl) fun g11 h O=>?_);refine gH ?_
   refine O.stC 5 (.head _) [((ah 4 al) p0.nodes),((ah 1 Value.string) p0.names),((ah 3 av) p0.mems),((ah 1 i64) p0.outs),(.slice (some ⟨g9,0,none⟩) p0.nodes.length p0.nodes.length)] fun h O=>?_;refine gH ?_
   (first|refine⟨.inr (.inr (ae rfl (O.at (.head _)) rfl rfl)),?_⟩|refine⟨.inr (.inr (ae rfl (O.at (.tail _ (.head _))) rfl rfl)),?_⟩|refine⟨.inr (.inr (ae rfl (O.at (.tail _ (.tail _ (.head _)))) rfl rfl)),?_⟩|refine⟨.inr (.inr (ae rfl (O.at (.tail _ (.tail _ (.tail _ (.head _))))) rfl rfl)),?_⟩|refine⟨.inr (.inr (ae rfl (O.at (.tail _ (.tail _ (.tail _ (.tail _ (.head _)))))) rfl rfl)),?_⟩|refine⟨.inr (.inr (ae rfl (O.at (.tail _ (.tail _ (.tail _ (.tail _ (.tail _ (.head _))))))) rfl rfl)),?_⟩|refine⟨.inr (.inr (ae rfl (O.at (.tail _ (.tail _ (.tail _ (.tail _ (.tail _ (.tail _ (.head _)))))))) rfl rfl)),?_⟩|refine⟨.inl (Ext.refl _),?_⟩|refine⟨.inr (.inr rfl),?_⟩|refine⟨.inr (by kernel_rfl),?_⟩|refine⟨.inl (by kernel_rfl),?_⟩|refine id ?_);refine gH ?_
   refine gX ?_
   refine ldA (O.at (.head _)) ?_;refine gH ?_
   refine fg Tryz.func61 ?_;refine gX ?_
   (first|refine O.new (nH rfl) fun g18 h O=>?_|refine O.dA (nH rfl) fun g18 h O=>?_);refine gH ?_
   refine fz ?_;refine gH ?_
   refine jn hm 46 [2,3] (fun s=>s) (fun v20 h=>Own vars h0 [(sC g18 [((ah 4 al) p0.nodes),((ah 1 Value.string) p0.names),((ah 3 av) p0.mems),((ah 1 i64) p0.outs),(.slice (some ⟨g9,0,none⟩) p0.nodes.length p0.nodes.length)]),(sC g9 (flatC (v20.map n8))),(sC g1 [(ag 1 none (([]:List Nat).map n8)),(ag 1 none (([]:List Nat).map n8))]),(none,.cells (flatC (([]:List Nat).map n8)) false),(none,.cells (flatC (([]:List Nat).map n8)) false),(sC g11 [((ah 4 al) p0.nodes),((ah 1 Value.string) p0.names),((ah 3 av) p0.mems),((ah 1 i64) p0.outs),(.slice (some ⟨g9,0,none⟩) p0.nodes.length p0.nodes.length)])] h) (fun v20=>[]) (fun hm=>?_) ?_
   ·refine gX ?_
    refine ldA (O.at (.head _)) ?_;refine gH ?_
    refine ca (cm hm O.has) fun r22 hm=>?_;refine gX ?_
    refine lw 46 [2,3,10,11] (σ:=((List Nat)×Nat)) (fun s=>s) (fun (v23,v24) h=>Own vars h0 [(sC g18 [((ah 4 al) p0.nodes),((ah 1 Value.string) p0.names),((ah 3 av) p0.mems),((ah 1 i64) p0.outs),(.slice (some ⟨g9,0,none⟩) p0.nodes.length p0.nodes.length)]),(sC g9 (flatC (v23.map n8))),(sC g1 [(ag 1 none (([]:List Nat).map n8)),(ag 1 none (([]:List Nat).map n8))]),(none,.cells (flatC (([]:List Nat).map n8)) false),(none,.cells (flatC (([]:List Nat).map n8)) false),(sC g11 [((ah 4 al) p0.nodes),((ah 1 Value.string) p0.names),((ah 3 av) p0.mems),((ah 1 i64) p0.outs),(.slice (some ⟨g9,0,none⟩) p0.nodes.length p0.nodes.length)])] h) (fun (v23,v24)=>[(12,(i64 v24))]) ((List.replicate p0.nodes.length (0:Nat)),0) hm (O.sel [0,7,8,9,10,1] (by decide)) ?_
    clear hm;rintro⟨v23,v24⟩ nx25 base h hm O
    refine gX ?_
    refine br hm (fun hm=>?_) fun hm=>?_
    ·refine gX ?_
     refine atF hm fun x26 hx26 hm=>?_;refine gX ?_
     first|refine⟨.inr (.inr (ae rfl (O.at (.head _)) rfl rfl)),?_⟩|refine⟨.inr (.inl (by kernel_rfl)),?_⟩
     refine gX ?_
     refine dF ?_
     refine gX ?_
     refine atF hm fun x27 hx27 hm=>?_;refine gH ?_
     refine ix 1 hm fun x28 hx28 hm=>?_;refine gH ?_
     refine O.stE 1 (.tail _ (.head _)) hx28 x27 fun h O=>?_;refine gH ?_
     (first|refine⟨.inr (.inr (ae rfl (O.at (.head _)) rfl rfl)),?_⟩|refine⟨.inr (.inr (ae rfl (O.at (.tail _ (.head _))) rfl rfl)),?_⟩|refine⟨.inr (.inr (ae rfl (O.at (.tail _ (.tail _ (.head _)))) rfl rfl)),?_⟩|refine⟨.inr (.inr (ae rfl (O.at (.tail _ (.tail _ (.tail _ (.head _))))) rfl rfl)),?_⟩|refine⟨.inr (.inr (ae rfl (O.at (.tail _ (.tail _ (.tail _ (.tail _ (.head _)))))) rfl rfl)),?_⟩|refine⟨.inr (.inr (ae rfl (O.at (.tail _ (.tail _ (.tail _ (.tail _ (.tail _ (.head _))))))) rfl rfl)),?_⟩|refine⟨.inr (.inr (ae rfl (O.at (.tail _ (.tail _ (.tail _ (.tail _ (.tail _ (.tail _ (.head _)))))))) rfl rfl)),?_⟩|refine⟨.inl (Ext.refl _),?_⟩|refine⟨.inr (.inr rfl),?_⟩|refine⟨.inr (by kernel_rfl),?_⟩|refine⟨.inl (by kernel_rfl),?_⟩|refine id ?_);refine gH ?_
     refine gX ?_
     refine aL hm fun hm=>?_;refine gH ?_
     exact jx ((v23.set x26 x27),(v24+1)) hm O
    ·refine gX ?_
     exact jx v23 hm O
   ·clear hm;rintro v20 base h hm O
    refine gX ?_
    refine ldA (O.at (.head _)) ?_;refine gH ?_
    refine ca (bL hm O.has) fun r29 hm=>?_;refine gX ?_
    refine lw 46 [2,3,29,30] (σ:=((List Nat)×Nat)) (fun s=>s) (fun (v30,v31) h=>Own vars h0 [(sC g18 [((ah 4 al) p0.nodes),((ah 1 Value.string) p0.names),((ah 3 av) p0.mems),((ah 1 i64) p0.outs),(.slice (some ⟨g9,0,none⟩) p0.nodes.length p0.nodes.length)]),(sC g9 (flatC (v30.map n8))),(sC g1 [(ag 1 none (([]:List Nat).map n8)),(ag 1 none (([]:List Nat).map n8))]),(none,.cells (flatC (([]:List Nat).map n8)) false),(none,.cells (flatC (([]:List Nat).map n8)) false),(sC g11 [((ah 4 al) p0.nodes),((ah 1 Value.string) p0.names),((ah 3 av) p0.mems),((ah 1 i64) p0.outs),(.slice (some ⟨g9,0,none⟩) p0.nodes.length p0.nodes.length)])] h) (fun (v30,v31)=>[(31,(i64 v31))]) (v20,0) hm O ?_
    clear hm;rintro⟨v30,v31⟩ nx32 base h hm O
    refine gX ?_
    refine br hm (fun hm=>?_) fun hm=>?_
    ·refine gX ?_
     refine atF hm fun x33 hx33 hm=>?_;refine gX ?_
     first|refine⟨.inr (.inr (ae rfl (O.at (.head _)) rfl rfl)),?_⟩|refine⟨.inr (.inl (by kernel_rfl)),?_⟩
     refine gX ?_
     refine dF ?_
     refine gX ?_
     refine atF hm fun x34 hx34 hm=>?_;refine gH ?_
     refine ix 1 hm fun x35 hx35 hm=>?_;refine gH ?_
     refine O.stE 1 (.tail _ (.head _)) hx35 x34 fun h O=>?_;refine gH ?_
     (first|refine⟨.inr (.inr (ae rfl (O.at (.head _)) rfl rfl)),?_⟩|refine⟨.inr (.inr (ae rfl (O.at (.tail _ (.head _))) rfl rfl)),?_⟩|refine⟨.inr (.inr (ae rfl (O.at (.tail _ (.tail _ (.head _)))) rfl rfl)),?_⟩|refine⟨.inr (.inr (ae rfl (O.at (.tail _ (.tail _ (.tail _ (.head _))))) rfl rfl)),?_⟩|refine⟨.inr (.inr (ae rfl (O.at (.tail _ (.tail _ (.tail _ (.tail _ (.head _)))))) rfl rfl)),?_⟩|refine⟨.inr (.inr (ae rfl (O.at (.tail _ (.tail _ (.tail _ (.tail _ (.tail _ (.head _))))))) rfl rfl)),?_⟩|refine⟨.inr (.inr (ae rfl (O.at (.tail _ (.tail _ (.tail _ (.tail _ (.tail _ (.tail _ (.head _)))))))) rfl rfl)),?_⟩|refine⟨.inl (Ext.refl _),?_⟩|refine⟨.inr (.inr rfl),?_⟩|refine⟨.inr (by kernel_rfl),?_⟩|refine⟨.inl (by kernel_rfl),?_⟩|refine id ?_);refine gH ?_
     refine gX ?_
     refine aL hm fun hm=>?_;refine gH ?_
     exact jx ((v30.set x33 x34),(v31+1)) hm O
    ·refine gX ?_
     refine O.E4 (enc:=n8) (z:=0) (b:=1) (s:=1) (m:=0) (n:=16) rfl rfl rfl rfl rfl (by decide) (by kernel_rfl) rfl rfl (by decide) (by decide) (by decide) fun g36 h O=>?_;refine gH ?_
     refine jn hm 87 [4,9] (fun s=>s) (fun v38 h=>Own vars h0 [(sC g1 [(ag 1 none (([]:List Nat).map n8)),(ag 1 none (([]:List Nat).map n8))]),(none,.cells (flatC (([]:List Nat).map n8)) false),(none,.cells (flatC (([]:List Nat).map n8)) false),(sC g11 [((ah 4 al) p0.nodes),((ah 1 Value.string) p0.names),((ah 3 av) p0.mems),((ah 1 i64) p0.outs),(.slice (some ⟨g9,0,none⟩) p0.nodes.length p0.nodes.length)]),(sC g9 (flatC (v38.map n8)))] h) (fun v38=>[]) (fun hm=>?_) ?_
     ·refine gX ?_
      refine lw 87 [4,9,40,41] (σ:=((List Nat)×(List Nat)×Nat×Nat)) (fun s=>s) (fun (v40,v41,v42,v43) h=>Own vars h0 [(sC g1 [(ag 1 none (([]:List Nat).map n8)),(ag 1 none (([]:List Nat).map n8))]),(none,.cells (flatC (([]:List Nat).map n8)) false),(none,.cells (flatC (([]:List Nat).map n8)) false),(sC g11 [((ah 4 al) p0.nodes),((ah 1 Value.string) p0.names),((ah 3 av) p0.mems),((ah 1 i64) p0.outs),(.slice (some ⟨g9,0,none⟩) p0.nodes.length p0.nodes.length)]),(sC g9 (flatC (v40.map n8))),(sC g36 (flatC (v41.map n8)))] h) (fun (v40,v41,v42,v43)=>[(10,(.slice (some ⟨g36,0,none⟩) v42 16)),(42,(i64 v43))]) (v30,(List.replicate 16 (0:Nat)),0,0) hm (O.sel [3,4,5,6,2,0] (by decide)) ?_
      clear hm;rintro⟨v40,v41,v42,v43⟩ nx44 base h hm O
      refine gX ?_
      refine br hm (fun hm=>?_) fun hm=>?_
      ·apply Cs;conv=>whnf
       refine jn hm 87 [4,9,40,41,42] (fun s=>s) (fun (v45,v46,v47) h=>Own vars h0 [(sC g1 [(ag 1 none (([]:List Nat).map n8)),(ag 1 none (([]:List Nat).map n8))]),(none,.cells (flatC (([]:List Nat).map n8)) false),(none,.cells (flatC (([]:List Nat).map n8)) false),(sC g11 [((ah 4 al) p0.nodes),((ah 1 Value.string) p0.names),((ah 3 av) p0.mems),((ah 1 i64) p0.outs),(.slice (some ⟨g9,0,none⟩) p0.nodes.length p0.nodes.length)]),(sC g9 (flatC (v45.map n8))),(sC g36 (flatC (v46.map n8)))] h) (fun (v45,v46,v47)=>[(10,(.slice (some ⟨g36,0,none⟩) v47 16))]) (fun hm=>?_) ?_
       ·refine gX ?_
        refine atF hm fun x49 hx49 hm=>?_;refine gX ?_
        refine ldO (O.at (.tail _ (.tail _ (.tail _ (.head _))))) ?_;refine gH ?_
        refine atF hm fun x50 hx50 hm=>?_;refine gH ?_
        have O:=O.aN (.cells (flatC ((([]:List Nat)).map i64)) false)
        (first|refine O.new (ak (l:=[(n8 0),nS,(i64 0),(i64 0)]) rfl rfl rfl) fun g51 h O=>?_|refine O.dA (ak (l:=[(n8 0),nS,(i64 0),(i64 0)]) rfl rfl rfl) fun g51 h O=>?_);refine gH ?_
        refine O.stC 4 (.head _) [(n8 x50.kind),((ah 1 i64) x50.ins),(i64 x50.mem),(i64 x50.bit)] fun h O=>?_;refine gX ?_
        refine ca (fB hm O.has) fun r54 hm=>?_;refine gX ?_
        refine br hm (fun hm=>?_) fun hm=>?_
        ·refine gX ?_
         exact jx (v40,v41,v42) hm (O.sel [2,3,4,5,6,7] (by decide))
        ·refine gX ?_
         refine E0 (s:=1) (m:=0) rfl rfl rfl rfl hm.1 ?_;refine gH ?_
         replace hm:=hm.2
         refine jn hm 87 [4,9,12,13,40,41,42] (fun s=>s) (fun (v55,v56) h=>Own vars h0 [(sC g1 [(ag 1 none (([]:List Nat).map n8)),(ag 1 none (([]:List Nat).map n8))]),(none,.cells (flatC (([]:List Nat).map n8)) false),(none,.cells (flatC (([]:List Nat).map n8)) false),(sC g11 [((ah 4 al) p0.nodes),((ah 1 Value.string) p0.names),((ah 3 av) p0.mems),((ah 1 i64) p0.outs),(.slice (some ⟨g9,0,none⟩) p0.nodes.length p0.nodes.length)]),(sC g9 (flatC (v40.map n8))),(sC g36 (flatC (v55.map n8))),(sC g51 [(n8 x50.kind),((ah 1 i64) x50.ins),(i64 x50.mem),(i64 x50.bit)])] h) (fun (v55,v56)=>[(10,(.slice (some ⟨g36,0,none⟩) v56 16))]) (fun hm=>?_) ?_
         ·refine gX ?_
          refine lw 87 [4,9,12,13,40,41,42,59,60] (σ:=((List Nat)×Nat×Nat)) (fun s=>s) (fun (v58,v59,v60) h=>Own vars h0 [(sC g1 [(ag 1 none (([]:List Nat).map n8)),(ag 1 none (([]:List Nat).map n8))]),(none,.cells (flatC (([]:List Nat).map n8)) false),(none,.cells (flatC (([]:List Nat).map n8)) false),(sC g11 [((ah 4 al) p0.nodes),((ah 1 Value.string) p0.names),((ah 3 av) p0.mems),((ah 1 i64) p0.outs),(.slice (some ⟨g9,0,none⟩) p0.nodes.length p0.nodes.length)]),(sC g9 (flatC (v40.map n8))),(sC g36 (flatC (v58.map n8))),(sC g51 [(n8 x50.kind),((ah 1 i64) x50.ins),(i64 x50.mem),(i64 x50.bit)])] h) (fun (v58,v59,v60)=>[(10,(.slice (some ⟨g36,0,none⟩) v59 16)),(61,(i64 v60))]) (v41,0,0) hm (O.sel [2,3,4,5,6,7,0] (by decide)) ?_
          clear hm;rintro⟨v58,v59,v60⟩ nx61 base h hm O
          refine gX ?_
          refine br hm (fun hm=>?_) fun hm=>?_
          ·refine gX ?_
           refine atF hm fun x62 hx62 hm=>?_;refine gX ?_
           refine ldO (O.at (.tail _ (.tail _ (.tail _ (.head _))))) ?_;refine gH ?_
           refine ix 1 hm fun x63 hx63 hm=>?_;refine gH ?_
           refine ldE (s:=1) (i:=0) (O.at (.tail _ (.tail _ (.tail _ (.tail _ (.head _)))))) hx63 ?_;refine gH ?_
           refine fz ?_;refine gH ?_
           refine O.Di (enc:=n8) (l:=v58) (new:=([x63]:(List Nat))) (s:=1) (b:=1) (.tail _ (.tail _ (.tail _ (.tail _ (.tail _ (.head _)))))) rfl rfl rfl rfl rfl rfl rfl (YOk.fl rfl) (fun _=>rfl) (fun _=>rfl) (Nat.zero_lt_succ _) hm.1 hm.2.1 fun h O=>?_;refine gX ?_
           replace hm:=hm.2.2
           refine aL hm fun hm=>?_;refine gH ?_
           exact jx ((v58.take v59++(([x63]:(List Nat))++v58.drop (v59+1))),(v59+1),(v60+1)) hm O
          ·refine gX ?_
           exact jx (v58,v59) hm O
         ·clear hm;rintro⟨v55,v56⟩ base h hm O
          refine gX ?_
          refine ldO (O.at (.tail _ (.tail _ (.tail _ (.head _))))) ?_;refine gH ?_
          first|refine⟨.inr (.inr (ae rfl (O.at (.tail _ (.tail _ (.tail _ (.head _))))) rfl rfl)),?_⟩|refine⟨.inr (.inl (by kernel_rfl)),?_⟩
          refine gX ?_
          refine ldO (O.at (.tail _ (.tail _ (.tail _ (.tail _ (.tail _ (.tail _ (.head _)))))))) ?_;refine gH ?_
          obtain⟨hn65,hm⟩:=hm
          refine CallD.DH (fun _ hb=>fq hm hb) (fun _=>lE rfl) sJ O.has (fun h2 F=>(LLe.cons (VLe.refl _ _) (LLe.cons (O.Fm F (Nat.zero_le _) (.tail _ (.tail _ (.tail _ (.tail _ (.tail _ (.head _)))))) (fun _=>rfl) hn65) (LLe.nil _)))) (by kernel_rfl) (fun r64 hm'=>?_);replace hm:=hm';refine gH ?_
          (first|refine⟨.inr (.inr (ae rfl (O.at (.head _)) rfl rfl)),?_⟩|refine⟨.inr (.inr (ae rfl (O.at (.tail _ (.head _))) rfl rfl)),?_⟩|refine⟨.inr (.inr (ae rfl (O.at (.tail _ (.tail _ (.head _)))) rfl rfl)),?_⟩|refine⟨.inr (.inr (ae rfl (O.at (.tail _ (.tail _ (.tail _ (.head _))))) rfl rfl)),?_⟩|refine⟨.inr (.inr (ae rfl (O.at (.tail _ (.tail _ (.tail _ (.tail _ (.head _)))))) rfl rfl)),?_⟩|refine⟨.inr (.inr (ae rfl (O.at (.tail _ (.tail _ (.tail _ (.tail _ (.tail _ (.head _))))))) rfl rfl)),?_⟩|refine⟨.inr (.inr (ae rfl (O.at (.tail _ (.tail _ (.tail _ (.tail _ (.tail _ (.tail _ (.head _)))))))) rfl rfl)),?_⟩|refine⟨.inl (Ext.refl _),?_⟩|refine⟨.inr (.inr rfl),?_⟩|refine⟨.inr (by kernel_rfl),?_⟩|refine⟨.inl (by kernel_rfl),?_⟩|refine id ?_);refine gH ?_
          refine ix 1 hm fun x66 hx66 hm=>?_;refine gH ?_
          refine O.stE 1 (.tail _ (.tail _ (.tail _ (.tail _ (.head _))))) hx66 r64 fun h O=>?_;refine gH ?_
          (first|refine⟨.inr (.inr (ae rfl (O.at (.head _)) rfl rfl)),?_⟩|refine⟨.inr (.inr (ae rfl (O.at (.tail _ (.head _))) rfl rfl)),?_⟩|refine⟨.inr (.inr (ae rfl (O.at (.tail _ (.tail _ (.head _)))) rfl rfl)),?_⟩|refine⟨.inr (.inr (ae rfl (O.at (.tail _ (.tail _ (.tail _ (.head _))))) rfl rfl)),?_⟩|refine⟨.inr (.inr (ae rfl (O.at (.tail _ (.tail _ (.tail _ (.tail _ (.head _)))))) rfl rfl)),?_⟩|refine⟨.inr (.inr (ae rfl (O.at (.tail _ (.tail _ (.tail _ (.tail _ (.tail _ (.head _))))))) rfl rfl)),?_⟩|refine⟨.inr (.inr (ae rfl (O.at (.tail _ (.tail _ (.tail _ (.tail _ (.tail _ (.tail _ (.head _)))))))) rfl rfl)),?_⟩|refine⟨.inl (Ext.refl _),?_⟩|refine⟨.inr (.inr rfl),?_⟩|refine⟨.inr (by kernel_rfl),?_⟩|refine⟨.inl (by kernel_rfl),?_⟩|refine id ?_);refine gH ?_
          exact jx ((v40.set x49 r64),v55,v56) hm (O.sel [0,1,2,3,4,5] (by decide))
       ·clear hm;rintro⟨v45,v46,v47⟩ base h hm O
        refine gX ?_
        refine aL hm fun hm=>?_;refine gH ?_
        exact jx (v45,v46,v47,(v43+1)) hm O
      ·refine gX ?_
       exact jx v40 hm (O.sel [0,1,2,3,4] (by decide))
     ·clear hm;rintro v38 base h hm O
      conv=>whnf
      apply Cs;conv=>whnf
      obtain⟨hn67,hm⟩:=hm
      refine CodeS.BQ (cs2':=[((ah 4 al) p0.nodes),((ah 1 Value.string) p0.names),((ah 3 av) p0.mems),((ah 1 i64) p0.outs),((ah 1 n8) v38)]) (v:=(.agg ⟨[((ah 4 al) p0.nodes),((ah 1 Value.string) p0.names),((ah 3 av) p0.mems),((ah 1 i64) p0.outs),((ah 1 n8) v38)]⟩)) O (.tail _ (.tail _ (.tail _ (.tail _ (.head _))))) (.tail _ (.tail _ (.tail _ (.head _)))) (j:=4) (t2:=9) rfl rfl rfl rfl (fun h2 q=>(LLe.cons (VLe.refl _ _) (LLe.cons (VLe.refl _ _) (LLe.cons (VLe.refl _ _) (LLe.cons (VLe.refl _ _) (LLe.cons (VLe.flM q hn67 (fun _=>rfl)) (LLe.nil _))))))) fun h O=>?_;conv=>whnf
      refine CodeS.jD ?_;refine gH ?_
      refine ca (pD hm O.has) fun r68 hm=>?_;refine gH ?_
      refine O.stC 2 (.head _) [((ah 1 n8) r68.out),((ah 1 n8) r68.next)] fun h O=>?_;refine gX ?_
      refine⟨_,aH rfl rfl (O.at (.head _)) rfl rfl (lbE rfl) rfl,?_⟩;conv=>whnf
      exact⟨(r68,v38,0),hm,O.ext,fun h2 F=>VLe.tup (LLe.cons (VLe.refl _ _) (LLe.cons (VLe.refl _ _) (LLe.cons (VLe.refl _ _) (LLe.nil _))))⟩
set_option maxHeartbeats 8000000
def cV (p0:Circ) (K:Nat->Prop):Prop :=
 cW p0 (fun r1=>((neN r1 0)=true->K r1)/\((neN r1 0)=false->((ltN 0 p0.mems.length)=true->K 7)/\((ltN 0 p0.mems.length)=false->K 0)))
theorem jv {p0:Circ}{K:Nat->Prop} (hm:cV p0 K) {h0:Heap} (hB:HasB vars h0):∃ r,K r/\CallD Tryz.prog NG 48 ⟨[aB p0]⟩ h0 (i64 r) h0:=by
 unfold cV at hm
 refine fw Tryz.func48 hB (enc:=i64) (fun r=>PureV.flat rfl) fun O=>?_;conv=>whnf
 refine gX ?_
 refine fz ?_;refine gX ?_
 refine ca (nb hm O.has) fun r1 hm=>?_;refine gX ?_
 refine br hm (fun hm=>?_) fun hm=>?_
 ·refine gX ?_
  exact fe hm O
 ·refine gX ?_
  refine br hm (fun hm=>?_) fun hm=>?_
  ·refine gX ?_
   exact fe hm O
  ·refine gX ?_
   exact fe hm O
def gf (p0:Circ) (p1:Nat) (K:(List Bool)->Prop):Prop :=
 1*p0.nodes.length<=2 ^ 48/\p0.nodes.length<2 ^ 63/\p1<p0.nodes.length/\∃ x3,(List.replicate p0.nodes.length (false:Bool))[p1]?=some x3/\an (α:=(List Bool)) (fun k5=>au (S:=((List Bool)×(List Nat))) (fun (v8,v12) nx15=>((ltN 0 v12.length)=true->1<=v12.length/\v12.length<2 ^ 63/\∃ x16,v12[(v12.length-1)]?=some x16/\1<=v12.length/\v12.length<2 ^ 63/\(v12.length-1)<=v12.length/\∃ x18,p0.nodes[x16]?=some x18/\((eqN x18.kind 14)=true->nx15 (v8,(v12.take (v12.length-1))))/\((eqN x18.kind 14)=false->∃ x19,p0.nodes[x16]?=some x19/\au (S:=((List Bool)×(List Nat)×Nat)) (fun (v20,v24,v25) nx28=>((ltN v25 x19.ins.length)=true->an (α:=((List Bool)×(List Nat))) (fun k36=>∃ x37,x19.ins[v25]?=some x37/\x37<p0.nodes.length/\∃ x38,v20[x37]?=some x38/\((!x38)=true->(v24.length+([x37]:(List Nat)).length)*8<=2 ^ 47/\x37<p0.nodes.length/\∃ x44,v20[x37]?=some x44/\k36 ((v20.set x37 true),(v24++([x37]:(List Nat)))))/\((!x38)=false->k36 (v20,v24))) (fun (v29,v33)=>v25+1<2 ^ 63/\nx28 (v29,v33,(v25+1))))/\((ltN v25 x19.ins.length)=false->nx15 (v20,v24))) (v8,(v12.take (v12.length-1)),0)))/\((ltN 0 v12.length)=false->k5 v8)) (((List.replicate p0.nodes.length (false:Bool)).set p1 true),([p1]:(List Nat)))) (fun v4=>p0.nodes.length=v4.length/\K v4)
theorem kh {p0:Circ}{p1:Nat}{K:(List Bool)->Prop} (hm:gf p0 p1 K) {h0:Heap} (hB:HasB vars h0):∃ r,K r/\CallD Tryz.prog NG 81 ⟨[aB p0,i64 p1]⟩ h0 ((ah 1 Value.bool) r) h0:=by
 unfold gf at hm
 refine fw Tryz.func81 hB (enc:=(ah 1 Value.bool)) (fun r=>ee (fun _=>ai.cons (PureV.flat rfl) ai.nil)) fun O=>?_;conv=>whnf
 refine gX ?_
 refine fz ?_;refine gX ?_
 refine O.mkL (enc:=Value.bool) 1 1 false hm fun g1 h O hm=>?_;refine gX ?_
 refine ix 1 hm fun x3 hx3 hm=>?_;refine gH ?_
 refine O.stE 1 (.head _) hx3 true fun h O=>?_;refine gH ?_
 refine jn hm 65 [5] (fun s=>s) (fun v4 h=>Own vars h0 [(sC g1 (flatC (v4.map Value.bool)))] h) (fun v4=>[]) (fun hm=>?_) ?_
 ·refine gX ?_
  refine O.sY (l:=([p1]:(List Nat))) (enc:=i64) (s:=1) (z:=(i64 0)) rfl rfl (by kernel_rfl) (by kernel_rfl) rfl rfl rfl rfl (fun _=>rfl) fun g6 h O=>?_;refine gX ?_
  refine lw 65 [2,5] (σ:=((List Bool)×(List Nat))×(Option Nat×Option Nat×(List Nat))) (fun s=>s.1) (fun ((v8,v12),(a9,a10,a11)) h=>(a9=none->v12++a11=[])/\(a10=none\/a10=some 1)/\Own vars h0 [(sC g1 (flatC (v8.map Value.bool))),(a9,.cells (flatC ((v12++a11).map i64)) false)] h) (fun ((v8,v12),(a9,a10,a11))=>[(6,(stV i64 a9 a10 v12 a11))]) ((((List.replicate p0.nodes.length (false:Bool)).set p1 true),([p1]:(List Nat))),((some g6),none,([]:(List Nat)))) hm ⟨cz,(.inl rfl),(O.sel [1,0] (by decide))⟩ ?_
  clear hm;rintro⟨⟨v8,v12⟩,⟨a9,a10,a11⟩⟩ nx15 base h hm ⟨ha13,ht14,O⟩
  refine gX ?_
  refine br hm (fun hm=>?_) fun hm=>?_
  ·refine gX ?_
   refine pP hm fun hm=>?_;refine gH ?_
   obtain⟨x16,hx16,hm⟩:=hm
   have h9:=hm
   obtain⟨g17,rfl⟩:=Cm ha13 hx16
   replace hm:=h9
   refine cE (s:=1) (j:=(v12.length-1)) rfl rfl rfl rfl (aj hx16) ?_;refine gH ?_
   replace hx16:=DZ (J:=a11) hx16
   refine ldE (s:=1) (i:=0) (O.at (.tail _ (.head _))) hx16 ?_;refine gX ?_
   refine pP hm fun hm=>?_;refine gH ?_
   refine DX (enc:=i64) (l:=v12) (J:=a11) (s:=1) (k:=(v12.length-1)) rfl rfl rfl ht14 rfl hm.1 ?_;refine gX ?_
   rw[EO (enc:=i64) v12 a11 (v12.length-1)] at O
   replace hm:=hm.2
   refine atF hm fun x18 hx18 hm=>?_;refine gX ?_
   refine br hm (fun hm=>?_) fun hm=>?_
   ·refine gX ?_
    exact jx ((v8,(v12.take (v12.length-1))),((some g17),a10,(v12.drop (v12.length-1)++a11))) hm ⟨cz,ht14,O⟩
   ·refine gX ?_
    refine atF hm fun x19 hx19 hm=>?_;refine gX ?_
    refine lw 65 [2,5,45,46] (σ:=((List Bool)×(List Nat)×Nat)×(Option Nat×Option Nat×(List Nat))) (fun s=>s.1) (fun ((v20,v24,v25),(a21,a22,a23)) h=>(a21=none->v24++a23=[])/\(a22=none\/a22=some 1)/\Own vars h0 [(sC g1 (flatC (v20.map Value.bool))),(a21,.cells (flatC ((v24++a23).map i64)) false)] h) (fun ((v20,v24,v25),(a21,a22,a23))=>[(6,(stV i64 a21 a22 v24 a23)),(47,(i64 v25))]) ((v8,(v12.take (v12.length-1)),0),((some g17),a10,(v12.drop (v12.length-1)++a11))) hm ⟨cz,ht14,O⟩ ?_
    clear hm;rintro⟨⟨v20,v24,v25⟩,⟨a21,a22,a23⟩⟩ nx28 base h hm ⟨ha26,ht27,O⟩
    refine gX ?_
    refine br hm (fun hm=>?_) fun hm=>?_
    ·apply Cs;conv=>whnf
     refine jn (σ:=((List Bool)×(List Nat))×(Option Nat×Option Nat×(List Nat))) hm 65 [2,5,45,46,47] (fun s=>s.1) (fun ((v29,v33),(a30,a31,a32)) h=>(a30=none->v33++a32=[])/\(a31=none\/a31=some 1)/\Own vars h0 [(sC g1 (flatC (v29.map Value.bool))),(a30,.cells (flatC ((v33++a32).map i64)) false)] h) (fun ((v29,v33),(a30,a31,a32))=>[(6,(stV i64 a30 a31 v33 a32))]) (fun hm=>?_) ?_
     ·refine gX ?_
      refine atF hm fun x37 hx37 hm=>?_;refine gX ?_
      refine ix 1 hm fun x38 hx38 hm=>?_;refine gH ?_
      refine ldE (s:=1) (i:=0) (O.at (.head _)) hx38 ?_;refine gX ?_
      refine br hm (fun hm=>?_) fun hm=>?_
      ·refine gX ?_
       refine fz ?_;refine gH ?_
       refine O.yq (enc:=i64) (l:=v24) (J:=a23) (new:=([x37]:(List Nat))) (s:=1) (b:=8) (.tail _ (.head _)) ha26 ht27 rfl rfl rfl rfl rfl rfl rfl rfl (YOk.fl rfl) (fun _=>rfl) (fun _=>rfl) (by decide) hm.1 fun a39 a40 a41 h ha42 ht43 O=>?_;refine gH ?_
       replace hm:=hm.2
       refine ix 1 hm fun x44 hx44 hm=>?_;refine gH ?_
       refine O.stE 1 (.head _) hx44 true fun h O=>?_;refine gH ?_
       exact jx (((v20.set x37 true),(v24++([x37]:(List Nat)))),(a39,a40,a41)) hm ⟨ha42,ht43,O⟩
      ·refine gX ?_
       exact jx ((v20,v24),(a21,a22,a23)) hm ⟨ha26,ht27,O⟩
     ·clear hm;rintro⟨⟨v29,v33⟩,⟨a30,a31,a32⟩⟩ base h hm ⟨ha34,ht35,O⟩
      refine gX ?_
      refine aL hm fun hm=>?_;refine gH ?_
      exact jx ((v29,v33,(v25+1)),(a30,a31,a32)) hm ⟨ha34,ht35,O⟩
    ·refine gX ?_
     exact jx ((v20,v24),(a21,a22,a23)) hm ⟨ha26,ht27,O⟩
  ·refine gX ?_
   exact jx v8 hm (O.sel [0] (by decide))
 ·clear hm;rintro v4 base h hm O
  refine gX ?_
  obtain⟨hn45,hm⟩:=hm
  exact⟨v4,hm,O.ext,fun h2 F=>O.jC F (Nat.le_refl _) (.head _) (fun _=>rfl) hn45⟩
def dX (p0:Circ) (p1:LnZ) (K:Bool->Prop):Prop :=
 ((!ltN p1.node 0)=true->((ltN p1.node p0.nodes.length)=true->((!ltI p1.pin (Int.negSucc 0))=true->∃ x1,p0.nodes[p1.node]?=some x1/\K (ltI p1.pin (Int.ofNat x1.ins.length)))/\((!ltI p1.pin (Int.negSucc 0))=false->K false))/\((ltN p1.node p0.nodes.length)=false->K false))/\((!ltN p1.node 0)=false->K false)
theorem pW {p0:Circ}{p1:LnZ}{K:Bool->Prop} (hm:dX p0 p1 K) {h0:Heap} (hB:HasB vars h0):∃ r,K r/\CallD Tryz.prog NG 52 ⟨[aB p0,aw p1]⟩ h0 (Value.bool r) h0:=by
 unfold dX at hm
 refine fw Tryz.func52 hB (enc:=Value.bool) (fun r=>PureV.flat rfl) fun O=>?_;conv=>whnf
 refine gX ?_
 refine fz ?_;refine gH ?_
 refine fz ?_;refine gX ?_
 refine br hm (fun hm=>?_) fun hm=>?_
 ·refine gX ?_
  refine dF ?_
  refine gX ?_
  refine br hm (fun hm=>?_) fun hm=>?_
  ·refine gX ?_
   refine br hm (fun hm=>?_) fun hm=>?_
   ·refine gX ?_
    refine dF ?_
    refine gX ?_
    refine atF hm fun x1 hx1 hm=>?_;refine gH ?_
    refine dF ?_
    refine gX ?_
    exact fe hm O
   ·refine gX ?_
    exact fe hm O
  ·refine gX ?_
   refine bf ?_;refine gX ?_
   exact fe hm O
 ·refine gX ?_
  refine bf ?_;refine gH ?_
  refine bf ?_;refine gX ?_
  exact fe hm O
def gU (p0:Circ) (p1:Flt) (K:Nat->Prop):Prop :=
 an (α:=Bool) (fun k2=>((neZ p1.line.pin (Int.negSucc 0))=true->k2 true)/\((neZ p1.line.pin (Int.negSucc 0))=false->((ltN p1.other 0)=true->k2 true)/\((ltN p1.other 0)=false->((!ltN p1.other p0.nodes.length)=true->k2 true)/\((!ltN p1.other p0.nodes.length)=false->((eqN p1.line.node p1.other)=true->k2 true)/\((eqN p1.line.node p1.other)=false->((eqN p1.model 2)=true->((ltN p1.other p1.line.node)=true->k2 true)/\((ltN p1.other p1.line.node)=false->((eqN p1.model 3)=true->k2 (neN p1.value 0))/\((eqN p1.model 3)=false->k2 false)))/\((eqN p1.model 2)=false->((eqN p1.model 3)=true->k2 (neN p1.value 0))/\((eqN p1.model 3)=false->k2 false))))))) (fun v1=>(v1=true->K 1)/\(v1=false->an (α:=Bool) (fun k4=>∃ x5,p0.nodes[p1.line.node]?=some x5/\((eqN x5.kind 12)=true->k4 true)/\((eqN x5.kind 12)=false->∃ x6,p0.nodes[p1.other]?=some x6/\k4 (eqN x6.kind 12))) (fun v3=>(v3=true->K 7)/\(v3=false->an (α:=Bool) (fun k8=>gf p0 p1.line.node (fun r9=>∃ x10,r9[p1.other]?=some x10/\(x10=true->k8 true)/\(x10=false->gf p0 p1.other (fun r11=>∃ x12,r11[p1.line.node]?=some x12/\k8 x12)))) (fun v7=>(v7=true->K 6)/\(v7=false->K 0))))))
theorem nE {p0:Circ}{p1:Flt}{K:Nat->Prop} (hm:gU p0 p1 K) {h0:Heap} (hB:HasB vars h0):∃ r,K r/\CallD Tryz.prog NG 53 ⟨[aB p0,az p1]⟩ h0 (i64 r) h0:=by
 unfold gU at hm
 refine fw Tryz.func53 hB (enc:=i64) (fun r=>PureV.flat rfl) fun O=>?_;conv=>whnf
 refine gX ?_
 refine fz ?_;refine gH ?_
 refine fz ?_;refine gH ?_
 apply Cs;conv=>whnf
 apply Cs;refine gH ?_
 apply Cs;conv=>whnf
 apply Cs;conv=>whnf
 refine jn hm 85 [2,5,6] (fun s=>s) (fun v1 h=>Own vars h0 [] h) (fun v1=>[(12,(.bool v1))]) (fun hm=>?_) ?_
 ·refine gX ?_
  refine br hm (fun hm=>?_) fun hm=>?_
  ·refine gX ?_
   refine bt ?_;refine gH ?_
   refine bt ?_;refine gH ?_
   refine bt ?_;refine gH ?_
   refine bt ?_;refine gH ?_
   exact jx true hm O
  ·refine gX ?_
   refine br hm (fun hm=>?_) fun hm=>?_
   ·refine gX ?_
    refine bt ?_;refine gH ?_
    refine bt ?_;refine gH ?_
    refine bt ?_;refine gH ?_
    exact jx true hm O
   ·refine gX ?_
    refine br hm (fun hm=>?_) fun hm=>?_
    ·refine gX ?_
     refine bt ?_;refine gH ?_
     refine bt ?_;refine gH ?_
     exact jx true hm O
    ·refine gX ?_
     refine br hm (fun hm=>?_) fun hm=>?_
     ·refine gX ?_
      refine bt ?_;refine gH ?_
      exact jx true hm O
     ·refine gX ?_
      refine br hm (fun hm=>?_) fun hm=>?_
      ·refine gX ?_
       refine br hm (fun hm=>?_) fun hm=>?_
       ·refine gX ?_
        exact jx true hm O
       ·refine gX ?_
        refine br hm (fun hm=>?_) fun hm=>?_
        ·refine gX ?_
         exact jx (neN p1.value 0) hm O
        ·refine gX ?_
         exact jx false hm O
      ·refine gX ?_
       refine bf ?_;refine gH ?_
       refine br hm (fun hm=>?_) fun hm=>?_
       ·refine gX ?_
        exact jx (neN p1.value 0) hm O
       ·refine gX ?_
        exact jx false hm O
 ·clear hm;rintro v1 base h hm O
  refine gX ?_
  refine br hm (fun hm=>?_) fun hm=>?_
  ·refine gX ?_
   exact fe hm O
  ·refine jn hm 85 [2,5,6] (fun s=>s) (fun v3 h=>Own vars h0 [] h) (fun v3=>[(53,(.bool v3))]) (fun hm=>?_) ?_
   ·refine gX ?_
    refine atF hm fun x5 hx5 hm=>?_;refine gH ?_
    refine br hm (fun hm=>?_) fun hm=>?_
    ·refine gX ?_
     exact jx true hm O
    ·refine gX ?_
     refine atF hm fun x6 hx6 hm=>?_;refine gH ?_
     exact jx (eqN x6.kind 12) hm O
   ·clear hm;rintro v3 base h hm O
    refine gX ?_
    refine br hm (fun hm=>?_) fun hm=>?_
    ·refine gX ?_
     exact fe hm O
    ·refine jn hm 85 [] (fun s=>s) (fun v7 h=>Own vars h0 [] h) (fun v7=>[(70,(.bool v7))]) (fun hm=>?_) ?_
     ·refine gX ?_
      refine ca (kh hm O.has) fun r9 hm=>?_;refine gH ?_
      refine atF hm fun x10 hx10 hm=>?_;refine gH ?_
      refine br hm (fun hm=>?_) fun hm=>?_
      ·refine gX ?_
       exact jx true hm O
      ·refine gX ?_
       refine ca (kh hm O.has) fun r11 hm=>?_;refine gH ?_
       refine atF hm fun x12 hx12 hm=>?_;refine gH ?_
       exact jx x12 hm O
     ·clear hm;rintro v7 base h hm O
      refine gX ?_
      refine br hm (fun hm=>?_) fun hm=>?_
      ·refine gX ?_
       exact fe hm O
      ·refine gX ?_
       exact fe hm O
def faults_Check_wp (p0:Circ) (p1:Flt) (K:Nat->Prop):Prop :=
 cV p0 (fun r1=>((neN r1 0)=true->K r1)/\((neN r1 0)=false->an (α:=Bool) (fun k3=>((ltN 3 p1.model)=true->k3 true)/\((ltN 3 p1.model)=false->((ltN 1 p1.value)=true->k3 true)/\((ltN 1 p1.value)=false->dX p0 p1.line (fun r4=>k3 (!r4))))) (fun v2=>(v2=true->K 1)/\(v2=false->((!ltN p1.model 2)=true->gU p0 p1 (fun r5=>K r5))/\((!ltN p1.model 2)=false->((neN p1.other 0)=true->K 1)/\((neN p1.other 0)=false->K 0))))))
theorem jw {p0:Circ}{p1:Flt}{K:Nat->Prop} (hm:faults_Check_wp p0 p1 K) {h0:Heap} (hB:HasB vars h0):∃ r,K r/\CallD Tryz.prog NG 32 ⟨[aB p0,az p1]⟩ h0 (i64 r) h0:=by
 unfold faults_Check_wp at hm
 refine fw Tryz.func32 hB (enc:=i64) (fun r=>PureV.flat rfl) fun O=>?_;conv=>whnf
 refine gX ?_
 refine fz ?_;refine gH ?_
 refine fz ?_;refine gX ?_
 refine ca (jv hm O.has) fun r1 hm=>?_;refine gX ?_
 refine br hm (fun hm=>?_) fun hm=>?_
 ·refine gX ?_
  exact fe hm O
 ·apply Cs;conv=>whnf
  apply Cs;conv=>whnf
  apply Cs;conv=>whnf
  refine jn hm 38 [2,3] (fun s=>s) (fun v2 h=>Own vars h0 [] h) (fun v2=>[(11,(.bool v2))]) (fun hm=>?_) ?_
  ·refine gX ?_
   refine br hm (fun hm=>?_) fun hm=>?_
   ·refine gX ?_
    refine bt ?_;refine gH ?_
    exact jx true hm O
   ·refine gX ?_
    refine br hm (fun hm=>?_) fun hm=>?_
    ·refine gX ?_
     exact jx true hm O
    ·refine gX ?_
     refine ca (pW hm O.has) fun r4 hm=>?_;refine gH ?_
     exact jx (!r4) hm O
  ·clear hm;rintro v2 base h hm O
   refine gX ?_
   refine br hm (fun hm=>?_) fun hm=>?_
   ·refine gX ?_
    exact fe hm O
   ·refine gX ?_
    refine br hm (fun hm=>?_) fun hm=>?_
    ·refine gX ?_
     refine ca (nE hm O.has) fun r5 hm=>?_;refine gX ?_
     exact fe hm O
    ·refine gX ?_
     refine br hm (fun hm=>?_) fun hm=>?_
     ·refine gX ?_
      exact fe hm O
     ·refine gX ?_
      exact fe hm O
def cu (p0:Circ) (K:((List LnZ)×Nat)->Prop):Prop :=
 cV p0 (fun r1=>((neN r1 0)=true->K ([],r1))/\((neN r1 0)=false->an (α:=(List LnZ)) (fun k6=>au (S:=((List LnZ)×Nat)) (fun (v8,v9) nx11=>((ltN v9 p0.nodes.length)=true->an (α:=(List LnZ)) (fun k15=>∃ x16,p0.nodes[v9]?=some x16/\x16.ins.length+1<2 ^ 63/\au (S:=((List LnZ)×Nat)) (fun (v20,v21) nx23=>((ltN v21 (x16.ins.length+1))=true -> -(2 ^ 63)<=((Int.ofNat v21)-(Int.ofNat 1))/\((Int.ofNat v21)-(Int.ofNat 1))<2 ^ 63/\(v20.length+([(⟨v9,((Int.ofNat v21)-(Int.ofNat 1))⟩:LnZ)]:(List LnZ)).length)*16<=2 ^ 47/\v21+1<2 ^ 63/\nx23 ((v20++([(⟨v9,((Int.ofNat v21)-(Int.ofNat 1))⟩:LnZ)]:(List LnZ))),(v21+1)))/\((ltN v21 (x16.ins.length+1))=false->k15 v20)) (v8,0)) (fun v13=>v9+1<2 ^ 63/\nx11 (v13,(v9+1))))/\((ltN v9 p0.nodes.length)=false->k6 v8)) (([]:List LnZ),0)) (fun v4=>K (v4,0))))
theorem jK {p0:Circ}{K:((List LnZ)×Nat)->Prop} (hm:cu p0 K) {h0:Heap} (hB:HasB vars h0):∃ r,K r/\CallD Tryz.prog NG 29 ⟨[aB p0]⟩ h0 ((fun (r:((List LnZ)×Nat))=>Value.tuple ⟨[(ah 2 aw) (r.1),i64 (r.2)]⟩) r) h0:=by
 unfold cu at hm
 refine fw Tryz.func29 hB (enc:=(fun (r:((List LnZ)×Nat))=>Value.tuple ⟨[(ah 2 aw) (r.1),i64 (r.2)]⟩)) (fun r=>PureV.tup (ai.cons (ee (fun _=>An _)) (ai.cons (PureV.flat rfl) (ai.nil)))) fun O=>?_;conv=>whnf
 refine gX ?_
 refine fz ?_;refine gX ?_
 refine ca (jv hm O.has) fun r1 hm=>?_;refine gX ?_
 refine br hm (fun hm=>?_) fun hm=>?_
 ·refine gX ?_
  exact⟨([],r1),hm,O.ext,fun h2 F=>VLe.tup (LLe.cons (VLe.nil _ _) (LLe.cons (VLe.refl _ _) (LLe.nil _)))⟩
 ·apply Cs;conv=>whnf
  apply Cs;conv=>whnf
  apply Cs;refine gH ?_
  have O:=O.aN (.cells (flatC ((([]:List LnZ)).map aw)) false)
  refine jn (σ:=(List LnZ)×Option Nat) hm 40 [] (fun s=>s.1) (fun (v4,a3) h=>(a3=none->v4=[])/\Own vars h0 [(a3,.cells (flatC (v4.map aw)) false)] h) (fun (v4,a3)=>[(5,(ag 2 a3 (v4.map aw)))]) (fun hm=>?_) ?_
  ·refine gX ?_
   refine lw 40 [15,16] (σ:=((List LnZ)×Nat)×Option Nat) (fun s=>s.1) (fun ((v8,v9),a7) h=>(a7=none->v8=[])/\Own vars h0 [(a7,.cells (flatC (v8.map aw)) false)] h) (fun ((v8,v9),a7)=>[(5,(ag 2 a7 (v8.map aw))),(17,(i64 v9))]) ((([]:List LnZ),0),none) hm ⟨(fun _=>rfl),O⟩ ?_
   clear hm;rintro⟨⟨v8,v9⟩,a7⟩ nx11 base h hm ⟨ha10,O⟩
   refine gX ?_
   refine br hm (fun hm=>?_) fun hm=>?_
   ·apply Cs;conv=>whnf
    refine jn (σ:=(List LnZ)×Option Nat) hm 40 [15,16,17] (fun s=>s.1) (fun (v13,a12) h=>(a12=none->v13=[])/\Own vars h0 [(a12,.cells (flatC (v13.map aw)) false)] h) (fun (v13,a12)=>[(5,(ag 2 a12 (v13.map aw)))]) (fun hm=>?_) ?_
    ·refine gX ?_
     refine atF hm fun x16 hx16 hm=>?_;refine gH ?_
     (first|refine O.new (ak (l:=[(n8 0),nS,(i64 0),(i64 0)]) rfl rfl rfl) fun g17 h O=>?_|refine O.dA (ak (l:=[(n8 0),nS,(i64 0),(i64 0)]) rfl rfl rfl) fun g17 h O=>?_);refine gH ?_
     refine O.stC 4 (.head _) [(n8 x16.kind),((ah 1 i64) x16.ins),(i64 x16.mem),(i64 x16.bit)] fun h O=>?_;refine gX ?_
     refine aL hm fun hm=>?_;refine gX ?_
     refine lw 40 [6,15,16,17,25] (σ:=((List LnZ)×Nat)×Option Nat) (fun s=>s.1) (fun ((v20,v21),a19) h=>(a19=none->v20=[])/\Own vars h0 [(a19,.cells (flatC (v20.map aw)) false)] h) (fun ((v20,v21),a19)=>[(5,(ag 2 a19 (v20.map aw))),(26,(i64 v21))]) ((v8,0),a7) hm ⟨ha10,(O.sel [1] (by decide))⟩ ?_
     clear hm;rintro⟨⟨v20,v21⟩,a19⟩ nx23 base h hm ⟨ha22,O⟩
     refine gX ?_
     refine br hm (fun hm=>?_) fun hm=>?_
     ·refine gX ?_
      refine⟨_,zq (a:=(Int.ofNat v21)) (b:=(Int.ofNat 1)) rfl rfl hm.1 hm.2.1,?_⟩;refine gH ?_
      replace hm:=hm.2.2
      refine fz ?_;refine gH ?_
      refine O.apL (enc:=aw) (l:=v20) (new:=([(⟨v9,((Int.ofNat v21)-(Int.ofNat 1))⟩:LnZ)]:(List LnZ))) 2 (.head _) ha22 hm fun a24 h ha25 O hm=>?_;refine gX ?_
      refine aL hm fun hm=>?_;refine gH ?_
      exact jx (((v20++([(⟨v9,((Int.ofNat v21)-(Int.ofNat 1))⟩:LnZ)]:(List LnZ))),(v21+1)),a24) hm ⟨ha25,O⟩
     ·refine gX ?_
      exact jx (v20,a19) hm ⟨ha22,O⟩
    ·clear hm;rintro⟨v13,a12⟩ base h hm ⟨ha14,O⟩
     refine gX ?_
     refine aL hm fun hm=>?_;refine gH ?_
     exact jx ((v13,(v9+1)),a12) hm ⟨ha14,O⟩
   ·refine gX ?_
    exact jx (v8,a7) hm ⟨ha10,O⟩
  ·clear hm;rintro⟨v4,a3⟩ base h hm ⟨ha5,O⟩
   refine gX ?_
   refine fg Tryz.func49 ?_;refine gX ?_
   refine ij (s:=2) (enc:=aw) (l:=v4) (n:=v4.length) (m:=v4.length) rfl rfl rfl rfl rfl rfl rfl ?_;refine gX ?_
   exact⟨(v4,0),hm,O.ext,fun h2 F=>VLe.tup (LLe.cons (O.jY F (Nat.le_refl _) (.head _) ha5 (fun _=>rfl)) (LLe.cons (VLe.refl _ _) (LLe.nil _)))⟩
end Go.Proofs.YtobphhjcadjfjaaGreatDoor
