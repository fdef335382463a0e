/-
  C5, P7, Carg, Carg2, P8: parts of the proof.
-/
import Derived.Test.YtfhldkgelipnaaaGreatDoorIc40
namespace Go.Proofs.YtfhldkgelipnaaaGreatDoor
open Go.Abs
set_option maxRecDepth 100000
set_option maxHeartbeats 8000000
def law03_Of_wp (p0:CData) (K:Circ→Prop):Prop :=
 joinW (α:=(List Node)) (fun k12=>loopW (S:=((List Node)×Nat)) (fun (v14,v15) nx17=>0<4∧(p0.inp%4)<256∧((!ltN (p0.inp%4) v15)=true→(v14.length+([(⟨0,([]:(List Nat)),0,0⟩:Node)]:(List Node)).length)*48≤2 ^ 47∧v15+1<2 ^ 63∧nx17 ((v14++([(⟨0,([]:(List Nat)),0,0⟩:Node)]:(List Node))),(v15+1)))∧((!ltN (p0.inp%4) v15)=false→k12 v14)) (([]:List Node),0)) (fun v10=>0<3∧(p0.dffs%3)<256∧joinW (α:=(List Node)) (fun k23=>loopW (S:=((List Node)×Nat)) (fun (v25,v26) nx28=>((ltN v26 (p0.dffs%3))=true→(v25.length+([(⟨14,([0]:(List Nat)),0,0⟩:Node)]:(List Node)).length)*48≤2 ^ 47∧v26+1<2 ^ 63∧nx28 ((v25++([(⟨14,([0]:(List Nat)),0,0⟩:Node)]:(List Node))),(v26+1)))∧((ltN v26 (p0.dffs%3))=false→k23 v25)) (v10,0)) (fun v21=>joinW (α:=(List Node)) (fun k34=>(p0.mem=true→(v21.length+([(⟨15,([]:(List Nat)),0,0⟩:Node),(⟨15,([]:(List Nat)),0,1⟩:Node)]:(List Node)).length)*48≤2 ^ 47∧k34 (v21++([(⟨15,([]:(List Nat)),0,0⟩:Node),(⟨15,([]:(List Nat)),0,1⟩:Node)]:(List Node))))∧(p0.mem=false→k34 v21)) (fun v32=>joinW (α:=(List Node)) (fun k40=>loopW (S:=((List Node)×Nat)) (fun (v42,v43) nx45=>joinW (α:=Bool) (fun k48=>((ltN v43 p0.gates.length)=true→k48 (ltN v43 8))∧((ltN v43 p0.gates.length)=false→k48 false)) (fun v46=>(v46=true→∃ x49,p0.gates[v43]?=some x49∧GOk x49∧0<v42.length∧v42.length≤1000∧(v42.length+([(gateK p0.bus x49 (v42.map Node.kind))]:(List Node)).length)*48≤2 ^ 47∧v43+1<2 ^ 63∧nx45 ((v42++([(gateK p0.bus x49 (v42.map Node.kind))]:(List Node))),(v43+1)))∧(v46=false→k40 v42))) (v32,0)) (fun v38=>joinW (α:=(List Node)) (fun k58=>loopW (S:=((List Node)×Nat)) (fun (v60,v61) nx63=>((ltN v61 (p0.dffs%3))=true→v10.length+v61<2 ^ 63∧v61<2∧(v61=0→p0.data0<256∧0<v38.length∧∃ x66,v60[(v10.length+v61)]?=some x66∧v61+1<2 ^ 63∧nx63 ((v60.set (v10.length+v61) { x66 with ins:=([(p0.data0%v38.length)]:(List Nat)) }),(v61+1)))∧(v61=1→p0.data1<256∧0<v38.length∧∃ x70,v60[(v10.length+v61)]?=some x70∧v61+1<2 ^ 63∧nx63 ((v60.set (v10.length+v61) { x70 with ins:=([(p0.data1%v38.length)]:(List Nat)) }),(v61+1))))∧((ltN v61 (p0.dffs%3))=false→k58 v60)) (v38,0)) (fun v56=>(p0.mem=true→p0.port0<256∧0<v38.length∧p0.port1<256∧0<v38.length∧p0.port2<256∧0<v38.length∧p0.port3<256∧0<v38.length∧joinW (α:=(List ByteArray)) (fun k82=>loopW (S:=((List ByteArray)×Nat)) (fun (v84,v85) nx88=>((ltN v85 v38.length)=true→law03_name_wp v85 (fun r89=>(v84.length+([r89]:(List ByteArray)).length)*16≤2 ^ 47∧v85+1<2 ^ 63∧nx88 ((v84++([r89]:(List ByteArray))),(v85+1))))∧((ltN v85 v38.length)=false→k82 v84)) (([]:List ByteArray),0)) (fun v79=>joinW (α:=(List Nat)) (fun k99=>loopW (S:=((List Nat)×Nat)) (fun (v101,v102) nx106=>joinW (α:=Bool) (fun k111=>((ltN v102 p0.outs.length)=true→k111 (ltN v102 3))∧((ltN v102 p0.outs.length)=false→k111 false)) (fun v107=>(v107=true→∃ x112,p0.outs[v102]?=some x112∧x112<256∧0<v38.length∧(v101.length+([(x112%v38.length)]:(List Nat)).length)*8≤2 ^ 47∧v102+1<2 ^ 63∧nx106 ((v101++([(x112%v38.length)]:(List Nat))),(v102+1)))∧(v107=false→k99 v101))) (([]:List Nat),0)) (fun v95=>1≤v38.length∧v38.length<2 ^ 63∧(v95.length+([(v38.length-1)]:(List Nat)).length)*8≤2 ^ 47∧1=([(p0.port0%v38.length)]:(List Nat)).length∧2=([(p0.port1%v38.length),(p0.port2%v38.length)]:(List Nat)).length∧1=([(p0.port0%v38.length)]:(List Nat)).length∧2=([(p0.port1%v38.length),(p0.port2%v38.length)]:(List Nat)).length∧K (⟨v56,v79,[(⟨([(p0.port0%v38.length)]:(List Nat)),([(p0.port1%v38.length),(p0.port2%v38.length)]:(List Nat)),(p0.port3%v38.length)⟩:Memo)],(v95++([(v38.length-1)]:(List Nat)))⟩:Circ))))∧(p0.mem=false→joinW (α:=(List ByteArray)) (fun k127=>loopW (S:=((List ByteArray)×Nat)) (fun (v129,v130) nx133=>((ltN v130 v38.length)=true→law03_name_wp v130 (fun r134=>(v129.length+([r134]:(List ByteArray)).length)*16≤2 ^ 47∧v130+1<2 ^ 63∧nx133 ((v129++([r134]:(List ByteArray))),(v130+1))))∧((ltN v130 v38.length)=false→k127 v129)) (([]:List ByteArray),0)) (fun v124=>joinW (α:=(List Nat)) (fun k144=>loopW (S:=((List Nat)×Nat)) (fun (v146,v147) nx151=>joinW (α:=Bool) (fun k156=>((ltN v147 p0.outs.length)=true→k156 (ltN v147 3))∧((ltN v147 p0.outs.length)=false→k156 false)) (fun v152=>(v152=true→∃ x157,p0.outs[v147]?=some x157∧x157<256∧0<v38.length∧(v146.length+([(x157%v38.length)]:(List Nat)).length)*8≤2 ^ 47∧v147+1<2 ^ 63∧nx151 ((v146++([(x157%v38.length)]:(List Nat))),(v147+1)))∧(v152=false→k144 v146))) (([]:List Nat),0)) (fun v140=>1≤v38.length∧v38.length<2 ^ 63∧(v140.length+([(v38.length-1)]:(List Nat)).length)*8≤2 ^ 47∧K (⟨v56,v124,([]:List Memo),(v140++([(v38.length-1)]:(List Nat)))⟩:Circ)))))))))
theorem law03_Of_walk {p0:CData}{K:Circ→Prop} (hm:law03_Of_wp p0 K) {h0:Heap} (hB:HasB vars h0):∃ r,K r∧CallD Tryz.prog NG 30 ⟨[encC p0]⟩ h0 (encCirc r) h0:=by
 unfold law03_Of_wp at hm
 refine fnW hM Tryz.func30 rfl (hP _ _ rfl Tryz.func30) (lbE rfl) hB (enc:=encCirc) (fun r=>pure_circ _) fun O=>?_;conv=>whnf
 apply Cs;(conv=>whnf);repeat(first|apply Cs|apply Hs|apply Hx);conv=>whnf
 refine NewG.frz rfl ?_;(conv=>whnf);repeat(first|apply Hs|apply Hx);conv=>whnf
 refine O.new (anew_alloc (l:=[(.slice none 0 0),(.slice none 0 0),(.slice none 0 0),(.slice none 0 0)]) rfl rfl rfl) fun g1 h O=>?_;(conv=>whnf);repeat(first|apply Hs|apply Hx);conv=>whnf
 apply Cs;(conv=>whnf);repeat(first|apply Cs|apply Hs|apply Hx);conv=>whnf
 have O:=O.addNil (.cells (flatC ((([]:List Node)).map encNode)) false)
 have O:=O.addNil (.cells (flatC ((([]:List ByteArray)).map Value.string)) false)
 have O:=O.addNil (.cells (flatC ((([]:List Memo)).map encMem)) false)
 have O:=O.addNil (.cells (flatC ((([]:List Nat)).map i64)) false)
 refine O.new (anew_alloc (l:=[(.slice none 0 0),(.slice none 0 0),(.slice none 0 0),(.slice none 0 0)]) rfl rfl rfl) fun g3 h O=>?_;(conv=>whnf);repeat(first|apply Hs|apply Hx);conv=>whnf
 refine CodeS.joinWS hm (nn:=178) (σ:=(List Node)×Option Nat) (fun s=>s.1) (fun (v10,a9) h=>(a9=none→v10=[])∧Own vars h0 [((some g1),.cells [(.slice none 0 0),(.slice none 0 0),(.slice none 0 0),(.slice none 0 0)] false),((some g3),.cells [(growV 4 a9 (v10.map encNode)),(growV 1 none (([]:List ByteArray).map Value.string)),(growV 3 none (([]:List Memo).map encMem)),(growV 1 none (([]:List Nat).map i64))] false),(a9,.cells (flatC (v10.map encNode)) false),(none,.cells (flatC (([]:List ByteArray).map Value.string)) false),(none,.cells (flatC (([]:List Memo).map encMem)) false),(none,.cells (flatC (([]:List Nat).map i64)) false)] h∧True) (fun (v10,a9)=>[(1,(FP (encC p0))),(2,(.pointer (some ⟨g1,0,none⟩))),(3,(.pointer (some ⟨g3,0,none⟩)))]) rfl (fun hm'=>?_) ?_
 ·replace hm:=hm'
  apply Cs;(conv=>whnf);repeat(first|apply Cs|apply Hs|apply Hx);conv=>whnf
  refine loopWK hM (by kernel_rfl) (nn:=178) (S:=((List Node)×Nat)) (σ:=((List Node)×Nat)×Option Nat) (fun s=>s.1) (fun ((v14,v15),a13) h=>(a13=none→v14=[])∧Own vars h0 [((some g1),.cells [(.slice none 0 0),(.slice none 0 0),(.slice none 0 0),(.slice none 0 0)] false),((some g3),.cells [(growV 4 a13 (v14.map encNode)),(growV 1 none (([]:List ByteArray).map Value.string)),(growV 3 none (([]:List Memo).map encMem)),(growV 1 none (([]:List Nat).map i64))] false),(a13,.cells (flatC (v14.map encNode)) false),(none,.cells (flatC (([]:List ByteArray).map Value.string)) false),(none,.cells (flatC (([]:List Memo).map encMem)) false),(none,.cells (flatC (([]:List Nat).map i64)) false)] h∧True) (fun ((v14,v15),a13)=>[(1,(FP (encC p0))),(2,(.pointer (some ⟨g1,0,none⟩))),(3,(.pointer (some ⟨g3,0,none⟩))),(4,(i64 v15))]) rfl ((([]:List Node),0),none) hm ⟨(fun _=>rfl),(O.sel [5,0,4,3,2,1] (by decide)),trivial⟩ ⟨VLe.refl _ _,VLe.refl _ _,VLe.refl _ _,VLe.refl _ _,trivial⟩ ?_
  clear hm;rintro⟨⟨v14,v15⟩,a13⟩ nx17 base h hm ⟨ha16,O,_⟩
  ((conv=>whnf);repeat(first|apply Cs|apply Hs|apply Hx);conv=>whnf)
  refine⟨_,(rfl:aread _ _ _ _=some _),?_⟩;(conv=>whnf);repeat(first|apply Hs|apply Hx);conv=>whnf
  refine⟨_,remK (a:=p0.inp) (b:=4) rfl rfl hm.1,?_⟩;(conv=>whnf);repeat(first|apply Hs|apply Hx);conv=>whnf
  replace hm:=hm.2
  refine⟨_,convIntK (a:=Int.ofNat (p0.inp%4)) rfl rfl rfl (wrapI64 (Nat.lt_of_lt_of_le hm.1 (by decide))),?_⟩;(conv=>whnf);repeat(first|apply Cs|apply Hs|apply Hx);conv=>whnf
  replace hm:=hm.2
  refine⟨_,rfl,fun hc=>?_,fun hc=>?_⟩
  ·replace hm:=hm.1 hc
   apply Cs;(conv=>whnf);repeat(first|apply Cs|apply Hs|apply Hx);conv=>whnf
   refine⟨_,loadK rfl (O.at (.tail _ (.head _))) rfl rfl,?_⟩;(conv=>whnf);repeat(first|apply Hs|apply Hx);conv=>whnf
   refine NewG.frzW rfl (VLe.els (s:=4) (es':=([(⟨0,([]:(List Nat)),0,0⟩:Node)]).map encNode) rfl (map_size (enc:=encNode) (s:=4) (fun _=>rfl) _) (LLe.cons (VLe.refl _ _) (LLe.cons (VLe.nil _ _) (LLe.cons (VLe.refl _ _) (LLe.cons (VLe.refl _ _) (LLe.nil _)))))) ?_;(conv=>whnf);repeat(first|apply Hs|apply Hx);conv=>whnf
   refine O.appendL (enc:=encNode) (l:=v14) (new:=([(⟨0,([]:(List Nat)),0,0⟩:Node)]:(List Node))) (s:=4) (b:=48) (.tail _ (.tail _ (.head _))) ha16 rfl rfl rfl rfl rfl rfl rfl rfl (YOk.fl rfl) (fun _=>rfl) (fun _=>rfl) (by decide) hm.1 fun a18 h ha19 O=>?_;(conv=>whnf);repeat(first|apply Hs|apply Hx);conv=>whnf
   replace hm:=hm.2
   refine O.store (n:=1) (cs':=[(growV 4 a18 ((v14++([(⟨0,([]:(List Nat)),0,0⟩:Node)]:(List Node))).map encNode)),(growV 1 none (([]:List ByteArray).map Value.string)),(growV 3 none (([]:List Memo).map encMem)),(growV 1 none (([]:List Nat).map i64))]) (.tail _ (.head _)) rfl rfl rfl rfl (lbE rfl) rfl rfl fun h O=>?_;(conv=>whnf);repeat(first|apply Cs|apply Hs|apply Hx);conv=>whnf
   refine⟨_,addK (a:=v15) (b:=1) rfl rfl hm.1,?_⟩;(conv=>whnf);repeat(first|apply Hs|apply Hx);conv=>whnf
   replace hm:=hm.2
   exact⟨(((v14++([(⟨0,([]:(List Nat)),0,0⟩:Node)]:(List Node))),(v15+1)),a18),hm,⟨ha19,O,trivial⟩,VLe.refl _ _,VLe.refl _ _,VLe.refl _ _,VLe.refl _ _,trivial⟩
  ·replace hm:=hm.2 hc
   apply Cs;(conv=>whnf);repeat(first|apply Cs|apply Hs|apply Hx);conv=>whnf
   exact⟨(v14,a13),hm,⟨ha16,O,trivial⟩,VLe.refl _ _,VLe.refl _ _,VLe.refl _ _,trivial⟩
 ·clear hm;rintro⟨v10,a9⟩ base h hm ⟨ha11,O,_⟩
  ((conv=>whnf);repeat(first|apply Cs|apply Hs|apply Hx);conv=>whnf)
  refine⟨_,loadK rfl (O.at (.tail _ (.head _))) rfl rfl,?_⟩;(conv=>whnf);repeat(first|apply Hs|apply Hx);conv=>whnf
  refine lenG (enc:=encNode) (l:=v10) rfl rfl ?_;(conv=>whnf);repeat(first|apply Cs|apply Hs|apply Hx);conv=>whnf
  refine⟨_,(rfl:aread _ _ _ _=some _),?_⟩;(conv=>whnf);repeat(first|apply Hs|apply Hx);conv=>whnf
  refine⟨_,remK (a:=p0.dffs) (b:=3) rfl rfl hm.1,?_⟩;(conv=>whnf);repeat(first|apply Hs|apply Hx);conv=>whnf
  replace hm:=hm.2
  refine⟨_,convIntK (a:=Int.ofNat (p0.dffs%3)) rfl rfl rfl (wrapI64 (Nat.lt_of_lt_of_le hm.1 (by decide))),?_⟩;(conv=>whnf);repeat(first|apply Hs|apply Hx);conv=>whnf
  replace hm:=hm.2
  refine CodeS.joinWS hm (nn:=178) (σ:=(List Node)×Option Nat) (fun s=>s.1) (fun (v21,a20) h=>(a20=none→v21=[])∧Own vars h0 [((some g1),.cells [(.slice none 0 0),(.slice none 0 0),(.slice none 0 0),(.slice none 0 0)] false),((some g3),.cells [(growV 4 a20 (v21.map encNode)),(growV 1 none (([]:List ByteArray).map Value.string)),(growV 3 none (([]:List Memo).map encMem)),(growV 1 none (([]:List Nat).map i64))] false),(a20,.cells (flatC (v21.map encNode)) false),(none,.cells (flatC (([]:List ByteArray).map Value.string)) false),(none,.cells (flatC (([]:List Memo).map encMem)) false),(none,.cells (flatC (([]:List Nat).map i64)) false)] h∧True) (fun (v21,a20)=>[(1,(FP (encC p0))),(2,(.pointer (some ⟨g1,0,none⟩))),(3,(.pointer (some ⟨g3,0,none⟩))),(5,(i64 v10.length)),(6,(i64 (p0.dffs%3)))]) rfl (fun hm'=>?_) ?_
  ·replace hm:=hm'
   apply Cs;(conv=>whnf);repeat(first|apply Cs|apply Hs|apply Hx);conv=>whnf
   refine loopWK hM (by kernel_rfl) (nn:=178) (S:=((List Node)×Nat)) (σ:=((List Node)×Nat)×Option Nat) (fun s=>s.1) (fun ((v25,v26),a24) h=>(a24=none→v25=[])∧Own vars h0 [((some g1),.cells [(.slice none 0 0),(.slice none 0 0),(.slice none 0 0),(.slice none 0 0)] false),((some g3),.cells [(growV 4 a24 (v25.map encNode)),(growV 1 none (([]:List ByteArray).map Value.string)),(growV 3 none (([]:List Memo).map encMem)),(growV 1 none (([]:List Nat).map i64))] false),(a24,.cells (flatC (v25.map encNode)) false),(none,.cells (flatC (([]:List ByteArray).map Value.string)) false),(none,.cells (flatC (([]:List Memo).map encMem)) false),(none,.cells (flatC (([]:List Nat).map i64)) false)] h∧True) (fun ((v25,v26),a24)=>[(1,(FP (encC p0))),(2,(.pointer (some ⟨g1,0,none⟩))),(3,(.pointer (some ⟨g3,0,none⟩))),(5,(i64 v10.length)),(6,(i64 (p0.dffs%3))),(7,(i64 v26))]) rfl ((v10,0),a9) hm ⟨ha11,O,trivial⟩ ⟨VLe.refl _ _,VLe.refl _ _,VLe.refl _ _,VLe.refl _ _,VLe.refl _ _,VLe.refl _ _,trivial⟩ ?_
   clear hm;rintro⟨⟨v25,v26⟩,a24⟩ nx28 base h hm ⟨ha27,O,_⟩
   ((conv=>whnf);repeat(first|apply Cs|apply Hs|apply Hx);conv=>whnf)
   refine⟨_,rfl,fun hc=>?_,fun hc=>?_⟩
   ·replace hm:=hm.1 hc
    apply Cs;(conv=>whnf);repeat(first|apply Cs|apply Hs|apply Hx);conv=>whnf
    refine⟨_,loadK rfl (O.at (.tail _ (.head _))) rfl rfl,?_⟩;(conv=>whnf);repeat(first|apply Hs|apply Hx);conv=>whnf
    refine NewG.frz rfl ?_;(conv=>whnf);repeat(first|apply Hs|apply Hx);conv=>whnf
    refine NewG.frz rfl ?_;(conv=>whnf);repeat(first|apply Hs|apply Hx);conv=>whnf
    refine O.appendL (enc:=encNode) (l:=v25) (new:=([(⟨14,([0]:(List Nat)),0,0⟩:Node)]:(List Node))) (s:=4) (b:=48) (.tail _ (.tail _ (.head _))) ha27 rfl rfl rfl rfl rfl rfl rfl rfl (YOk.fl rfl) (fun _=>rfl) (fun _=>rfl) (by decide) hm.1 fun a29 h ha30 O=>?_;(conv=>whnf);repeat(first|apply Hs|apply Hx);conv=>whnf
    replace hm:=hm.2
    refine O.store (n:=1) (cs':=[(growV 4 a29 ((v25++([(⟨14,([0]:(List Nat)),0,0⟩:Node)]:(List Node))).map encNode)),(growV 1 none (([]:List ByteArray).map Value.string)),(growV 3 none (([]:List Memo).map encMem)),(growV 1 none (([]:List Nat).map i64))]) (.tail _ (.head _)) rfl rfl rfl rfl (lbE rfl) rfl rfl fun h O=>?_;(conv=>whnf);repeat(first|apply Cs|apply Hs|apply Hx);conv=>whnf
    refine⟨_,addK (a:=v26) (b:=1) rfl rfl hm.1,?_⟩;(conv=>whnf);repeat(first|apply Hs|apply Hx);conv=>whnf
    replace hm:=hm.2
    exact⟨(((v25++([(⟨14,([0]:(List Nat)),0,0⟩:Node)]:(List Node))),(v26+1)),a29),hm,⟨ha30,O,trivial⟩,VLe.refl _ _,VLe.refl _ _,VLe.refl _ _,VLe.refl _ _,VLe.refl _ _,VLe.refl _ _,trivial⟩
   ·replace hm:=hm.2 hc
    apply Cs;(conv=>whnf);repeat(first|apply Cs|apply Hs|apply Hx);conv=>whnf
    exact⟨(v25,a24),hm,⟨ha27,O,trivial⟩,VLe.refl _ _,VLe.refl _ _,VLe.refl _ _,VLe.refl _ _,VLe.refl _ _,trivial⟩
  ·clear hm;rintro⟨v21,a20⟩ base h hm ⟨ha22,O,_⟩
   conv=>whnf
   refine CodeS.joinWS hm (nn:=178) (σ:=(List Node)×Option Nat) (fun s=>s.1) (fun (v32,a31) h=>(a31=none→v32=[])∧Own vars h0 [((some g1),.cells [(.slice none 0 0),(.slice none 0 0),(.slice none 0 0),(.slice none 0 0)] false),((some g3),.cells [(growV 4 a31 (v32.map encNode)),(growV 1 none (([]:List ByteArray).map Value.string)),(growV 3 none (([]:List Memo).map encMem)),(growV 1 none (([]:List Nat).map i64))] false),(a31,.cells (flatC (v32.map encNode)) false),(none,.cells (flatC (([]:List ByteArray).map Value.string)) false),(none,.cells (flatC (([]:List Memo).map encMem)) false),(none,.cells (flatC (([]:List Nat).map i64)) false)] h∧True) (fun (v32,a31)=>[(1,(FP (encC p0))),(2,(.pointer (some ⟨g1,0,none⟩))),(3,(.pointer (some ⟨g3,0,none⟩))),(5,(i64 v10.length)),(6,(i64 (p0.dffs%3)))]) rfl (fun hm'=>?_) ?_
   ·replace hm:=hm'
    apply Cs;(conv=>whnf);repeat(first|apply Cs|apply Hs|apply Hx);conv=>whnf
    refine⟨_,(rfl:aread _ _ _ _=some _),?_⟩;(conv=>whnf);repeat(first|apply Cs|apply Hs|apply Hx);conv=>whnf
    refine⟨_,rfl,fun hc=>?_,fun hc=>?_⟩
    ·replace hm:=hm.1 hc
     apply Cs;(conv=>whnf);repeat(first|apply Cs|apply Hs|apply Hx);conv=>whnf
     refine⟨_,loadK rfl (O.at (.tail _ (.head _))) rfl rfl,?_⟩;(conv=>whnf);repeat(first|apply Hs|apply Hx);conv=>whnf
     refine NewG.frzW rfl (VLe.els (s:=4) (es':=([(⟨15,([]:(List Nat)),0,0⟩:Node),(⟨15,([]:(List Nat)),0,1⟩:Node)]).map encNode) rfl (map_size (enc:=encNode) (s:=4) (fun _=>rfl) _) (LLe.cons (VLe.refl _ _) (LLe.cons (VLe.nil _ _) (LLe.cons (VLe.refl _ _) (LLe.cons (VLe.refl _ _) (LLe.cons (VLe.refl _ _) (LLe.cons (VLe.nil _ _) (LLe.cons (VLe.refl _ _) (LLe.cons (VLe.refl _ _) (LLe.nil _)))))))))) ?_;(conv=>whnf);repeat(first|apply Hs|apply Hx);conv=>whnf
     refine O.appendL (enc:=encNode) (l:=v21) (new:=([(⟨15,([]:(List Nat)),0,0⟩:Node),(⟨15,([]:(List Nat)),0,1⟩:Node)]:(List Node))) (s:=4) (b:=48) (.tail _ (.tail _ (.head _))) ha22 rfl rfl rfl rfl rfl rfl rfl rfl (YOk.fl rfl) (fun _=>rfl) (fun _=>rfl) (by decide) hm.1 fun a35 h ha36 O=>?_;(conv=>whnf);repeat(first|apply Hs|apply Hx);conv=>whnf
     replace hm:=hm.2
     refine O.store (n:=1) (cs':=[(growV 4 a35 ((v21++([(⟨15,([]:(List Nat)),0,0⟩:Node),(⟨15,([]:(List Nat)),0,1⟩:Node)]:(List Node))).map encNode)),(growV 1 none (([]:List ByteArray).map Value.string)),(growV 3 none (([]:List Memo).map encMem)),(growV 1 none (([]:List Nat).map i64))]) (.tail _ (.head _)) rfl rfl rfl rfl (lbE rfl) rfl rfl fun h O=>?_;(conv=>whnf);repeat(first|apply Hs|apply Hx);conv=>whnf
     exact⟨((v21++([(⟨15,([]:(List Nat)),0,0⟩:Node),(⟨15,([]:(List Nat)),0,1⟩:Node)]:(List Node))),a35),hm,⟨ha36,O,trivial⟩,VLe.refl _ _,VLe.refl _ _,VLe.refl _ _,VLe.refl _ _,VLe.refl _ _,trivial⟩
    ·replace hm:=hm.2 hc
     apply Cs;(conv=>whnf);repeat(first|apply Cs|apply Hs|apply Hx);conv=>whnf
     exact⟨(v21,a20),hm,⟨ha22,O,trivial⟩,VLe.refl _ _,VLe.refl _ _,VLe.refl _ _,VLe.refl _ _,VLe.refl _ _,trivial⟩
   ·clear hm;rintro⟨v32,a31⟩ base h hm ⟨ha33,O,_⟩
    conv=>whnf
    refine CodeS.joinWS hm (nn:=178) (σ:=(List Node)×Option Nat) (fun s=>s.1) (fun (v38,a37) h=>(a37=none→v38=[])∧Own vars h0 [((some g1),.cells [(.slice none 0 0),(.slice none 0 0),(.slice none 0 0),(.slice none 0 0)] false),((some g3),.cells [(growV 4 a37 (v38.map encNode)),(growV 1 none (([]:List ByteArray).map Value.string)),(growV 3 none (([]:List Memo).map encMem)),(growV 1 none (([]:List Nat).map i64))] false),(a37,.cells (flatC (v38.map encNode)) false),(none,.cells (flatC (([]:List ByteArray).map Value.string)) false),(none,.cells (flatC (([]:List Memo).map encMem)) false),(none,.cells (flatC (([]:List Nat).map i64)) false)] h∧True) (fun (v38,a37)=>[(1,(FP (encC p0))),(2,(.pointer (some ⟨g1,0,none⟩))),(3,(.pointer (some ⟨g3,0,none⟩))),(5,(i64 v10.length)),(6,(i64 (p0.dffs%3)))]) rfl (fun hm'=>?_) ?_
    ·replace hm:=hm'
     apply Cs;(conv=>whnf);repeat(first|apply Cs|apply Hs|apply Hx);conv=>whnf
     refine loopWK hM (by kernel_rfl) (nn:=178) (S:=((List Node)×Nat)) (σ:=((List Node)×Nat)×Option Nat) (fun s=>s.1) (fun ((v42,v43),a41) h=>(a41=none→v42=[])∧Own vars h0 [((some g1),.cells [(.slice none 0 0),(.slice none 0 0),(.slice none 0 0),(.slice none 0 0)] false),((some g3),.cells [(growV 4 a41 (v42.map encNode)),(growV 1 none (([]:List ByteArray).map Value.string)),(growV 3 none (([]:List Memo).map encMem)),(growV 1 none (([]:List Nat).map i64))] false),(a41,.cells (flatC (v42.map encNode)) false),(none,.cells (flatC (([]:List ByteArray).map Value.string)) false),(none,.cells (flatC (([]:List Memo).map encMem)) false),(none,.cells (flatC (([]:List Nat).map i64)) false)] h∧True) (fun ((v42,v43),a41)=>[(1,(FP (encC p0))),(2,(.pointer (some ⟨g1,0,none⟩))),(3,(.pointer (some ⟨g3,0,none⟩))),(5,(i64 v10.length)),(6,(i64 (p0.dffs%3))),(8,(i64 v43))]) rfl ((v32,0),a31) hm ⟨ha33,O,trivial⟩ ⟨VLe.refl _ _,VLe.refl _ _,VLe.refl _ _,VLe.refl _ _,VLe.refl _ _,VLe.refl _ _,trivial⟩ ?_
     clear hm;rintro⟨⟨v42,v43⟩,a41⟩ nx45 base h hm ⟨ha44,O,_⟩
     conv=>whnf
     apply Cs;conv=>whnf
     refine CodeS.joinWS hm (nn:=178) (σ:=Bool×Unit) (fun s=>s.1) (fun (v46,_) h=>(a41=none→v42=[])∧Own vars h0 [((some g1),.cells [(.slice none 0 0),(.slice none 0 0),(.slice none 0 0),(.slice none 0 0)] false),((some g3),.cells [(growV 4 a41 (v42.map encNode)),(growV 1 none (([]:List ByteArray).map Value.string)),(growV 3 none (([]:List Memo).map encMem)),(growV 1 none (([]:List Nat).map i64))] false),(a41,.cells (flatC (v42.map encNode)) false),(none,.cells (flatC (([]:List ByteArray).map Value.string)) false),(none,.cells (flatC (([]:List Memo).map encMem)) false),(none,.cells (flatC (([]:List Nat).map i64)) false)] h∧True) (fun (v46,_)=>[(1,(FP (encC p0))),(2,(.pointer (some ⟨g1,0,none⟩))),(3,(.pointer (some ⟨g3,0,none⟩))),(5,(i64 v10.length)),(6,(i64 (p0.dffs%3))),(8,(i64 v43)),(63,(.bool v46))]) rfl (fun hm'=>?_) ?_
     ·replace hm:=hm'
      apply Cs;(conv=>whnf);repeat(first|apply Cs|apply Hs|apply Hx);conv=>whnf
      refine⟨_,(rfl:aread _ _ _ _=some _),?_⟩;(conv=>whnf);repeat(first|apply Hs|apply Hx);conv=>whnf
      refine lenM (s:=4) (enc:=encG) (l:=p0.gates) rfl rfl ?_;(conv=>whnf);repeat(first|apply Hs|apply Hx);conv=>whnf
      refine⟨_,rfl,fun hc=>?_,fun hc=>?_⟩
      ·replace hm:=hm.1 hc;(conv=>whnf);repeat(first|apply Hs|apply Hx);conv=>whnf
       exact⟨((ltN v43 8),()),hm,⟨ha44,O,trivial⟩,VLe.refl _ _,VLe.refl _ _,VLe.refl _ _,VLe.refl _ _,VLe.refl _ _,VLe.refl _ _,VLe.refl _ _,trivial⟩
      ·replace hm:=hm.2 hc;(conv=>whnf);repeat(first|apply Hs|apply Hx);conv=>whnf
       exact⟨(false,()),hm,⟨ha44,O,trivial⟩,VLe.refl _ _,VLe.refl _ _,VLe.refl _ _,VLe.refl _ _,VLe.refl _ _,VLe.refl _ _,VLe.refl _ _,trivial⟩
     ·clear hm;rintro⟨v46,_⟩ base h hm ⟨ha47,O,_⟩
      ((conv=>whnf);repeat(first|apply Cs|apply Hs|apply Hx);conv=>whnf)
      refine⟨_,rfl,fun hc=>?_,fun hc=>?_⟩
      ·replace hm:=hm.1 hc
       apply Cs;(conv=>whnf);repeat(first|apply Cs|apply Hs|apply Hx);conv=>whnf
       refine⟨_,loadK rfl (O.at (.tail _ (.head _))) rfl rfl,?_⟩;(conv=>whnf);repeat(first|apply Hs|apply Hx);conv=>whnf
       first|refine⟨.inr (.inr (loadK rfl (O.at (.tail _ (.head _))) rfl rfl)),?_⟩|refine⟨.inr (.inl (by kernel_rfl)),?_⟩
       ((conv=>whnf);repeat(first|apply Cs|apply Hs|apply Hx);conv=>whnf)
       refine⟨_,(rfl:aread _ _ _ _=some _),?_⟩;(conv=>whnf);repeat(first|apply Hs|apply Hx);conv=>whnf
       first|refine⟨.inr (.inr (rfl)),?_⟩|refine⟨.inr (.inl (by kernel_rfl)),?_⟩
       ((conv=>whnf);repeat(first|apply Cs|apply Hs|apply Hx);conv=>whnf)
       refine⟨_,(rfl:aread _ _ _ _=some _),?_⟩;(conv=>whnf);repeat(first|apply Hs|apply Hx);conv=>whnf
       first|refine⟨.inr (.inr (rfl)),?_⟩|refine⟨.inr (.inl (by kernel_rfl)),?_⟩
       ((conv=>whnf);repeat(first|apply Cs|apply Hs|apply Hx);conv=>whnf)
       obtain⟨x49,hx49,hm⟩:=hm
       refine flAtM (s:=4) (enc:=encG) (j:=v43) rfl rfl rfl rfl hx49 ?_;(conv=>whnf);repeat(first|apply Hs|apply Hx);conv=>whnf
       refine⟨_,(rfl:aread _ _ _ _=some _),?_⟩;(conv=>whnf);repeat(first|apply Hs|apply Hx);conv=>whnf
       first|refine⟨.inr (.inr (rfl)),?_⟩|refine⟨.inr (.inl (by kernel_rfl)),?_⟩
       ((conv=>whnf);repeat(first|apply Cs|apply Hs|apply Hx);conv=>whnf)
       refine⟨_,loadK rfl (O.at (.tail _ (.head _))) rfl rfl,?_⟩;(conv=>whnf);repeat(first|apply Hs|apply Hx);conv=>whnf
       first|refine⟨.inr (.inr (loadK rfl (O.at (.tail _ (.head _))) rfl rfl)),?_⟩|refine⟨.inr (.inl (by kernel_rfl)),?_⟩
       ((conv=>whnf);repeat(first|apply Cs|apply Hs|apply Hx);conv=>whnf)
       obtain⟨hgk,hn1,hn2,hm⟩:=hm
       obtain⟨g50,rfl⟩:=addr_pos ha47 hn1
       refine⟨_,_,gate_at (x:=p0) hgk hn1 hn2 O.has (O.at (.tail _ (.tail _ (.head _)))),?_⟩;(conv=>whnf);repeat(first|apply Hs|apply Hx);conv=>whnf
       refine⟨.inl (Ext.refl _),?_⟩;(conv=>whnf);repeat(first|apply Hs|apply Hx);conv=>whnf
       refine O.buildLX (l:=([(gateK p0.bus x49 (v42.map Node.kind))]:(List Node))) (enc:=encNode) (s:=4) (z:=(.agg ⟨[(n8 0),(.slice none 0 0),(i64 0),(i64 0)]⟩)) rfl rfl (by kernel_rfl) (by kernel_rfl) rfl rfl rfl rfl (fun _=>rfl) fun g51 h O=>?_;(conv=>whnf);repeat(first|apply Hs|apply Hx);conv=>whnf
       refine O.appendL (enc:=encNode) (l:=v42) (new:=([(gateK p0.bus x49 (v42.map Node.kind))]:(List Node))) (s:=4) (b:=48) (.tail _ (.tail _ (.tail _ (.head _)))) someNone rfl rfl rfl rfl rfl rfl rfl rfl (YOk.own (O.at (.head _)) rfl (fun _=>rfl) rfl) (fun _=>rfl) (fun _=>rfl) (by decide) hm.1 fun a53 h ha54 O=>?_;(conv=>whnf);repeat(first|apply Hs|apply Hx);conv=>whnf
       refine⟨.inl rfl,?_⟩;(conv=>whnf);repeat(first|apply Hs|apply Hx);conv=>whnf
       replace hm:=hm.2
       refine O.store (n:=1) (cs':=[(growV 4 a53 ((v42++([(gateK p0.bus x49 (v42.map Node.kind))]:(List Node))).map encNode)),(growV 1 none (([]:List ByteArray).map Value.string)),(growV 3 none (([]:List Memo).map encMem)),(growV 1 none (([]:List Nat).map i64))]) (.tail _ (.tail _ (.head _))) rfl rfl rfl rfl (lbE rfl) rfl rfl fun h O=>?_;(conv=>whnf);repeat(first|apply Hs|apply Hx);conv=>whnf
       refine⟨.inl rfl,?_⟩;(conv=>whnf);repeat(first|apply Hs|apply Hx);conv=>whnf
       apply Cs;(conv=>whnf);repeat(first|apply Cs|apply Hs|apply Hx);conv=>whnf
       refine⟨_,addK (a:=v43) (b:=1) rfl rfl hm.1,?_⟩;(conv=>whnf);repeat(first|apply Hs|apply Hx);conv=>whnf
       replace hm:=hm.2
       exact⟨(((v42++([(gateK p0.bus x49 (v42.map Node.kind))]:(List Node))),(v43+1)),a53),hm,⟨ha54,(O.sel [1,2,3,4,5,6] (by decide)),trivial⟩,VLe.refl _ _,VLe.refl _ _,VLe.refl _ _,VLe.refl _ _,VLe.refl _ _,VLe.refl _ _,trivial⟩
      ·replace hm:=hm.2 hc
       apply Cs;(conv=>whnf);repeat(first|apply Cs|apply Hs|apply Hx);conv=>whnf
       exact⟨(v42,a41),hm,⟨ha47,O,trivial⟩,VLe.refl _ _,VLe.refl _ _,VLe.refl _ _,VLe.refl _ _,VLe.refl _ _,trivial⟩
    ·clear hm;rintro⟨v38,a37⟩ base h hm ⟨ha39,O,_⟩
     ((conv=>whnf);repeat(first|apply Cs|apply Hs|apply Hx);conv=>whnf)
     refine⟨_,loadK rfl (O.at (.tail _ (.head _))) rfl rfl,?_⟩;(conv=>whnf);repeat(first|apply Hs|apply Hx);conv=>whnf
     refine lenG (enc:=encNode) (l:=v38) rfl rfl ?_;(conv=>whnf);repeat(first|apply Hs|apply Hx);conv=>whnf
     refine CodeS.joinWS hm (nn:=178) (σ:=(List Node)×Option Nat) (fun s=>s.1) (fun (v56,a55) h=>(a55=none→v56=[])∧Own vars h0 [((some g1),.cells [(.slice none 0 0),(.slice none 0 0),(.slice none 0 0),(.slice none 0 0)] false),((some g3),.cells [(growV 4 a55 (v56.map encNode)),(growV 1 none (([]:List ByteArray).map Value.string)),(growV 3 none (([]:List Memo).map encMem)),(growV 1 none (([]:List Nat).map i64))] false),(a55,.cells (flatC (v56.map encNode)) false),(none,.cells (flatC (([]:List ByteArray).map Value.string)) false),(none,.cells (flatC (([]:List Memo).map encMem)) false),(none,.cells (flatC (([]:List Nat).map i64)) false)] h∧True) (fun (v56,a55)=>[(1,(FP (encC p0))),(2,(.pointer (some ⟨g1,0,none⟩))),(3,(.pointer (some ⟨g3,0,none⟩))),(9,(i64 v38.length))]) rfl (fun hm'=>?_) ?_
     ·replace hm:=hm'
      apply Cs;(conv=>whnf);repeat(first|apply Cs|apply Hs|apply Hx);conv=>whnf
      refine loopWK hM (by kernel_rfl) (nn:=178) (S:=((List Node)×Nat)) (σ:=((List Node)×Nat)×Option Nat) (fun s=>s.1) (fun ((v60,v61),a59) h=>(a59=none→v60=[])∧Own vars h0 [((some g1),.cells [(.slice none 0 0),(.slice none 0 0),(.slice none 0 0),(.slice none 0 0)] false),((some g3),.cells [(growV 4 a59 (v60.map encNode)),(growV 1 none (([]:List ByteArray).map Value.string)),(growV 3 none (([]:List Memo).map encMem)),(growV 1 none (([]:List Nat).map i64))] false),(a59,.cells (flatC (v60.map encNode)) false),(none,.cells (flatC (([]:List ByteArray).map Value.string)) false),(none,.cells (flatC (([]:List Memo).map encMem)) false),(none,.cells (flatC (([]:List Nat).map i64)) false)] h∧True) (fun ((v60,v61),a59)=>[(1,(FP (encC p0))),(2,(.pointer (some ⟨g1,0,none⟩))),(3,(.pointer (some ⟨g3,0,none⟩))),(5,(i64 v10.length)),(6,(i64 (p0.dffs%3))),(9,(i64 v38.length)),(10,(i64 v61))]) rfl ((v38,0),a37) hm ⟨ha39,O,trivial⟩ ⟨VLe.refl _ _,VLe.refl _ _,VLe.refl _ _,VLe.refl _ _,VLe.refl _ _,VLe.refl _ _,VLe.refl _ _,trivial⟩ ?_
      clear hm;rintro⟨⟨v60,v61⟩,a59⟩ nx63 base h hm ⟨ha62,O,_⟩
      ((conv=>whnf);repeat(first|apply Cs|apply Hs|apply Hx);conv=>whnf)
      refine⟨_,rfl,fun hc=>?_,fun hc=>?_⟩
      ·replace hm:=hm.1 hc
       apply Cs;(conv=>whnf);repeat(first|apply Cs|apply Hs|apply Hx);conv=>whnf
       refine⟨_,loadK rfl (O.at (.tail _ (.head _))) rfl rfl,?_⟩;(conv=>whnf);repeat(first|apply Hs|apply Hx);conv=>whnf
       first|refine⟨.inr (.inr (loadK rfl (O.at (.tail _ (.head _))) rfl rfl)),?_⟩|refine⟨.inr (.inl (by kernel_rfl)),?_⟩
       ((conv=>whnf);repeat(first|apply Cs|apply Hs|apply Hx);conv=>whnf)
       refine⟨_,addK (a:=v10.length) (b:=v61) rfl rfl hm.1,?_⟩;(conv=>whnf);repeat(first|apply Hs|apply Hx);conv=>whnf
       replace hm:=hm.2
       have hq:v61=0∨v61=1:=by have:=hm.1;omega
       replace hm:=hm.2
       rcases hq with hq|hq
       ·replace hm:=hm.1 hq
        refine arrFP (s:=1) (j:=v61) (q:=0) rfl rfl rfl rfl hq rfl rfl ?_;(conv=>whnf);repeat(first|apply Hs|apply Hx);conv=>whnf
        refine⟨_,(rfl:aread _ _ _ _=some _),?_⟩;(conv=>whnf);repeat(first|apply Hs|apply Hx);conv=>whnf
        refine⟨.inl rfl,?_⟩;(conv=>whnf);repeat(first|apply Hs|apply Hx);conv=>whnf
        refine⟨_,convIntK (a:=Int.ofNat p0.data0) rfl rfl rfl (wrapI64 (Nat.lt_of_lt_of_le hm.1 (by decide))),?_⟩;(conv=>whnf);repeat(first|apply Hs|apply Hx);conv=>whnf
        refine⟨.inl rfl,?_⟩;(conv=>whnf);repeat(first|apply Hs|apply Hx);conv=>whnf
        replace hm:=hm.2
        refine⟨_,remK (a:=p0.data0) (b:=v38.length) rfl rfl hm.1,?_⟩;(conv=>whnf);repeat(first|apply Hs|apply Hx);conv=>whnf
        replace hm:=hm.2
        refine O.buildLX (l:=([(p0.data0%v38.length)]:(List Nat))) (enc:=i64) (s:=1) (z:=(i64 0)) rfl rfl (by kernel_rfl) (by kernel_rfl) rfl rfl rfl rfl (fun _=>rfl) fun g64 h O=>?_;(conv=>whnf);repeat(first|apply Hs|apply Hx);conv=>whnf
        obtain⟨x66,hx66,hm⟩:=hm
        obtain⟨g67,rfl⟩:=addr_some ha62 hx66
        refine indexK (s:=4) (j:=(v10.length+v61)) rfl rfl rfl rfl (by rw[List.length_map];exact lt_of_get hx66) ?_;(conv=>whnf);repeat(first|apply Hs|apply Hx);conv=>whnf
        refine O.store (n:=1) (cs':=(splice (flatC (v60.map encNode)) (0+(v10.length+v61)*4+1) [(.slice (some ⟨g64,0,none⟩) 1 1)])) (.tail _ (.tail _ (.tail _ (.head _)))) rfl rfl rfl rfl (el_le (enc:=encNode) (s:=4) (k:=1) (n:=1) (fun _=>rfl) (lt_of_get hx66) (lbE rfl)) rfl rfl fun h O=>?_;(conv=>whnf);repeat(first|apply Hs|apply Hx);conv=>whnf
        refine⟨.inl rfl,?_⟩;(conv=>whnf);repeat(first|apply Hs|apply Hx);conv=>whnf
        refine CodeS.ghost (cs2':=flatC ((v60.set (v10.length+v61) { x66 with ins:=([(p0.data0%v38.length)]:(List Nat)) }).map encNode)) O (.head _) (.tail _ (.tail _ (.tail _ (.head _)))) (t1:=100) (t2:=89) rfl rfl rfl rfl (fun h2 hq=>setSpliceLe (enc:=encNode) (s:=4) (fun _=>rfl) hx66 (x:={ x66 with ins:=([(p0.data0%v38.length)]:(List Nat)) }) (k:=1) (v':=(encL 1 i64) ([(p0.data0%v38.length)]:(List Nat))) (lbE rfl) rfl (VLe.flM hq rfl (fun _=>rfl))) fun h O=>?_
        try rw[growV_set (enc:=encNode) (l:=v60) (j:=(v10.length+v61)) (x:={ x66 with ins:=([(p0.data0%v38.length)]:(List Nat)) })] at O
        apply Cs;(conv=>whnf);repeat(first|apply Cs|apply Hs|apply Hx);conv=>whnf
        refine⟨_,addK (a:=v61) (b:=1) rfl rfl hm.1,?_⟩;(conv=>whnf);repeat(first|apply Hs|apply Hx);conv=>whnf
        replace hm:=hm.2
        exact⟨(((v60.set (v10.length+v61) { x66 with ins:=([(p0.data0%v38.length)]:(List Nat)) }),(v61+1)),(some g67)),hm,⟨someNone,(O.sel [1,2,3,4,5,6] (by decide)),trivial⟩,VLe.refl _ _,VLe.refl _ _,VLe.refl _ _,VLe.refl _ _,VLe.refl _ _,VLe.refl _ _,VLe.refl _ _,trivial⟩
       ·replace hm:=hm.2 hq
        refine arrFP (s:=1) (j:=v61) (q:=1) rfl rfl rfl rfl hq rfl rfl ?_;(conv=>whnf);repeat(first|apply Hs|apply Hx);conv=>whnf
        refine⟨_,(rfl:aread _ _ _ _=some _),?_⟩;(conv=>whnf);repeat(first|apply Hs|apply Hx);conv=>whnf
        refine⟨.inl rfl,?_⟩;(conv=>whnf);repeat(first|apply Hs|apply Hx);conv=>whnf
        refine⟨_,convIntK (a:=Int.ofNat p0.data1) rfl rfl rfl (wrapI64 (Nat.lt_of_lt_of_le hm.1 (by decide))),?_⟩;(conv=>whnf);repeat(first|apply Hs|apply Hx);conv=>whnf
        refine⟨.inl rfl,?_⟩;(conv=>whnf);repeat(first|apply Hs|apply Hx);conv=>whnf
        replace hm:=hm.2
        refine⟨_,remK (a:=p0.data1) (b:=v38.length) rfl rfl hm.1,?_⟩;(conv=>whnf);repeat(first|apply Hs|apply Hx);conv=>whnf
        replace hm:=hm.2
        refine O.buildLX (l:=([(p0.data1%v38.length)]:(List Nat))) (enc:=i64) (s:=1) (z:=(i64 0)) rfl rfl (by kernel_rfl) (by kernel_rfl) rfl rfl rfl rfl (fun _=>rfl) fun g68 h O=>?_;(conv=>whnf);repeat(first|apply Hs|apply Hx);conv=>whnf
        obtain⟨x70,hx70,hm⟩:=hm
        obtain⟨g71,rfl⟩:=addr_some ha62 hx70
        refine indexK (s:=4) (j:=(v10.length+v61)) rfl rfl rfl rfl (by rw[List.length_map];exact lt_of_get hx70) ?_;(conv=>whnf);repeat(first|apply Hs|apply Hx);conv=>whnf
        refine O.store (n:=1) (cs':=(splice (flatC (v60.map encNode)) (0+(v10.length+v61)*4+1) [(.slice (some ⟨g68,0,none⟩) 1 1)])) (.tail _ (.tail _ (.tail _ (.head _)))) rfl rfl rfl rfl (el_le (enc:=encNode) (s:=4) (k:=1) (n:=1) (fun _=>rfl) (lt_of_get hx70) (lbE rfl)) rfl rfl fun h O=>?_;(conv=>whnf);repeat(first|apply Hs|apply Hx);conv=>whnf
        refine⟨.inl rfl,?_⟩;(conv=>whnf);repeat(first|apply Hs|apply Hx);conv=>whnf
        refine CodeS.ghost (cs2':=flatC ((v60.set (v10.length+v61) { x70 with ins:=([(p0.data1%v38.length)]:(List Nat)) }).map encNode)) O (.head _) (.tail _ (.tail _ (.tail _ (.head _)))) (t1:=100) (t2:=89) rfl rfl rfl rfl (fun h2 hq=>setSpliceLe (enc:=encNode) (s:=4) (fun _=>rfl) hx70 (x:={ x70 with ins:=([(p0.data1%v38.length)]:(List Nat)) }) (k:=1) (v':=(encL 1 i64) ([(p0.data1%v38.length)]:(List Nat))) (lbE rfl) rfl (VLe.flM hq rfl (fun _=>rfl))) fun h O=>?_
        try rw[growV_set (enc:=encNode) (l:=v60) (j:=(v10.length+v61)) (x:={ x70 with ins:=([(p0.data1%v38.length)]:(List Nat)) })] at O
        apply Cs;(conv=>whnf);repeat(first|apply Cs|apply Hs|apply Hx);conv=>whnf
        refine⟨_,addK (a:=v61) (b:=1) rfl rfl hm.1,?_⟩;(conv=>whnf);repeat(first|apply Hs|apply Hx);conv=>whnf
        replace hm:=hm.2
        exact⟨(((v60.set (v10.length+v61) { x70 with ins:=([(p0.data1%v38.length)]:(List Nat)) }),(v61+1)),(some g71)),hm,⟨someNone,(O.sel [1,2,3,4,5,6] (by decide)),trivial⟩,VLe.refl _ _,VLe.refl _ _,VLe.refl _ _,VLe.refl _ _,VLe.refl _ _,VLe.refl _ _,VLe.refl _ _,trivial⟩
      ·replace hm:=hm.2 hc
       apply Cs;(conv=>whnf);repeat(first|apply Cs|apply Hs|apply Hx);conv=>whnf
       exact⟨(v60,a59),hm,⟨ha62,O,trivial⟩,VLe.refl _ _,VLe.refl _ _,VLe.refl _ _,VLe.refl _ _,trivial⟩
     ·clear hm;rintro⟨v56,a55⟩ base h hm ⟨ha57,O,_⟩
      ((conv=>whnf);repeat(first|apply Cs|apply Hs|apply Hx);conv=>whnf)
      refine⟨_,(rfl:aread _ _ _ _=some _),?_⟩;(conv=>whnf);repeat(first|apply Cs|apply Hs|apply Hx);conv=>whnf
      refine⟨_,rfl,fun hc=>?_,fun hc=>?_⟩
      ·replace hm:=hm.1 hc
       apply Cs;(conv=>whnf);repeat(first|apply Cs|apply Hs|apply Hx);conv=>whnf
       refine idxR rfl ?_;(conv=>whnf);repeat(first|apply Hs|apply Hx);conv=>whnf
       refine⟨_,(rfl:aread _ _ _ _=some _),?_⟩;(conv=>whnf);repeat(first|apply Hs|apply Hx);conv=>whnf
       refine⟨.inl rfl,?_⟩;(conv=>whnf);repeat(first|apply Hs|apply Hx);conv=>whnf
       refine⟨_,convIntK (a:=Int.ofNat p0.port0) rfl rfl rfl (wrapI64 (Nat.lt_of_lt_of_le hm.1 (by decide))),?_⟩;(conv=>whnf);repeat(first|apply Hs|apply Hx);conv=>whnf
       refine⟨.inl rfl,?_⟩;(conv=>whnf);repeat(first|apply Hs|apply Hx);conv=>whnf
       replace hm:=hm.2
       refine⟨_,remK (a:=p0.port0) (b:=v38.length) rfl rfl hm.1,?_⟩;(conv=>whnf);repeat(first|apply Hs|apply Hx);conv=>whnf
       replace hm:=hm.2
       refine O.buildLX (l:=([(p0.port0%v38.length)]:(List Nat))) (enc:=i64) (s:=1) (z:=(i64 0)) rfl rfl (by kernel_rfl) (by kernel_rfl) rfl rfl rfl rfl (fun _=>rfl) fun g72 h O=>?_;(conv=>whnf);repeat(first|apply Hs|apply Hx);conv=>whnf
       refine idxR rfl ?_;(conv=>whnf);repeat(first|apply Hs|apply Hx);conv=>whnf
       refine⟨_,(rfl:aread _ _ _ _=some _),?_⟩;(conv=>whnf);repeat(first|apply Hs|apply Hx);conv=>whnf
       refine⟨.inl rfl,?_⟩;(conv=>whnf);repeat(first|apply Hs|apply Hx);conv=>whnf
       refine⟨_,convIntK (a:=Int.ofNat p0.port1) rfl rfl rfl (wrapI64 (Nat.lt_of_lt_of_le hm.1 (by decide))),?_⟩;(conv=>whnf);repeat(first|apply Hs|apply Hx);conv=>whnf
       refine⟨.inl rfl,?_⟩;(conv=>whnf);repeat(first|apply Hs|apply Hx);conv=>whnf
       replace hm:=hm.2
       refine⟨_,remK (a:=p0.port1) (b:=v38.length) rfl rfl hm.1,?_⟩;(conv=>whnf);repeat(first|apply Hs|apply Hx);conv=>whnf
       replace hm:=hm.2
       refine idxR rfl ?_;(conv=>whnf);repeat(first|apply Hs|apply Hx);conv=>whnf
       refine⟨_,(rfl:aread _ _ _ _=some _),?_⟩;(conv=>whnf);repeat(first|apply Hs|apply Hx);conv=>whnf
       refine⟨.inl rfl,?_⟩;(conv=>whnf);repeat(first|apply Hs|apply Hx);conv=>whnf
       refine⟨_,convIntK (a:=Int.ofNat p0.port2) rfl rfl rfl (wrapI64 (Nat.lt_of_lt_of_le hm.1 (by decide))),?_⟩;(conv=>whnf);repeat(first|apply Hs|apply Hx);conv=>whnf
       refine⟨.inl rfl,?_⟩;(conv=>whnf);repeat(first|apply Hs|apply Hx);conv=>whnf
       replace hm:=hm.2
       refine⟨_,remK (a:=p0.port2) (b:=v38.length) rfl rfl hm.1,?_⟩;(conv=>whnf);repeat(first|apply Hs|apply Hx);conv=>whnf
       replace hm:=hm.2
       refine O.buildLX (l:=([(p0.port1%v38.length),(p0.port2%v38.length)]:(List Nat))) (enc:=i64) (s:=1) (z:=(i64 0)) rfl rfl (by kernel_rfl) (by kernel_rfl) rfl rfl rfl rfl (fun _=>rfl) fun g74 h O=>?_;(conv=>whnf);repeat(first|apply Hs|apply Hx);conv=>whnf
       refine idxR rfl ?_;(conv=>whnf);repeat(first|apply Hs|apply Hx);conv=>whnf
       refine⟨_,(rfl:aread _ _ _ _=some _),?_⟩;(conv=>whnf);repeat(first|apply Hs|apply Hx);conv=>whnf
       refine⟨.inl rfl,?_⟩;(conv=>whnf);repeat(first|apply Hs|apply Hx);conv=>whnf
       refine⟨_,convIntK (a:=Int.ofNat p0.port3) rfl rfl rfl (wrapI64 (Nat.lt_of_lt_of_le hm.1 (by decide))),?_⟩;(conv=>whnf);repeat(first|apply Hs|apply Hx);conv=>whnf
       refine⟨.inl rfl,?_⟩;(conv=>whnf);repeat(first|apply Hs|apply Hx);conv=>whnf
       replace hm:=hm.2
       refine⟨_,remK (a:=p0.port3) (b:=v38.length) rfl rfl hm.1,?_⟩;(conv=>whnf);repeat(first|apply Hs|apply Hx);conv=>whnf
       replace hm:=hm.2
       refine O.newX (buildK (vs:=[(.agg ⟨[(.slice (some ⟨g72,0,none⟩) 1 1),(.slice (some ⟨g74,0,none⟩) 2 2),(i64 (p0.port3%v38.length))]⟩)]) (s:=3) (z:=(.agg ⟨[(.slice none 0 0),(.slice none 0 0),(i64 0)]⟩)) rfl rfl (by kernel_rfl) (by kernel_rfl) rfl rfl rfl rfl (by intro e he;simp only[List.mem_cons,List.not_mem_nil,or_false] at he;rcases he with rfl <;> rfl)) fun g76 h O=>?_;(conv=>whnf);repeat(first|apply Hs|apply Hx);conv=>whnf
       refine O.store (n:=1) (cs':=[(growV 4 a55 (v56.map encNode)),(growV 1 none (([]:List ByteArray).map Value.string)),(.slice (some ⟨g76,0,none⟩) 1 1),(growV 1 none (([]:List Nat).map i64))]) (.tail _ (.tail _ (.tail _ (.tail _ (.head _))))) rfl rfl rfl rfl (lbE rfl) rfl rfl fun h O=>?_;(conv=>whnf);repeat(first|apply Hs|apply Hx);conv=>whnf
       refine⟨.inl rfl,?_⟩;(conv=>whnf);repeat(first|apply Hs|apply Hx);conv=>whnf
       refine CodeS.joinWS hm (nn:=178) (σ:=(List ByteArray)×Option Nat) (fun s=>s.1) (fun (v79,a78) h=>(a55=none→v56=[])∧(a78=none→v79=[])∧Own vars h0 [((some g1),.cells [(.slice none 0 0),(.slice none 0 0),(.slice none 0 0),(.slice none 0 0)] false),((some g3),.cells [(growV 4 a55 (v56.map encNode)),(growV 1 a78 (v79.map Value.string)),(.slice (some ⟨g76,0,none⟩) 1 1),(growV 1 none (([]:List Nat).map i64))] false),(a55,.cells (flatC (v56.map encNode)) false),(a78,.cells (flatC (v79.map Value.string)) false),((some g76),.cells [(.slice (some ⟨g72,0,none⟩) 1 1),(.slice (some ⟨g74,0,none⟩) 2 2),(i64 (p0.port3%v38.length))] false),((some g72),.cells (flatC (([(p0.port0%v38.length)]:(List Nat)).map i64)) false),((some g74),.cells (flatC (([(p0.port1%v38.length),(p0.port2%v38.length)]:(List Nat)).map i64)) false),(none,.cells (flatC (([]:List Nat).map i64)) false)] h∧True) (fun (v79,a78)=>[(1,(FP (encC p0))),(2,(.pointer (some ⟨g1,0,none⟩))),(3,(.pointer (some ⟨g3,0,none⟩))),(9,(i64 v38.length))]) rfl (fun hm'=>?_) ?_
       ·replace hm:=hm'
        apply Cs;(conv=>whnf);repeat(first|apply Cs|apply Hs|apply Hx);conv=>whnf
        refine loopWK hM (by kernel_rfl) (nn:=178) (S:=((List ByteArray)×Nat)) (σ:=((List ByteArray)×Nat)×Option Nat) (fun s=>s.1) (fun ((v84,v85),a83) h=>(a55=none→v56=[])∧(a83=none→v84=[])∧Own vars h0 [((some g1),.cells [(.slice none 0 0),(.slice none 0 0),(.slice none 0 0),(.slice none 0 0)] false),((some g3),.cells [(growV 4 a55 (v56.map encNode)),(growV 1 a83 (v84.map Value.string)),(.slice (some ⟨g76,0,none⟩) 1 1),(growV 1 none (([]:List Nat).map i64))] false),(a55,.cells (flatC (v56.map encNode)) false),(a83,.cells (flatC (v84.map Value.string)) false),((some g76),.cells [(.slice (some ⟨g72,0,none⟩) 1 1),(.slice (some ⟨g74,0,none⟩) 2 2),(i64 (p0.port3%v38.length))] false),((some g72),.cells (flatC (([(p0.port0%v38.length)]:(List Nat)).map i64)) false),((some g74),.cells (flatC (([(p0.port1%v38.length),(p0.port2%v38.length)]:(List Nat)).map i64)) false),(none,.cells (flatC (([]:List Nat).map i64)) false)] h∧True) (fun ((v84,v85),a83)=>[(1,(FP (encC p0))),(2,(.pointer (some ⟨g1,0,none⟩))),(3,(.pointer (some ⟨g3,0,none⟩))),(9,(i64 v38.length)),(11,(i64 v85))]) rfl ((([]:List ByteArray),0),none) hm ⟨ha57,(fun _=>rfl),(O.sel [3,4,5,6,0,2,1,8] (by decide)),trivial⟩ ⟨VLe.refl _ _,VLe.refl _ _,VLe.refl _ _,VLe.refl _ _,VLe.refl _ _,trivial⟩ ?_
        clear hm;rintro⟨⟨v84,v85⟩,a83⟩ nx88 base h hm ⟨ha86,ha87,O,_⟩
        ((conv=>whnf);repeat(first|apply Cs|apply Hs|apply Hx);conv=>whnf)
        refine⟨_,rfl,fun hc=>?_,fun hc=>?_⟩
        ·replace hm:=hm.1 hc
         apply Cs;(conv=>whnf);repeat(first|apply Cs|apply Hs|apply Hx);conv=>whnf
         refine⟨_,loadK rfl (O.at (.tail _ (.head _))) rfl rfl,?_⟩;(conv=>whnf);repeat(first|apply Hs|apply Hx);conv=>whnf
         first|refine⟨.inr (.inr (loadK rfl (O.at (.tail _ (.head _))) rfl rfl)),?_⟩|refine⟨.inr (.inl (by kernel_rfl)),?_⟩
         ((conv=>whnf);repeat(first|apply Cs|apply Hs|apply Hx);conv=>whnf)
         obtain⟨r89,hm,hcall⟩:=law03_name_walk hm O.has
         refine⟨_,_,hcall,?_⟩;(conv=>whnf);repeat(first|apply Hs|apply Hx);conv=>whnf
         refine⟨.inl (Ext.refl _),?_⟩;(conv=>whnf);repeat(first|apply Hs|apply Hx);conv=>whnf
         refine O.buildLX (l:=([r89]:(List ByteArray))) (enc:=Value.string) (s:=1) (z:=(.string (⟨#[]⟩:ByteArray))) rfl rfl (by kernel_rfl) (by kernel_rfl) rfl rfl rfl rfl (fun _=>rfl) fun g90 h O=>?_;(conv=>whnf);repeat(first|apply Hs|apply Hx);conv=>whnf
         refine O.appendL (enc:=Value.string) (l:=v84) (new:=([r89]:(List ByteArray))) (s:=1) (b:=16) (.tail _ (.tail _ (.tail _ (.tail _ (.head _))))) ha87 rfl rfl rfl rfl rfl rfl rfl rfl (YOk.own (O.at (.head _)) rfl (fun _=>rfl) rfl) (fun _=>rfl) (fun _=>rfl) (by decide) hm.1 fun a92 h ha93 O=>?_;(conv=>whnf);repeat(first|apply Hs|apply Hx);conv=>whnf
         refine⟨.inl rfl,?_⟩;(conv=>whnf);repeat(first|apply Hs|apply Hx);conv=>whnf
         replace hm:=hm.2
         refine O.store (n:=1) (cs':=[(growV 4 a55 (v56.map encNode)),(growV 1 a92 ((v84++([r89]:(List ByteArray))).map Value.string)),(.slice (some ⟨g76,0,none⟩) 1 1),(growV 1 none (([]:List Nat).map i64))]) (.tail _ (.tail _ (.head _))) rfl rfl rfl rfl (lbE rfl) rfl rfl fun h O=>?_;(conv=>whnf);repeat(first|apply Hs|apply Hx);conv=>whnf
         refine⟨.inl rfl,?_⟩;(conv=>whnf);repeat(first|apply Hs|apply Hx);conv=>whnf
         apply Cs;(conv=>whnf);repeat(first|apply Cs|apply Hs|apply Hx);conv=>whnf
         refine⟨_,addK (a:=v85) (b:=1) rfl rfl hm.1,?_⟩;(conv=>whnf);repeat(first|apply Hs|apply Hx);conv=>whnf
         replace hm:=hm.2
         exact⟨(((v84++([r89]:(List ByteArray))),(v85+1)),a92),hm,⟨ha86,ha93,(O.sel [1,2,3,4,5,6,7,8] (by decide)),trivial⟩,VLe.refl _ _,VLe.refl _ _,VLe.refl _ _,VLe.refl _ _,VLe.refl _ _,trivial⟩
        ·replace hm:=hm.2 hc
         apply Cs;(conv=>whnf);repeat(first|apply Cs|apply Hs|apply Hx);conv=>whnf
         exact⟨(v84,a83),hm,⟨ha86,ha87,O,trivial⟩,VLe.refl _ _,VLe.refl _ _,VLe.refl _ _,VLe.refl _ _,trivial⟩
       ·clear hm;rintro⟨v79,a78⟩ base h hm ⟨ha80,ha81,O,_⟩
        conv=>whnf
        refine CodeS.joinWS hm (nn:=178) (σ:=(List Nat)×Option Nat) (fun s=>s.1) (fun (v95,a94) h=>(a55=none→v56=[])∧(a78=none→v79=[])∧(a94=none→v95=[])∧Own vars h0 [((some g1),.cells [(.slice none 0 0),(.slice none 0 0),(.slice none 0 0),(.slice none 0 0)] false),((some g3),.cells [(growV 4 a55 (v56.map encNode)),(growV 1 a78 (v79.map Value.string)),(.slice (some ⟨g76,0,none⟩) 1 1),(growV 1 a94 (v95.map i64))] false),(a55,.cells (flatC (v56.map encNode)) false),(a78,.cells (flatC (v79.map Value.string)) false),((some g76),.cells [(.slice (some ⟨g72,0,none⟩) 1 1),(.slice (some ⟨g74,0,none⟩) 2 2),(i64 (p0.port3%v38.length))] false),((some g72),.cells (flatC (([(p0.port0%v38.length)]:(List Nat)).map i64)) false),((some g74),.cells (flatC (([(p0.port1%v38.length),(p0.port2%v38.length)]:(List Nat)).map i64)) false),(a94,.cells (flatC (v95.map i64)) false)] h∧True) (fun (v95,a94)=>[(2,(.pointer (some ⟨g1,0,none⟩))),(3,(.pointer (some ⟨g3,0,none⟩))),(9,(i64 v38.length))]) rfl (fun hm'=>?_) ?_
        ·replace hm:=hm'
         apply Cs;(conv=>whnf);repeat(first|apply Cs|apply Hs|apply Hx);conv=>whnf
         refine loopWK hM (by kernel_rfl) (nn:=178) (S:=((List Nat)×Nat)) (σ:=((List Nat)×Nat)×Option Nat) (fun s=>s.1) (fun ((v101,v102),a100) h=>(a55=none→v56=[])∧(a78=none→v79=[])∧(a100=none→v101=[])∧Own vars h0 [((some g1),.cells [(.slice none 0 0),(.slice none 0 0),(.slice none 0 0),(.slice none 0 0)] false),((some g3),.cells [(growV 4 a55 (v56.map encNode)),(growV 1 a78 (v79.map Value.string)),(.slice (some ⟨g76,0,none⟩) 1 1),(growV 1 a100 (v101.map i64))] false),(a55,.cells (flatC (v56.map encNode)) false),(a78,.cells (flatC (v79.map Value.string)) false),((some g76),.cells [(.slice (some ⟨g72,0,none⟩) 1 1),(.slice (some ⟨g74,0,none⟩) 2 2),(i64 (p0.port3%v38.length))] false),((some g72),.cells (flatC (([(p0.port0%v38.length)]:(List Nat)).map i64)) false),((some g74),.cells (flatC (([(p0.port1%v38.length),(p0.port2%v38.length)]:(List Nat)).map i64)) false),(a100,.cells (flatC (v101.map i64)) false)] h∧True) (fun ((v101,v102),a100)=>[(1,(FP (encC p0))),(2,(.pointer (some ⟨g1,0,none⟩))),(3,(.pointer (some ⟨g3,0,none⟩))),(9,(i64 v38.length)),(12,(i64 v102))]) rfl ((([]:List Nat),0),none) hm ⟨ha80,ha81,(fun _=>rfl),O,trivial⟩ ⟨VLe.refl _ _,VLe.refl _ _,VLe.refl _ _,VLe.refl _ _,VLe.refl _ _,trivial⟩ ?_
         clear hm;rintro⟨⟨v101,v102⟩,a100⟩ nx106 base h hm ⟨ha103,ha104,ha105,O,_⟩
         conv=>whnf
         apply Cs;conv=>whnf
         refine CodeS.joinWS hm (nn:=178) (σ:=Bool×Unit) (fun s=>s.1) (fun (v107,_) h=>(a55=none→v56=[])∧(a78=none→v79=[])∧(a100=none→v101=[])∧Own vars h0 [((some g1),.cells [(.slice none 0 0),(.slice none 0 0),(.slice none 0 0),(.slice none 0 0)] false),((some g3),.cells [(growV 4 a55 (v56.map encNode)),(growV 1 a78 (v79.map Value.string)),(.slice (some ⟨g76,0,none⟩) 1 1),(growV 1 a100 (v101.map i64))] false),(a55,.cells (flatC (v56.map encNode)) false),(a78,.cells (flatC (v79.map Value.string)) false),((some g76),.cells [(.slice (some ⟨g72,0,none⟩) 1 1),(.slice (some ⟨g74,0,none⟩) 2 2),(i64 (p0.port3%v38.length))] false),((some g72),.cells (flatC (([(p0.port0%v38.length)]:(List Nat)).map i64)) false),((some g74),.cells (flatC (([(p0.port1%v38.length),(p0.port2%v38.length)]:(List Nat)).map i64)) false),(a100,.cells (flatC (v101.map i64)) false)] h∧True) (fun (v107,_)=>[(1,(FP (encC p0))),(2,(.pointer (some ⟨g1,0,none⟩))),(3,(.pointer (some ⟨g3,0,none⟩))),(9,(i64 v38.length)),(12,(i64 v102)),(154,(.bool v107))]) rfl (fun hm'=>?_) ?_
         ·replace hm:=hm'
          apply Cs;(conv=>whnf);repeat(first|apply Cs|apply Hs|apply Hx);conv=>whnf
          refine⟨_,(rfl:aread _ _ _ _=some _),?_⟩;(conv=>whnf);repeat(first|apply Hs|apply Hx);conv=>whnf
          refine lenM (s:=1) (enc:=n8) (l:=p0.outs) rfl rfl ?_;(conv=>whnf);repeat(first|apply Hs|apply Hx);conv=>whnf
          refine⟨_,rfl,fun hc=>?_,fun hc=>?_⟩
          ·replace hm:=hm.1 hc;(conv=>whnf);repeat(first|apply Hs|apply Hx);conv=>whnf
           exact⟨((ltN v102 3),()),hm,⟨ha103,ha104,ha105,O,trivial⟩,VLe.refl _ _,VLe.refl _ _,VLe.refl _ _,VLe.refl _ _,VLe.refl _ _,VLe.refl _ _,trivial⟩
          ·replace hm:=hm.2 hc;(conv=>whnf);repeat(first|apply Hs|apply Hx);conv=>whnf
           exact⟨(false,()),hm,⟨ha103,ha104,ha105,O,trivial⟩,VLe.refl _ _,VLe.refl _ _,VLe.refl _ _,VLe.refl _ _,VLe.refl _ _,VLe.refl _ _,trivial⟩
         ·clear hm;rintro⟨v107,_⟩ base h hm ⟨ha108,ha109,ha110,O,_⟩
          ((conv=>whnf);repeat(first|apply Cs|apply Hs|apply Hx);conv=>whnf)
          refine⟨_,rfl,fun hc=>?_,fun hc=>?_⟩
          ·replace hm:=hm.1 hc
           apply Cs;(conv=>whnf);repeat(first|apply Cs|apply Hs|apply Hx);conv=>whnf
           refine⟨_,loadK rfl (O.at (.tail _ (.head _))) rfl rfl,?_⟩;(conv=>whnf);repeat(first|apply Hs|apply Hx);conv=>whnf
           first|refine⟨.inr (.inr (loadK rfl (O.at (.tail _ (.head _))) rfl rfl)),?_⟩|refine⟨.inr (.inl (by kernel_rfl)),?_⟩
           ((conv=>whnf);repeat(first|apply Cs|apply Hs|apply Hx);conv=>whnf)
           refine⟨_,(rfl:aread _ _ _ _=some _),?_⟩;(conv=>whnf);repeat(first|apply Hs|apply Hx);conv=>whnf
           first|refine⟨.inr (.inr (rfl)),?_⟩|refine⟨.inr (.inl (by kernel_rfl)),?_⟩
           ((conv=>whnf);repeat(first|apply Cs|apply Hs|apply Hx);conv=>whnf)
           obtain⟨x112,hx112,hm⟩:=hm
           refine flAtM (s:=1) (enc:=n8) (j:=v102) rfl rfl rfl rfl hx112 ?_;(conv=>whnf);repeat(first|apply Hs|apply Hx);conv=>whnf
           refine⟨_,(rfl:aread _ _ _ _=some _),?_⟩;(conv=>whnf);repeat(first|apply Hs|apply Hx);conv=>whnf
           refine⟨.inl rfl,?_⟩;(conv=>whnf);repeat(first|apply Hs|apply Hx);conv=>whnf
           refine⟨_,convIntK (a:=Int.ofNat x112) rfl rfl rfl (wrapI64 (Nat.lt_of_lt_of_le hm.1 (by decide))),?_⟩;(conv=>whnf);repeat(first|apply Hs|apply Hx);conv=>whnf
           refine⟨.inl rfl,?_⟩;(conv=>whnf);repeat(first|apply Hs|apply Hx);conv=>whnf
           replace hm:=hm.2
           refine⟨_,remK (a:=x112) (b:=v38.length) rfl rfl hm.1,?_⟩;(conv=>whnf);repeat(first|apply Hs|apply Hx);conv=>whnf
           replace hm:=hm.2
           refine O.buildLX (l:=([(x112%v38.length)]:(List Nat))) (enc:=i64) (s:=1) (z:=(i64 0)) rfl rfl (by kernel_rfl) (by kernel_rfl) rfl rfl rfl rfl (fun _=>rfl) fun g113 h O=>?_;(conv=>whnf);repeat(first|apply Hs|apply Hx);conv=>whnf
           refine O.appendL (enc:=i64) (l:=v101) (new:=([(x112%v38.length)]:(List Nat))) (s:=1) (b:=8) (.tail _ (.tail _ (.tail _ (.tail _ (.tail _ (.tail _ (.tail _ (.tail _ (.head _))))))))) ha110 rfl rfl rfl rfl rfl rfl rfl rfl (YOk.own (O.at (.head _)) rfl (fun _=>rfl) rfl) (fun _=>rfl) (fun _=>rfl) (by decide) hm.1 fun a115 h ha116 O=>?_;(conv=>whnf);repeat(first|apply Hs|apply Hx);conv=>whnf
           refine⟨.inl rfl,?_⟩;(conv=>whnf);repeat(first|apply Hs|apply Hx);conv=>whnf
           replace hm:=hm.2
           refine O.store (n:=1) (cs':=[(growV 4 a55 (v56.map encNode)),(growV 1 a78 (v79.map Value.string)),(.slice (some ⟨g76,0,none⟩) 1 1),(growV 1 a115 ((v101++([(x112%v38.length)]:(List Nat))).map i64))]) (.tail _ (.tail _ (.head _))) rfl rfl rfl rfl (lbE rfl) rfl rfl fun h O=>?_;(conv=>whnf);repeat(first|apply Hs|apply Hx);conv=>whnf
           refine⟨.inl rfl,?_⟩;(conv=>whnf);repeat(first|apply Hs|apply Hx);conv=>whnf
           apply Cs;(conv=>whnf);repeat(first|apply Cs|apply Hs|apply Hx);conv=>whnf
           refine⟨_,addK (a:=v102) (b:=1) rfl rfl hm.1,?_⟩;(conv=>whnf);repeat(first|apply Hs|apply Hx);conv=>whnf
           replace hm:=hm.2
           exact⟨(((v101++([(x112%v38.length)]:(List Nat))),(v102+1)),a115),hm,⟨ha108,ha109,ha116,(O.sel [1,2,3,4,5,6,7,8] (by decide)),trivial⟩,VLe.refl _ _,VLe.refl _ _,VLe.refl _ _,VLe.refl _ _,VLe.refl _ _,trivial⟩
          ·replace hm:=hm.2 hc
           apply Cs;(conv=>whnf);repeat(first|apply Cs|apply Hs|apply Hx);conv=>whnf
           exact⟨(v101,a100),hm,⟨ha108,ha109,ha110,O,trivial⟩,VLe.refl _ _,VLe.refl _ _,VLe.refl _ _,trivial⟩
        ·clear hm;rintro⟨v95,a94⟩ base h hm ⟨ha96,ha97,ha98,O,_⟩
         ((conv=>whnf);repeat(first|apply Cs|apply Hs|apply Hx);conv=>whnf)
         refine⟨_,loadK rfl (O.at (.tail _ (.head _))) rfl rfl,?_⟩;(conv=>whnf);repeat(first|apply Hs|apply Hx);conv=>whnf
         refine⟨_,subK (a:=v38.length) (b:=1) rfl rfl hm.1 hm.2.1,?_⟩;(conv=>whnf);repeat(first|apply Hs|apply Hx);conv=>whnf
         replace hm:=hm.2.2
         refine NewG.frz rfl ?_;(conv=>whnf);repeat(first|apply Hs|apply Hx);conv=>whnf
         refine O.appendL (enc:=i64) (l:=v95) (new:=([(v38.length-1)]:(List Nat))) (s:=1) (b:=8) (.tail _ (.tail _ (.tail _ (.tail _ (.tail _ (.tail _ (.tail _ (.head _)))))))) ha98 rfl rfl rfl rfl rfl rfl rfl rfl (YOk.fl rfl) (fun _=>rfl) (fun _=>rfl) (by decide) hm.1 fun a117 h ha118 O=>?_;(conv=>whnf);repeat(first|apply Hs|apply Hx);conv=>whnf
         replace hm:=hm.2
         refine O.store (n:=1) (cs':=[(growV 4 a55 (v56.map encNode)),(growV 1 a78 (v79.map Value.string)),(.slice (some ⟨g76,0,none⟩) 1 1),(growV 1 a117 ((v95++([(v38.length-1)]:(List Nat))).map i64))]) (.tail _ (.head _)) rfl rfl rfl rfl (lbE rfl) rfl rfl fun h O=>?_;(conv=>whnf);repeat(first|apply Cs|apply Hs|apply Hx);conv=>whnf
         refine⟨_,loadAggK rfl (O.at (.tail _ (.head _))) rfl rfl (lbE rfl) rfl,?_⟩;(conv=>whnf);repeat(first|apply Hs|apply Hx);conv=>whnf
         refine O.store (n:=4) (cs':=[(growV 4 a55 (v56.map encNode)),(growV 1 a78 (v79.map Value.string)),(.slice (some ⟨g76,0,none⟩) 1 1),(growV 1 a117 ((v95++([(v38.length-1)]:(List Nat))).map i64))]) (.head _) rfl rfl rfl rfl (lbE rfl) rfl rfl fun h O=>?_;(conv=>whnf);repeat(first|apply Cs|apply Hs|apply Hx);conv=>whnf
         refine⟨_,resAggK rfl rfl (O.at (.head _)) rfl rfl (lbE rfl) rfl,?_⟩;conv=>whnf
         obtain⟨hn119,hn120,hn121,hn122,hm⟩:=hm
         exact⟨(⟨v56,v79,[(⟨([(p0.port0%v38.length)]:(List Nat)),([(p0.port1%v38.length),(p0.port2%v38.length)]:(List Nat)),(p0.port3%v38.length)⟩:Memo)],(v95++([(v38.length-1)]:(List Nat)))⟩:Circ),hm,O.ext,fun h2 F=>VLe.agg (LLe.cons (O.grownL F (Nat.le_refl _) (.tail _ (.tail _ (.head _))) ha96 (fun _=>rfl)) (LLe.cons (O.grownL F (Nat.le_refl _) (.tail _ (.tail _ (.tail _ (.head _)))) ha97 (fun _=>rfl)) (LLe.cons (O.cellsFL (es:=([(⟨([(p0.port0%v38.length)]:(List Nat)),([(p0.port1%v38.length),(p0.port2%v38.length)]:(List Nat)),(p0.port3%v38.length)⟩:Memo)]:(List Memo)).map encMem) F (Nat.le_refl _) (.tail _ (.tail _ (.tail _ (.tail _ (.head _))))) rfl (map_size (enc:=encMem) (s:=3) (fun _=>rfl) _) rfl (LLe.cons (O.flatL F (Nat.le_refl _) (.tail _ (.tail _ (.tail _ (.tail _ (.tail _ (.head _)))))) (fun _=>rfl) hn121) (LLe.cons (O.flatL F (Nat.le_refl _) (.tail _ (.tail _ (.tail _ (.tail _ (.tail _ (.tail _ (.head _))))))) (fun _=>rfl) hn122) (LLe.cons (VLe.refl _ _) (LLe.nil _))))) (LLe.cons (O.grownL F (Nat.le_refl _) (.tail _ (.tail _ (.tail _ (.tail _ (.tail _ (.tail _ (.tail _ (.head _)))))))) ha118 (fun _=>rfl)) (LLe.nil _)))))⟩
      ·replace hm:=hm.2 hc
       apply Cs;conv=>whnf
       refine CodeS.joinWS hm (nn:=178) (σ:=(List ByteArray)×Option Nat) (fun s=>s.1) (fun (v124,a123) h=>(a55=none→v56=[])∧(a123=none→v124=[])∧Own vars h0 [((some g1),.cells [(.slice none 0 0),(.slice none 0 0),(.slice none 0 0),(.slice none 0 0)] false),((some g3),.cells [(growV 4 a55 (v56.map encNode)),(growV 1 a123 (v124.map Value.string)),(growV 3 none (([]:List Memo).map encMem)),(growV 1 none (([]:List Nat).map i64))] false),(a55,.cells (flatC (v56.map encNode)) false),(a123,.cells (flatC (v124.map Value.string)) false),(none,.cells (flatC (([]:List Memo).map encMem)) false),(none,.cells (flatC (([]:List Nat).map i64)) false)] h∧True) (fun (v124,a123)=>[(1,(FP (encC p0))),(2,(.pointer (some ⟨g1,0,none⟩))),(3,(.pointer (some ⟨g3,0,none⟩))),(9,(i64 v38.length))]) rfl (fun hm'=>?_) ?_
       ·replace hm:=hm'
        apply Cs;(conv=>whnf);repeat(first|apply Cs|apply Hs|apply Hx);conv=>whnf
        refine loopWK hM (by kernel_rfl) (nn:=178) (S:=((List ByteArray)×Nat)) (σ:=((List ByteArray)×Nat)×Option Nat) (fun s=>s.1) (fun ((v129,v130),a128) h=>(a55=none→v56=[])∧(a128=none→v129=[])∧Own vars h0 [((some g1),.cells [(.slice none 0 0),(.slice none 0 0),(.slice none 0 0),(.slice none 0 0)] false),((some g3),.cells [(growV 4 a55 (v56.map encNode)),(growV 1 a128 (v129.map Value.string)),(growV 3 none (([]:List Memo).map encMem)),(growV 1 none (([]:List Nat).map i64))] false),(a55,.cells (flatC (v56.map encNode)) false),(a128,.cells (flatC (v129.map Value.string)) false),(none,.cells (flatC (([]:List Memo).map encMem)) false),(none,.cells (flatC (([]:List Nat).map i64)) false)] h∧True) (fun ((v129,v130),a128)=>[(1,(FP (encC p0))),(2,(.pointer (some ⟨g1,0,none⟩))),(3,(.pointer (some ⟨g3,0,none⟩))),(9,(i64 v38.length)),(11,(i64 v130))]) rfl ((([]:List ByteArray),0),none) hm ⟨ha57,(fun _=>rfl),O,trivial⟩ ⟨VLe.refl _ _,VLe.refl _ _,VLe.refl _ _,VLe.refl _ _,VLe.refl _ _,trivial⟩ ?_
        clear hm;rintro⟨⟨v129,v130⟩,a128⟩ nx133 base h hm ⟨ha131,ha132,O,_⟩
        ((conv=>whnf);repeat(first|apply Cs|apply Hs|apply Hx);conv=>whnf)
        refine⟨_,rfl,fun hc=>?_,fun hc=>?_⟩
        ·replace hm:=hm.1 hc
         apply Cs;(conv=>whnf);repeat(first|apply Cs|apply Hs|apply Hx);conv=>whnf
         refine⟨_,loadK rfl (O.at (.tail _ (.head _))) rfl rfl,?_⟩;(conv=>whnf);repeat(first|apply Hs|apply Hx);conv=>whnf
         first|refine⟨.inr (.inr (loadK rfl (O.at (.tail _ (.head _))) rfl rfl)),?_⟩|refine⟨.inr (.inl (by kernel_rfl)),?_⟩
         ((conv=>whnf);repeat(first|apply Cs|apply Hs|apply Hx);conv=>whnf)
         obtain⟨r134,hm,hcall⟩:=law03_name_walk hm O.has
         refine⟨_,_,hcall,?_⟩;(conv=>whnf);repeat(first|apply Hs|apply Hx);conv=>whnf
         refine⟨.inl (Ext.refl _),?_⟩;(conv=>whnf);repeat(first|apply Hs|apply Hx);conv=>whnf
         refine O.buildLX (l:=([r134]:(List ByteArray))) (enc:=Value.string) (s:=1) (z:=(.string (⟨#[]⟩:ByteArray))) rfl rfl (by kernel_rfl) (by kernel_rfl) rfl rfl rfl rfl (fun _=>rfl) fun g135 h O=>?_;(conv=>whnf);repeat(first|apply Hs|apply Hx);conv=>whnf
         refine O.appendL (enc:=Value.string) (l:=v129) (new:=([r134]:(List ByteArray))) (s:=1) (b:=16) (.tail _ (.tail _ (.tail _ (.tail _ (.head _))))) ha132 rfl rfl rfl rfl rfl rfl rfl rfl (YOk.own (O.at (.head _)) rfl (fun _=>rfl) rfl) (fun _=>rfl) (fun _=>rfl) (by decide) hm.1 fun a137 h ha138 O=>?_;(conv=>whnf);repeat(first|apply Hs|apply Hx);conv=>whnf
         refine⟨.inl rfl,?_⟩;(conv=>whnf);repeat(first|apply Hs|apply Hx);conv=>whnf
         replace hm:=hm.2
         refine O.store (n:=1) (cs':=[(growV 4 a55 (v56.map encNode)),(growV 1 a137 ((v129++([r134]:(List ByteArray))).map Value.string)),(growV 3 none (([]:List Memo).map encMem)),(growV 1 none (([]:List Nat).map i64))]) (.tail _ (.tail _ (.head _))) rfl rfl rfl rfl (lbE rfl) rfl rfl fun h O=>?_;(conv=>whnf);repeat(first|apply Hs|apply Hx);conv=>whnf
         refine⟨.inl rfl,?_⟩;(conv=>whnf);repeat(first|apply Hs|apply Hx);conv=>whnf
         apply Cs;(conv=>whnf);repeat(first|apply Cs|apply Hs|apply Hx);conv=>whnf
         refine⟨_,addK (a:=v130) (b:=1) rfl rfl hm.1,?_⟩;(conv=>whnf);repeat(first|apply Hs|apply Hx);conv=>whnf
         replace hm:=hm.2
         exact⟨(((v129++([r134]:(List ByteArray))),(v130+1)),a137),hm,⟨ha131,ha138,(O.sel [1,2,3,4,5,6] (by decide)),trivial⟩,VLe.refl _ _,VLe.refl _ _,VLe.refl _ _,VLe.refl _ _,VLe.refl _ _,trivial⟩
        ·replace hm:=hm.2 hc
         apply Cs;(conv=>whnf);repeat(first|apply Cs|apply Hs|apply Hx);conv=>whnf
         exact⟨(v129,a128),hm,⟨ha131,ha132,O,trivial⟩,VLe.refl _ _,VLe.refl _ _,VLe.refl _ _,VLe.refl _ _,trivial⟩
       ·clear hm;rintro⟨v124,a123⟩ base h hm ⟨ha125,ha126,O,_⟩
        conv=>whnf
        refine CodeS.joinWS hm (nn:=178) (σ:=(List Nat)×Option Nat) (fun s=>s.1) (fun (v140,a139) h=>(a55=none→v56=[])∧(a123=none→v124=[])∧(a139=none→v140=[])∧Own vars h0 [((some g1),.cells [(.slice none 0 0),(.slice none 0 0),(.slice none 0 0),(.slice none 0 0)] false),((some g3),.cells [(growV 4 a55 (v56.map encNode)),(growV 1 a123 (v124.map Value.string)),(growV 3 none (([]:List Memo).map encMem)),(growV 1 a139 (v140.map i64))] false),(a55,.cells (flatC (v56.map encNode)) false),(a123,.cells (flatC (v124.map Value.string)) false),(none,.cells (flatC (([]:List Memo).map encMem)) false),(a139,.cells (flatC (v140.map i64)) false)] h∧True) (fun (v140,a139)=>[(2,(.pointer (some ⟨g1,0,none⟩))),(3,(.pointer (some ⟨g3,0,none⟩))),(9,(i64 v38.length))]) rfl (fun hm'=>?_) ?_
        ·replace hm:=hm'
         apply Cs;(conv=>whnf);repeat(first|apply Cs|apply Hs|apply Hx);conv=>whnf
         refine loopWK hM (by kernel_rfl) (nn:=178) (S:=((List Nat)×Nat)) (σ:=((List Nat)×Nat)×Option Nat) (fun s=>s.1) (fun ((v146,v147),a145) h=>(a55=none→v56=[])∧(a123=none→v124=[])∧(a145=none→v146=[])∧Own vars h0 [((some g1),.cells [(.slice none 0 0),(.slice none 0 0),(.slice none 0 0),(.slice none 0 0)] false),((some g3),.cells [(growV 4 a55 (v56.map encNode)),(growV 1 a123 (v124.map Value.string)),(growV 3 none (([]:List Memo).map encMem)),(growV 1 a145 (v146.map i64))] false),(a55,.cells (flatC (v56.map encNode)) false),(a123,.cells (flatC (v124.map Value.string)) false),(none,.cells (flatC (([]:List Memo).map encMem)) false),(a145,.cells (flatC (v146.map i64)) false)] h∧True) (fun ((v146,v147),a145)=>[(1,(FP (encC p0))),(2,(.pointer (some ⟨g1,0,none⟩))),(3,(.pointer (some ⟨g3,0,none⟩))),(9,(i64 v38.length)),(12,(i64 v147))]) rfl ((([]:List Nat),0),none) hm ⟨ha125,ha126,(fun _=>rfl),O,trivial⟩ ⟨VLe.refl _ _,VLe.refl _ _,VLe.refl _ _,VLe.refl _ _,VLe.refl _ _,trivial⟩ ?_
         clear hm;rintro⟨⟨v146,v147⟩,a145⟩ nx151 base h hm ⟨ha148,ha149,ha150,O,_⟩
         conv=>whnf
         apply Cs;conv=>whnf
         refine CodeS.joinWS hm (nn:=178) (σ:=Bool×Unit) (fun s=>s.1) (fun (v152,_) h=>(a55=none→v56=[])∧(a123=none→v124=[])∧(a145=none→v146=[])∧Own vars h0 [((some g1),.cells [(.slice none 0 0),(.slice none 0 0),(.slice none 0 0),(.slice none 0 0)] false),((some g3),.cells [(growV 4 a55 (v56.map encNode)),(growV 1 a123 (v124.map Value.string)),(growV 3 none (([]:List Memo).map encMem)),(growV 1 a145 (v146.map i64))] false),(a55,.cells (flatC (v56.map encNode)) false),(a123,.cells (flatC (v124.map Value.string)) false),(none,.cells (flatC (([]:List Memo).map encMem)) false),(a145,.cells (flatC (v146.map i64)) false)] h∧True) (fun (v152,_)=>[(1,(FP (encC p0))),(2,(.pointer (some ⟨g1,0,none⟩))),(3,(.pointer (some ⟨g3,0,none⟩))),(9,(i64 v38.length)),(12,(i64 v147)),(154,(.bool v152))]) rfl (fun hm'=>?_) ?_
         ·replace hm:=hm'
          apply Cs;(conv=>whnf);repeat(first|apply Cs|apply Hs|apply Hx);conv=>whnf
          refine⟨_,(rfl:aread _ _ _ _=some _),?_⟩;(conv=>whnf);repeat(first|apply Hs|apply Hx);conv=>whnf
          refine lenM (s:=1) (enc:=n8) (l:=p0.outs) rfl rfl ?_;(conv=>whnf);repeat(first|apply Hs|apply Hx);conv=>whnf
          refine⟨_,rfl,fun hc=>?_,fun hc=>?_⟩
          ·replace hm:=hm.1 hc;(conv=>whnf);repeat(first|apply Hs|apply Hx);conv=>whnf
           exact⟨((ltN v147 3),()),hm,⟨ha148,ha149,ha150,O,trivial⟩,VLe.refl _ _,VLe.refl _ _,VLe.refl _ _,VLe.refl _ _,VLe.refl _ _,VLe.refl _ _,trivial⟩
          ·replace hm:=hm.2 hc;(conv=>whnf);repeat(first|apply Hs|apply Hx);conv=>whnf
           exact⟨(false,()),hm,⟨ha148,ha149,ha150,O,trivial⟩,VLe.refl _ _,VLe.refl _ _,VLe.refl _ _,VLe.refl _ _,VLe.refl _ _,VLe.refl _ _,trivial⟩
         ·clear hm;rintro⟨v152,_⟩ base h hm ⟨ha153,ha154,ha155,O,_⟩
          ((conv=>whnf);repeat(first|apply Cs|apply Hs|apply Hx);conv=>whnf)
          refine⟨_,rfl,fun hc=>?_,fun hc=>?_⟩
          ·replace hm:=hm.1 hc
           apply Cs;(conv=>whnf);repeat(first|apply Cs|apply Hs|apply Hx);conv=>whnf
           refine⟨_,loadK rfl (O.at (.tail _ (.head _))) rfl rfl,?_⟩;(conv=>whnf);repeat(first|apply Hs|apply Hx);conv=>whnf
           first|refine⟨.inr (.inr (loadK rfl (O.at (.tail _ (.head _))) rfl rfl)),?_⟩|refine⟨.inr (.inl (by kernel_rfl)),?_⟩
           ((conv=>whnf);repeat(first|apply Cs|apply Hs|apply Hx);conv=>whnf)
           refine⟨_,(rfl:aread _ _ _ _=some _),?_⟩;(conv=>whnf);repeat(first|apply Hs|apply Hx);conv=>whnf
           first|refine⟨.inr (.inr (rfl)),?_⟩|refine⟨.inr (.inl (by kernel_rfl)),?_⟩
           ((conv=>whnf);repeat(first|apply Cs|apply Hs|apply Hx);conv=>whnf)
           obtain⟨x157,hx157,hm⟩:=hm
           refine flAtM (s:=1) (enc:=n8) (j:=v147) rfl rfl rfl rfl hx157 ?_;(conv=>whnf);repeat(first|apply Hs|apply Hx);conv=>whnf
           refine⟨_,(rfl:aread _ _ _ _=some _),?_⟩;(conv=>whnf);repeat(first|apply Hs|apply Hx);conv=>whnf
           refine⟨.inl rfl,?_⟩;(conv=>whnf);repeat(first|apply Hs|apply Hx);conv=>whnf
           refine⟨_,convIntK (a:=Int.ofNat x157) rfl rfl rfl (wrapI64 (Nat.lt_of_lt_of_le hm.1 (by decide))),?_⟩;(conv=>whnf);repeat(first|apply Hs|apply Hx);conv=>whnf
           refine⟨.inl rfl,?_⟩;(conv=>whnf);repeat(first|apply Hs|apply Hx);conv=>whnf
           replace hm:=hm.2
           refine⟨_,remK (a:=x157) (b:=v38.length) rfl rfl hm.1,?_⟩;(conv=>whnf);repeat(first|apply Hs|apply Hx);conv=>whnf
           replace hm:=hm.2
           refine O.buildLX (l:=([(x157%v38.length)]:(List Nat))) (enc:=i64) (s:=1) (z:=(i64 0)) rfl rfl (by kernel_rfl) (by kernel_rfl) rfl rfl rfl rfl (fun _=>rfl) fun g158 h O=>?_;(conv=>whnf);repeat(first|apply Hs|apply Hx);conv=>whnf
           refine O.appendL (enc:=i64) (l:=v146) (new:=([(x157%v38.length)]:(List Nat))) (s:=1) (b:=8) (.tail _ (.tail _ (.tail _ (.tail _ (.tail _ (.tail _ (.head _))))))) ha155 rfl rfl rfl rfl rfl rfl rfl rfl (YOk.own (O.at (.head _)) rfl (fun _=>rfl) rfl) (fun _=>rfl) (fun _=>rfl) (by decide) hm.1 fun a160 h ha161 O=>?_;(conv=>whnf);repeat(first|apply Hs|apply Hx);conv=>whnf
           refine⟨.inl rfl,?_⟩;(conv=>whnf);repeat(first|apply Hs|apply Hx);conv=>whnf
           replace hm:=hm.2
           refine O.store (n:=1) (cs':=[(growV 4 a55 (v56.map encNode)),(growV 1 a123 (v124.map Value.string)),(growV 3 none (([]:List Memo).map encMem)),(growV 1 a160 ((v146++([(x157%v38.length)]:(List Nat))).map i64))]) (.tail _ (.tail _ (.head _))) rfl rfl rfl rfl (lbE rfl) rfl rfl fun h O=>?_;(conv=>whnf);repeat(first|apply Hs|apply Hx);conv=>whnf
           refine⟨.inl rfl,?_⟩;(conv=>whnf);repeat(first|apply Hs|apply Hx);conv=>whnf
           apply Cs;(conv=>whnf);repeat(first|apply Cs|apply Hs|apply Hx);conv=>whnf
           refine⟨_,addK (a:=v147) (b:=1) rfl rfl hm.1,?_⟩;(conv=>whnf);repeat(first|apply Hs|apply Hx);conv=>whnf
           replace hm:=hm.2
           exact⟨(((v146++([(x157%v38.length)]:(List Nat))),(v147+1)),a160),hm,⟨ha153,ha154,ha161,(O.sel [1,2,3,4,5,6] (by decide)),trivial⟩,VLe.refl _ _,VLe.refl _ _,VLe.refl _ _,VLe.refl _ _,VLe.refl _ _,trivial⟩
          ·replace hm:=hm.2 hc
           apply Cs;(conv=>whnf);repeat(first|apply Cs|apply Hs|apply Hx);conv=>whnf
           exact⟨(v146,a145),hm,⟨ha153,ha154,ha155,O,trivial⟩,VLe.refl _ _,VLe.refl _ _,VLe.refl _ _,trivial⟩
        ·clear hm;rintro⟨v140,a139⟩ base h hm ⟨ha141,ha142,ha143,O,_⟩
         ((conv=>whnf);repeat(first|apply Cs|apply Hs|apply Hx);conv=>whnf)
         refine⟨_,loadK rfl (O.at (.tail _ (.head _))) rfl rfl,?_⟩;(conv=>whnf);repeat(first|apply Hs|apply Hx);conv=>whnf
         refine⟨_,subK (a:=v38.length) (b:=1) rfl rfl hm.1 hm.2.1,?_⟩;(conv=>whnf);repeat(first|apply Hs|apply Hx);conv=>whnf
         replace hm:=hm.2.2
         refine NewG.frz rfl ?_;(conv=>whnf);repeat(first|apply Hs|apply Hx);conv=>whnf
         refine O.appendL (enc:=i64) (l:=v140) (new:=([(v38.length-1)]:(List Nat))) (s:=1) (b:=8) (.tail _ (.tail _ (.tail _ (.tail _ (.tail _ (.head _)))))) ha143 rfl rfl rfl rfl rfl rfl rfl rfl (YOk.fl rfl) (fun _=>rfl) (fun _=>rfl) (by decide) hm.1 fun a162 h ha163 O=>?_;(conv=>whnf);repeat(first|apply Hs|apply Hx);conv=>whnf
         replace hm:=hm.2
         refine O.store (n:=1) (cs':=[(growV 4 a55 (v56.map encNode)),(growV 1 a123 (v124.map Value.string)),(growV 3 none (([]:List Memo).map encMem)),(growV 1 a162 ((v140++([(v38.length-1)]:(List Nat))).map i64))]) (.tail _ (.head _)) rfl rfl rfl rfl (lbE rfl) rfl rfl fun h O=>?_;(conv=>whnf);repeat(first|apply Cs|apply Hs|apply Hx);conv=>whnf
         refine⟨_,loadAggK rfl (O.at (.tail _ (.head _))) rfl rfl (lbE rfl) rfl,?_⟩;(conv=>whnf);repeat(first|apply Hs|apply Hx);conv=>whnf
         refine O.store (n:=4) (cs':=[(growV 4 a55 (v56.map encNode)),(growV 1 a123 (v124.map Value.string)),(growV 3 none (([]:List Memo).map encMem)),(growV 1 a162 ((v140++([(v38.length-1)]:(List Nat))).map i64))]) (.head _) rfl rfl rfl rfl (lbE rfl) rfl rfl fun h O=>?_;(conv=>whnf);repeat(first|apply Cs|apply Hs|apply Hx);conv=>whnf
         refine⟨_,resAggK rfl rfl (O.at (.head _)) rfl rfl (lbE rfl) rfl,?_⟩;conv=>whnf
         exact⟨(⟨v56,v124,([]:List Memo),(v140++([(v38.length-1)]:(List Nat)))⟩:Circ),hm,O.ext,fun h2 F=>VLe.agg (LLe.cons (O.grownL F (Nat.le_refl _) (.tail _ (.tail _ (.head _))) ha141 (fun _=>rfl)) (LLe.cons (O.grownL F (Nat.le_refl _) (.tail _ (.tail _ (.tail _ (.head _)))) ha142 (fun _=>rfl)) (LLe.cons (O.grownL F (Nat.le_refl _) (.tail _ (.tail _ (.tail _ (.tail _ (.head _))))) (fun _=>rfl) (fun _=>rfl)) (LLe.cons (O.grownL F (Nat.le_refl _) (.tail _ (.tail _ (.tail _ (.tail _ (.tail _ (.head _)))))) ha163 (fun _=>rfl)) (LLe.nil _)))))⟩
def law24_Plain_wp (p0:CData) (K:Circ→Prop):Prop :=
 law03_Of_wp (⟨p0.inp,p0.dffs,p0.data0,p0.data1,false,false,p0.port0,p0.port1,p0.port2,p0.port3,p0.gates,p0.outs⟩:CData) (fun r5=>K r5)
theorem law24_Plain_walk {p0:CData}{K:Circ→Prop} (hm:law24_Plain_wp p0 K) {h0:Heap} (hB:HasB vars h0):∃ r,K r∧CallD Tryz.prog NG 20 ⟨[encC p0]⟩ h0 (encCirc r) h0:=by
 unfold law24_Plain_wp at hm
 refine fnW hM Tryz.func20 rfl (hP _ _ rfl Tryz.func20) (lbE rfl) hB (enc:=encCirc) (fun r=>pure_circ _) fun O=>?_;conv=>whnf
 apply Cs;(conv=>whnf);repeat(first|apply Cs|apply Hs|apply Hx);conv=>whnf
 refine O.new (boxK rfl) fun g1 h O=>?_;(conv=>whnf);repeat(first|apply Hs|apply Hx);conv=>whnf
 refine O.new (anew_alloc (l:=[(.slice none 0 0),(.slice none 0 0),(.slice none 0 0),(.slice none 0 0)]) rfl rfl rfl) fun g3 h O=>?_;(conv=>whnf);repeat(first|apply Hs|apply Hx);conv=>whnf
 apply Cs;(conv=>whnf);repeat(first|apply Cs|apply Hs|apply Hx);conv=>whnf
 refine O.store (n:=1) (cs':=[(n8 p0.inp),(n8 p0.dffs),(n8 p0.data0),(n8 p0.data1),(.bool false),(.bool p0.mem),(n8 p0.port0),(n8 p0.port1),(n8 p0.port2),(n8 p0.port3),((encL 4 encG) p0.gates),((encL 1 n8) p0.outs)]) (.tail _ (.head _)) rfl rfl rfl rfl (lbE rfl) rfl rfl fun h O=>?_;(conv=>whnf);repeat(first|apply Cs|apply Hs|apply Hx);conv=>whnf
 refine O.store (n:=1) (cs':=[(n8 p0.inp),(n8 p0.dffs),(n8 p0.data0),(n8 p0.data1),(.bool false),(.bool false),(n8 p0.port0),(n8 p0.port1),(n8 p0.port2),(n8 p0.port3),((encL 4 encG) p0.gates),((encL 1 n8) p0.outs)]) (.tail _ (.head _)) rfl rfl rfl rfl (lbE rfl) rfl rfl fun h O=>?_;(conv=>whnf);repeat(first|apply Cs|apply Hs|apply Hx);conv=>whnf
 refine⟨_,loadAggK rfl (O.at (.tail _ (.head _))) rfl rfl (lbE rfl) rfl,?_⟩;(conv=>whnf);repeat(first|apply Hs|apply Hx);conv=>whnf
 obtain⟨r5,hm,hcall⟩:=law03_Of_walk hm O.has
 refine⟨_,_,hcall,?_⟩;(conv=>whnf);repeat(first|apply Hs|apply Hx);conv=>whnf
 refine O.store (n:=4) (cs':=[((encL 4 encNode) r5.nodes),((encL 1 Value.string) r5.names),((encL 3 encMem) r5.mems),((encL 1 i64) r5.outs)]) (.head _) rfl rfl rfl rfl (lbE rfl) rfl rfl fun h O=>?_;(conv=>whnf);repeat(first|apply Cs|apply Hs|apply Hx);conv=>whnf
 refine⟨_,resAggK rfl rfl (O.at (.head _)) rfl rfl (lbE rfl) rfl,?_⟩;conv=>whnf
 exact⟨r5,hm,O.ext,fun h2 F=>VLe.refl _ _⟩
theorem updN_length {first:Nat}{d:Nat→Nat}{ns:List Node}:∀ i,(updN first d i ns).length=ns.length
 |0=>rfl
 |i+1=>by rw[updN,List.length_set,updN_length i]
theorem updN_get {first:Nat}{d:Nat→Nat}{ns:List Node}{j:Nat}:∀ {i},first+i≤j→(updN first d i ns)[j]?=ns[j]?
 |0,_=>rfl
 |i+1,h=>by
  rw[updN,List.getElem?_set_ne (by omega)]
  exact updN_get (by omega)
theorem rawN_pos' (x:CData):0<(rawN x).length:=by
 rw[rawN_length];omega
theorem rawN_le' {x:CData} (hm:x.mem=false):(rawN x).length≤14:=by
 rw[rawN_length,hm]
 have:=Nat.mod_lt x.inp (show 0<4 by decide)
 have:=Nat.mod_lt x.dffs (show 0<3 by decide)
 have:=Nat.min_le_right x.gates.length 8
 simp only[Bool.false_eq_true,if_false]
 omega
theorem joinB {α:Type}{a:α}{first:(α→Prop)→Prop}{rest:α→Prop} (h1:rest a→first rest) (h2:rest a):joinW first rest:=h1 h2
structure CB (x:CData):Prop where
 inp:x.inp<256
 dffs:x.dffs<256
 data0:x.data0<256
 data1:x.data1<256
 port0:x.port0<256
 port1:x.port1<256
 port2:x.port2<256
 port3:x.port3<256
 gates:∀ g∈x.gates,GOk g
 outs:∀ o∈x.outs,o<256
theorem names_loop {n:Nat} (hn:n≤16) {rest:List ByteArray→Prop} (h:rest ((List.range n).map nameB)) :
  joinW (α:=(List ByteArray)) (fun k=>loopW (S:=((List ByteArray)×Nat)) (fun (v,i) nx=>((ltN i n)=true→law03_name_wp i (fun r=>(v.length+([r]:(List ByteArray)).length)*16≤2 ^ 47∧i+1<2 ^ 63∧nx ((v++([r]:(List ByteArray))),(i+1))))∧((ltN i n)=false→k v)) (([]:List ByteArray),0)) rest:=by
 refine joinLoop (fun s=>s.2≤n∧s.1=(List.range s.2).map nameB) (fun s=>n-s.2) (fun a=>a=(List.range n).map nameB) ?_ ⟨Nat.zero_le _,rfl⟩ (fun a e=>by rw[e];exact h)
 rintro k ⟨l,i⟩ nx ⟨hi,hl⟩ hnx hk
 dsimp only at hi hl
 subst hl
 refine⟨fun q=>?_,fun q=>?_⟩
 ·have q:=lt_t.1 q
  try dsimp only at q
  refine⟨by omega,by simp only[List.length_map,List.length_range,List.length_singleton];omega,by omega,hnx _ ⟨by dsimp only;omega,?_⟩ (by dsimp only;omega)⟩
  dsimp only
  rw[List.range_succ,List.map_append];rfl
 ·have q:=lt_f.1 q
  try dsimp only at q
  have:i=n:=by omega
  subst this
  exact hk _ rfl
theorem outs_loop {n:Nat} (hpos:0<n) {outs:List Nat} (ho:∀ o∈outs,o<256) {rest:List Nat→Prop} (h:rest ((outs.take 3).map (· % n))) :
  joinW (α:=(List Nat)) (fun k=>loopW (S:=((List Nat)×Nat)) (fun (v,i) nx=>joinW (α:=Bool) (fun k2=>((ltN i outs.length)=true→k2 (ltN i 3))∧((ltN i outs.length)=false→k2 false)) (fun w=>(w=true→∃ x,outs[i]?=some x∧x<256∧0<n∧(v.length+([(x%n)]:(List Nat)).length)*8≤2 ^ 47∧i+1<2 ^ 63∧nx ((v++([(x%n)]:(List Nat))),(i+1)))∧(w=false→k v))) (([]:List Nat),0)) rest:=by
 refine joinLoop (fun s=>s.2≤min outs.length 3∧s.1=(outs.take s.2).map (· % n)) (fun s=>min outs.length 3-s.2) (fun a=>a=(outs.take 3).map (· % n)) ?_ ⟨Nat.zero_le _,by simp⟩ (fun a e=>by rw[e];exact h)
 rintro k ⟨l,i⟩ nx ⟨hi,hl⟩ hnx hk
 dsimp only at hi hl
 subst hl
 have hi3:i≤3:=Nat.le_trans hi (Nat.min_le_right _ _)
 have hil:i≤outs.length:=Nat.le_trans hi (Nat.min_le_left _ _)
 have hlen:((outs.take i).map (· % n)).length=i:=by rw[List.length_map,List.length_take];omega
 have stop:¬ (i<outs.length∧i<3)→k ((outs.take i).map (· % n)):=fun q=>by
  refine hk _ ?_
  by_cases c:i=3
  ·rw[c]
  ·rw[List.take_of_length_le (by omega),List.take_of_length_le (by omega)]
 refine joinI ⟨fun q=>⟨fun q2=>?_,fun q2=>stop fun e=>absurd e.2 (by have:=lt_f.1 q2;omega)⟩,fun q=>⟨(fun e=>by cases e),fun _=>stop fun e=>absurd e.1 (by have:=lt_f.1 q;(try dsimp only at this);omega)⟩⟩
 have q:=lt_t.1 q
 have q2:=lt_t.1 q2
 try dsimp only at q q2
 obtain⟨o,hoo⟩:=get_lt q
 obtain⟨l1,l2⟩:=List.getElem?_eq_some_iff.1 hoo
 refine⟨o,hoo,ho _ (List.mem_of_getElem? hoo),hpos,by rw[hlen];simp only[List.length_singleton];omega,by omega,hnx _ ⟨by dsimp only;omega,?_⟩ (by dsimp only;omega)⟩
 dsimp only
 rw[List.take_succ_eq_append_getElem l1,l2,List.map_append];rfl
theorem of_circ_vc {x:CData}{K:Circ→Prop} (hx:CB x) (h:K (circN x)):law03_Of_wp x K:=by
 have h4:=Nat.mod_lt x.inp (show 0<4 by decide)
 have h3:=Nat.mod_lt x.dffs (show 0<3 by decide)
 have hpos:=rawN_pos' x
 have hle:=rawN_le x
 have hbase:(baseN x.inp x.dffs x.mem).length≤8:=by rw[baseN_length];split <;> omega
 have hbase1:0<(baseN x.inp x.dffs x.mem).length:=by rw[baseN_length];omega
 unfold law03_Of_wp
 refine joinLoop (fun s=>s.2≤x.inp%4+1∧s.1=List.replicate s.2 inputN) (fun s=>x.inp%4+1-s.2) (fun a=>a=List.replicate (x.inp%4+1) inputN) ?_ ⟨Nat.zero_le _,rfl⟩ ?_
 ·rintro k ⟨l,i⟩ nx ⟨hi,hl⟩ hnx hk
  dsimp only at hi hl
  subst hl
  refine⟨by decide,by omega,fun q=>?_,fun q=>?_⟩
  ·have q:=nlt_t.1 q
   try dsimp only at q
   refine⟨by simp only[List.length_replicate,List.length_singleton];omega,by omega,hnx _ ⟨by dsimp only;omega,?_⟩ (by dsimp only;omega)⟩
   dsimp only
   rw[List.replicate_succ'];rfl
  ·have q:=nlt_f.1 q
   try dsimp only at q
   have:i=x.inp%4+1:=by omega
   subst this
   exact hk _ rfl
 rintro a rfl
 refine⟨by decide,by omega,?_⟩
 refine joinLoop (fun s=>s.2≤x.dffs%3∧s.1=List.replicate (x.inp%4+1) inputN++List.replicate s.2 (dffN 0)) (fun s=>x.dffs%3-s.2) (fun a=>a=List.replicate (x.inp%4+1) inputN++List.replicate (x.dffs%3) (dffN 0)) ?_ ⟨Nat.zero_le _,by simp⟩ ?_
 ·rintro k ⟨l,i⟩ nx ⟨hi,hl⟩ hnx hk
  dsimp only at hi hl
  subst hl
  refine⟨fun q=>?_,fun q=>?_⟩
  ·have q:=lt_t.1 q
   try dsimp only at q
   refine⟨by simp only[List.length_append,List.length_replicate,List.length_singleton];omega,by omega,hnx _ ⟨by dsimp only;omega,?_⟩ (by dsimp only;omega)⟩
   dsimp only
   rw[List.replicate_succ' (n:=i),← List.append_assoc];rfl
  ·have q:=lt_f.1 q
   try dsimp only at q
   have:i=x.dffs%3:=by omega
   subst this
   exact hk _ rfl
 rintro a rfl
 refine joinB (a:=baseN x.inp x.dffs x.mem) (fun F=>⟨fun q=>?_,fun q=>?_⟩) ?_
 ·refine⟨by simp only[List.length_append,List.length_replicate,List.length_cons,List.length_nil];omega,?_⟩
  rw[show baseN x.inp x.dffs x.mem=List.replicate (x.inp%4+1) inputN++List.replicate (x.dffs%3) (dffN 0)++[memN 0,memN 1] by unfold baseN;rw[q];rfl] at F
  exact F
 ·rw[show baseN x.inp x.dffs x.mem=List.replicate (x.inp%4+1) inputN++List.replicate (x.dffs%3) (dffN 0) by unfold baseN;rw[q];simp] at F
  exact F
 refine joinLoop (fun s=>s.2≤min x.gates.length 8∧s.1=gatesN x.bus x.gates (baseN x.inp x.dffs x.mem) s.2) (fun s=>min x.gates.length 8-s.2) (fun a=>a=rawN x) ?_ ⟨Nat.zero_le _,rfl⟩ ?_
 ·rintro k ⟨l,i⟩ nx ⟨hi,hl⟩ hnx hk
  dsimp only at hi hl
  subst hl
  have hgl:i≤x.gates.length:=Nat.le_trans hi (Nat.min_le_left _ _)
  have hN:=gatesN_length x.bus x.gates (baseN x.inp x.dffs x.mem) i hgl
  have hi8:i≤8:=Nat.le_trans hi (Nat.min_le_right _ _)
  have stop:¬ (i<x.gates.length∧i<8)→k (gatesN x.bus x.gates (baseN x.inp x.dffs x.mem) i):=fun q=>by
   have:i=min x.gates.length 8:=by omega
   exact hk _ (by rw[this];rfl)
  refine joinI ⟨fun q=>⟨fun q2=>?_,fun q2=>stop fun e=>absurd e.2 (by have:=lt_f.1 q2;omega)⟩,fun q=>⟨(fun e=>by cases e),fun _=>stop fun e=>absurd e.1 (by have:=lt_f.1 q;(try dsimp only at this);omega)⟩⟩
  have q:=lt_t.1 q
  have q2:=lt_t.1 q2
  try dsimp only at q q2
  obtain⟨gd,hg⟩:=get_lt q
  refine⟨gd,hg,hx.gates _ (List.mem_of_getElem? hg),by omega,by omega,by simp only[List.length_singleton];omega,by omega,hnx _ ⟨by dsimp only;omega,?_⟩ (by dsimp only;omega)⟩
  dsimp only
  rw[gatesN_succ hg]
 rintro a rfl
 have hfirst:(List.replicate (x.inp%4+1) inputN).length=x.inp%4+1:=List.length_replicate
 refine joinLoop (fun s=>s.2≤x.dffs%3∧s.1=updN (x.inp%4+1) (dataN x (rawN x).length) s.2 (rawN x)) (fun s=>x.dffs%3-s.2) (fun a=>a=updN (x.inp%4+1) (dataN x (rawN x).length) (x.dffs%3) (rawN x)) ?_ ⟨Nat.zero_le _,rfl⟩ ?_
 ·rintro k ⟨l,i⟩ nx ⟨hi,hl⟩ hnx hk
  dsimp only at hi hl
  subst hl
  refine⟨fun q=>?_,fun q=>?_⟩
  ·have q:=lt_t.1 q
   try dsimp only at q
   have hget:(updN (x.inp%4+1) (dataN x (rawN x).length) i (rawN x))[(List.replicate (x.inp%4+1) inputN).length+i]?=some (dffN 0):=by
    rw[hfirst,updN_get (Nat.le_refl _)]
    exact rawN_dff q
   have step:∀ d,d=dataN x (rawN x).length i→nx ((updN (x.inp%4+1) (dataN x (rawN x).length) i (rawN x)).set ((List.replicate (x.inp%4+1) inputN).length+i) { dffN 0 with ins:=[d] },i+1):=fun d e=>by
    refine hnx _ ⟨by dsimp only;omega,?_⟩ (by dsimp only;omega)
    dsimp only
    rw[hfirst,e]
    rfl
   refine⟨by omega,by omega,fun e=>⟨hx.data0,hpos,_,hget,by omega,step _ ?_⟩,fun e=>⟨hx.data1,hpos,_,hget,by omega,step _ ?_⟩⟩
   ·unfold dataN;rw[if_pos e]
   ·unfold dataN;rw[if_neg (by omega)]
  ·have q:=lt_f.1 q
   try dsimp only at q
   have:i=x.dffs%3:=by omega
   subst this
   exact hk _ rfl
 rintro a rfl
 have hol:((x.outs.take 3).map (· % (rawN x).length)).length≤3:=by rw[List.length_map,List.length_take];omega
 unfold circN at h
 refine⟨fun q=>⟨hx.port0,hpos,hx.port1,hpos,hx.port2,hpos,hx.port3,hpos,names_loop hle (outs_loop hpos hx.outs ⟨hpos,by omega,by simp only[List.length_singleton];omega,rfl,rfl,rfl,rfl,?_⟩)⟩,fun q=>names_loop hle (outs_loop hpos hx.outs ⟨hpos,by omega,by simp only[List.length_singleton];omega,?_⟩)⟩
 ·rw[q] at h;exact h
 ·rw[q] at h;exact h
def shB:Sh:=.int .u8
def shG:Sh:=.pair shB (.pair (.pair shB (.pair shB (.pair shB .unit))) .unit)
def shC:Sh:=.pair shB (.pair shB (.pair (.pair shB (.pair shB .unit)) (.pair .bool (.pair .bool (.pair (.pair shB (.pair shB (.pair shB (.pair shB .unit)))) (.pair (.slice shG) (.pair (.slice shB) .unit)))))))
theorem byte_of {a:Int} (w:shB.wf a):∃ n:Nat,n<256∧a=Int.ofNat n:=by
 have h:=u8_range w
 exact⟨a.toNat,by omega,by simp;omega⟩
theorem list_of {α β:Type}{f:α→Value}{g:β→Value}{p:β→Prop}:∀ (l:List α),(∀ x∈l,∃ y,p y∧f x=g y)→∃ m:List β,(∀ y∈m,p y)∧l.map f=m.map g∧m.length=l.length
 |[],_=>⟨[],(fun _ h=>by cases h),rfl,rfl⟩
 |x::l,h=>by
  obtain⟨y,h1,h2⟩:=h x (by simp)
  obtain⟨m,h3,h4,h5⟩:=list_of l fun z hz=>h z (by simp[hz])
  refine⟨y::m,fun z hz=>?_,by simp[h2,h4],by simp[h5]⟩
  rcases List.mem_cons.1 hz with rfl|hz
  ·exact h1
  ·exact h3 z hz
theorem bytes_arg {l:List Int} (w:(Sh.slice shB).wf l):∃ m:List Nat,(∀ v∈m,v<256)∧(Sh.slice shB).cellsF l=[encL 1 n8 m]:=by
 obtain⟨_,w2⟩:=w
 obtain⟨m,h1,h2,_⟩:=list_of (f:=fun x=>elV shB.one (shB.cellsF x)) (g:=n8) (p:=(· < 256)) l fun x hx=>by
  obtain⟨n,q1,rfl⟩:=byte_of (w2 x hx)
  exact⟨n,q1,rfl⟩
 refine⟨m,h1,?_⟩
 ·show [FL 1 (l.map fun x=>elV shB.one (shB.cellsF x))]=_
  rw[h2];rfl
theorem gates_arg {l:List shG.Den} (w:(Sh.slice shG).wf l):∃ m:List GData,(∀ v∈m,GOk v)∧(Sh.slice shG).cellsF l=[FL 4 (m.map encG)]:=by
 obtain⟨_,w2⟩:=w
 obtain⟨m,h1,h2,_⟩:=list_of (f:=fun x=>elV shG.one (shG.cellsF x)) (g:=encG) (p:=GOk) l fun x hx=>by
  obtain⟨k,⟨a,b,d,u⟩,u2⟩:=x
  obtain⟨w1,⟨wa,wb,wd,_⟩,_⟩:=w2 _ hx
  obtain⟨k,q1,rfl⟩:=byte_of w1
  obtain⟨a,q2,rfl⟩:=byte_of wa
  obtain⟨b,q3,rfl⟩:=byte_of wb
  obtain⟨d,q4,rfl⟩:=byte_of wd
  exact⟨⟨k,a,b,d⟩,⟨q1,q2,q3,q4⟩,rfl⟩
 refine⟨m,h1,?_⟩
 ·show [FL 4 (l.map fun x=>elV shG.one (shG.cellsF x))]=_
  rw[h2]
theorem c_arg {x:shC.Den} (w:shC.wf x):∃ y:CData,CB y∧elV (!true) (shC.cellsF x)=encC y:=by
 obtain⟨i,f,⟨d0,d1,u1⟩,bu,me,⟨p0,p1,p2,p3,u2⟩,gs,os,u3⟩:=x
 obtain⟨wi,wf,⟨wd0,wd1,_⟩,_,_,⟨wp0,wp1,wp2,wp3,_⟩,wg,wo,_⟩:=w
 obtain⟨i,qi,rfl⟩:=byte_of wi
 obtain⟨f,qf,rfl⟩:=byte_of wf
 obtain⟨d0,qd0,rfl⟩:=byte_of wd0
 obtain⟨d1,qd1,rfl⟩:=byte_of wd1
 obtain⟨p0,qp0,rfl⟩:=byte_of wp0
 obtain⟨p1,qp1,rfl⟩:=byte_of wp1
 obtain⟨p2,qp2,rfl⟩:=byte_of wp2
 obtain⟨p3,qp3,rfl⟩:=byte_of wp3
 obtain⟨g,g1,g3⟩:=gates_arg wg
 obtain⟨o,o1,o3⟩:=bytes_arg wo
 refine⟨⟨i,f,d0,d1,bu,me,p0,p1,p2,p3,g,o⟩,⟨qi,qf,qd0,qd1,qp0,qp1,qp2,qp3,g1,o1⟩,?_⟩
 show Value.agg ⟨[n8 i,n8 f,n8 d0,n8 d1,.bool bu,.bool me,n8 p0,n8 p1,n8 p2,n8 p3]++((Sh.slice shG).cellsF gs++((Sh.slice shB).cellsF os++[]))⟩=_
 rw[g3,o3]
 rfl
def shU2:Sh:=.pair shB (.pair shB .unit)
theorem pairs_arg {l:List shU2.Den} (w:(Sh.slice shU2).wf l):∃ m:List U2,(∀ v∈m,v.a<256∧v.b<256)∧(Sh.slice shU2).cellsF l=[encL 2 encU2 m]:=by
 obtain⟨_,w2⟩:=w
 obtain⟨m,h1,h2,_⟩:=list_of (f:=fun x=>elV shU2.one (shU2.cellsF x)) (g:=encU2) (p:=fun v=>v.a<256∧v.b<256) l fun x hx=>by
  obtain⟨a,b,u⟩:=x
  obtain⟨wa,wb,_⟩:=w2 _ hx
  obtain⟨a,q1,rfl⟩:=byte_of wa
  obtain⟨b,q2,rfl⟩:=byte_of wb
  exact⟨⟨a,b⟩,⟨q1,q2⟩,rfl⟩
 refine⟨m,h1,?_⟩
 show [FL 2 (l.map fun x=>elV shU2.one (shU2.cellsF x))]=_
 rw[h2];rfl
structure GK (ks:List Nat) (x:Node):Prop where
 kind1:1≤x.kind
 kind:x.kind≤13
 arity:Arity x.kind x.ins.length
 ins:∀ k∈x.ins,k<ks.length
 bus:x.kind=13→∀ k∈x.ins,ks.getD k 0=12
 mem:x.mem=0
 bit:x.bit=0
theorem trisK_mem (ks:List Nat):∀ (i:Nat) (t:Nat),t∈trisK ks i→t<i∧ks.getD t 0=12
 |0,t,h=>by unfold trisK at h;cases h
 |i+1,t,h=>by
  unfold trisK at h
  split at h
  ·rename_i e
   rcases List.mem_append.1 h with h|h
   ·have:=trisK_mem ks i t h;exact⟨by omega,this.2⟩
   ·rw[List.mem_singleton] at h;subst h;exact⟨by omega,e⟩
  ·have:=trisK_mem ks i t h;exact⟨by omega,this.2⟩
theorem getD_mem {l:List Nat}{i:Nat} (h:i<l.length):l.getD i 0∈l:=by
 rw[List.getD,List.getElem?_eq_getElem h]
 exact List.getElem_mem h
theorem arity_gate:∀ kk,kk<6→Arity (5+kk) 2∧Arity (5+kk) 3:=by decide
theorem gateK_ok (bus:Bool) (g:GData) {ks:List Nat} (hn:0<ks.length):GK ks (gateK bus g ks):=by
 have ha:=Nat.mod_lt g.a hn
 have hb:=Nat.mod_lt g.b hn
 have hd:=Nat.mod_lt g.d hn
 have hkk:(if bus then g.kind%13 else g.kind%9)<13:=by
  split
  ·exact Nat.mod_lt _ (by decide)
  ·exact Nat.lt_trans (Nat.mod_lt _ (by decide)) (by decide)
 unfold gateK
 generalize (if bus then g.kind%13 else g.kind%9)=kk at hkk
 by_cases c1:kk<6
 ·rw[if_pos c1]
  by_cases c2:128≤g.kind
  ·rw[if_pos c2]
   refine⟨by dsimp only;omega,by dsimp only;omega,?_,?_,fun e=>by dsimp only at e;omega,rfl,rfl⟩
   ·exact (arity_gate kk c1).2
   ·intro k m
    simp only[List.mem_cons,List.not_mem_nil,or_false] at m
    rcases m with rfl|rfl|rfl <;> assumption
  ·rw[if_neg c2]
   refine⟨by dsimp only;omega,by dsimp only;omega,?_,?_,fun e=>by dsimp only at e;omega,rfl,rfl⟩
   ·exact (arity_gate kk c1).1
   ·intro k m
    simp only[List.mem_cons,List.not_mem_nil,or_false] at m
    rcases m with rfl|rfl <;> assumption
 rw[if_neg c1]
 by_cases c2:kk=6
 ·rw[if_pos c2]
  exact⟨(by decide:1≤4),(by decide:4≤13),(by decide:Arity 4 1),fun k m=>by simp only[List.mem_cons,List.not_mem_nil,or_false] at m;subst m;exact ha,(fun e=>by cases e),rfl,rfl⟩
 rw[if_neg c2]
 by_cases c3:kk=7
 ·rw[if_pos c3]
  refine⟨(by decide:1≤11),(by decide:11≤13),(by decide:Arity 11 3),fun k m=>?_,(fun e=>by cases e),rfl,rfl⟩
  simp only[List.mem_cons,List.not_mem_nil,or_false] at m
  rcases m with rfl|rfl|rfl <;> assumption
 rw[if_neg c3]
 by_cases c4:kk=9∨kk=10
 ·rw[if_pos c4]
  refine⟨(by decide:1≤12),(by decide:12≤13),(by decide:Arity 12 2),fun k m=>?_,(fun e=>by cases e),rfl,rfl⟩
  simp only[List.mem_cons,List.not_mem_nil,or_false] at m
  rcases m with rfl|rfl <;> assumption
 rw[if_neg c4]
 by_cases c5:10<kk∧0<(trisK ks ks.length).length
 ·rw[if_pos c5]
  have h1:=trisK_mem ks ks.length _ (getD_mem (Nat.mod_lt g.a c5.2))
  have h2:=trisK_mem ks ks.length _ (getD_mem (Nat.mod_lt (g.a%(trisK ks ks.length).length+1) c5.2))
  by_cases c6:1<(trisK ks ks.length).length
  ·rw[if_pos c6]
   refine⟨(by decide:1≤13),(by decide:13≤13),(by decide:Arity 13 2),fun k m=>?_,fun _ k m=>?_,rfl,rfl⟩ <;>
   ·simp only[List.mem_cons,List.not_mem_nil,or_false] at m
    rcases m with rfl|rfl
    ·first|exact h1.1|exact h1.2
    ·first|exact h2.1|exact h2.2
  ·rw[if_neg c6]
   refine⟨(by decide:1≤13),(by decide:13≤13),(by decide:Arity 13 1),fun k m=>?_,fun _ k m=>?_,rfl,rfl⟩ <;>
   ·simp only[List.mem_cons,List.not_mem_nil,or_false] at m
    subst m
    first|exact h1.1|exact h1.2
 rw[if_neg c5]
 by_cases c7:240<g.kind
 ·rw[if_pos c7]
  have:g.a%2=0∨g.a%2=1:=by omega
  rcases this with e|e <;> rw[e]
  ·exact⟨(by decide:1≤1),(by decide:1≤13),(by decide:Arity 1 0),(fun k m=>by cases m),(fun _ k m=>by cases m),rfl,rfl⟩
  ·exact⟨(by decide:1≤2),(by decide:2≤13),(by decide:Arity 2 0),(fun k m=>by cases m),(fun _ k m=>by cases m),rfl,rfl⟩
 ·rw[if_neg c7]
  exact⟨(by decide:1≤3),(by decide:3≤13),(by decide:Arity 3 1),fun k m=>by simp only[List.mem_cons,List.not_mem_nil,or_false] at m;subst m;exact ha,(fun e=>by cases e),rfl,rfl⟩
theorem gateK_plain (g:GData) (ks:List Nat):(gateK false g ks).kind≠12∧(gateK false g ks).kind≠13:=by
 have hkk:=Nat.mod_lt g.kind (show 0<9 by decide)
 unfold gateK
 simp only[Bool.false_eq_true,if_false]
 generalize g.kind%9=kk at hkk
 by_cases c1:kk<6
 ·rw[if_pos c1];dsimp only;omega
 rw[if_neg c1]
 by_cases c2:kk=6
 ·rw[if_pos c2];exact (by decide:4≠12∧4≠13)
 rw[if_neg c2]
 by_cases c3:kk=7
 ·rw[if_pos c3];exact (by decide:11≠12∧11≠13)
 rw[if_neg c3,if_neg (by omega),if_neg (by omega)]
 by_cases c7:240<g.kind
 ·rw[if_pos c7];dsimp only;omega
 ·rw[if_neg c7];exact (by decide:3≠12∧3≠13)
theorem gatesN_node (bus:Bool) (gs:List GData) (base:List Node) (hb:0<base.length):∀ m,m≤gs.length→∀ (i:Nat) (y:Node),(gatesN bus gs base m)[i]?=some y →
  (i<base.length∧base[i]?=some y)∨(base.length≤i∧∃ g,y=gateK bus g (((gatesN bus gs base m).take i).map Node.kind))
 |0,_,i,y,h=>.inl ⟨lt_of_get h,h⟩
 |m+1,hm,i,y,h=>by
  have hg:gs[m]?=some gs[m]:=List.getElem?_eq_getElem (by omega)
  have hl:=gatesN_length bus gs base m (by omega)
  rw[gatesN_succ hg] at h ⊢
  by_cases c:i<(gatesN bus gs base m).length
  ·rw[List.getElem?_append_left c] at h
   rcases gatesN_node bus gs base hb m (by omega) i y h with q|⟨q1,g,q2⟩
   ·exact .inl q
   ·refine .inr ⟨q1,g,?_⟩
    rw[List.take_append_of_le_length (by omega)]
    exact q2
  ·have hi:i=(gatesN bus gs base m).length:=by
    have:=lt_of_get h
    rw[List.length_append,List.length_singleton] at this
    omega
   subst hi
   rw[List.getElem?_append_right (Nat.le_refl _),Nat.sub_self] at h
   cases h
   refine .inr ⟨by omega,gs[m],?_⟩
   rw[List.take_left']
   rfl
theorem updN_at {first:Nat}{d:Nat→Nat}{ns:List Node}{j:Nat}:∀ {m},j<m→first+m≤ns.length→(updN first d m ns)[first+j]?=some (dffN (d j))
 |m+1,h,hl=>by
  rw[updN,List.getElem?_set]
  by_cases c:m=j
  ·subst c
   rw[if_pos rfl,if_pos (by rw[updN_length];omega)]
  ·rw[if_neg (by omega)]
   exact updN_at (by omega) (by omega)
theorem updN_low {first:Nat}{d:Nat→Nat}{ns:List Node}{j:Nat} (h:j<first):∀ m,(updN first d m ns)[j]?=ns[j]?
 |0=>rfl
 |m+1=>by rw[updN,List.getElem?_set_ne (by omega)];exact updN_low h m
def isMemN (x:CData) (i:Nat) (y:Node):Prop:=x.mem=true∧(y=memN 0∨y=memN 1)
theorem circ_node' {x:CData}{i:Nat}{y:Node} (h:(circN x).nodes[i]?=some y) :
  (i<x.inp%4+1∧y=inputN)∨(x.inp%4+1≤i∧i<x.inp%4+1+x.dffs%3∧∃ d,d<(rawN x).length∧y=dffN d)∨isMemN x i y ∨
  (x.inp%4+1+x.dffs%3≤i∧(rawN x)[i]?=some y∧∃ g,y=gateK x.bus g (((rawN x).take i).map Node.kind)):=by
 have h:(updN (x.inp%4+1) (dataN x (rawN x).length) (x.dffs%3) (rawN x))[i]?=some y:=h
 have hbl:=baseN_length x.inp x.dffs x.mem
 have hrl:=rawN_length x
 have hbase:∀ i,i<x.inp%4+1→(baseN x.inp x.dffs x.mem)[i]?=some inputN:=fun i hi=>by
  unfold baseN
  rw[List.append_assoc,List.getElem?_append_left (by rw[List.length_replicate];exact hi),List.getElem?_replicate,if_pos hi]
 by_cases c1:i<x.inp%4+1
 ·rw[updN_low c1] at h
  unfold rawN at h
  rw[gatesN_get _ _ _ (by omega) _ (Nat.min_le_left _ _),hbase i c1] at h
  cases h
  exact .inl ⟨c1,rfl⟩
 ·by_cases c2:i<x.inp%4+1+x.dffs%3
  ·have e:i=x.inp%4+1+(i-(x.inp%4+1)):=by omega
   rw[e,updN_at (by omega) (by omega)] at h
   cases h
   exact .inr (.inl ⟨by omega,c2,_,Nat.mod_lt _ (rawN_pos' x),rfl⟩)
  ·rw[updN_get (by omega)] at h
   rcases gatesN_node x.bus x.gates (baseN x.inp x.dffs x.mem) (by omega) _ (Nat.min_le_left _ 8) i y h with⟨q,e⟩|⟨_,g,q⟩
   ·refine .inr (.inr (.inl ?_))
    unfold baseN at e
    rw[List.getElem?_append_right (by simp only[List.length_append,List.length_replicate];omega)] at e
    cases hm:x.mem
    ·rw[hm] at e;simp at e
    ·rw[hm] at e
     simp only[if_true] at e
     refine⟨hm,?_⟩
     have hme:=List.mem_of_getElem? e
     simpa using hme
   ·exact .inr (.inr (.inr ⟨by omega,h,g,q⟩))
theorem circ_node {x:CData} (hm:x.mem=false) {i:Nat}{y:Node} (h:(circN x).nodes[i]?=some y) :
  (i<x.inp%4+1∧y=inputN)∨(x.inp%4+1≤i∧i<x.inp%4+1+x.dffs%3∧∃ d,d<(rawN x).length∧y=dffN d) ∨
  (x.inp%4+1+x.dffs%3≤i∧(rawN x)[i]?=some y∧∃ g,y=gateK x.bus g (((rawN x).take i).map Node.kind)):=by
 rcases circ_node' h with q|q|q|q
 ·exact .inl q
 ·exact .inr (.inl q)
 ·have:=q.1;rw[hm] at this;cases this
 ·exact .inr (.inr q)
theorem circ_kinds (x:CData) (k:Nat):(((circN x).nodes).map Node.kind).getD k 0=((rawN x).map Node.kind).getD k 0:=by
 have hrl:=rawN_length x
 show ((updN (x.inp%4+1) (dataN x (rawN x).length) (x.dffs%3) (rawN x)).map Node.kind).getD k 0=_
 rw[List.getD,List.getD,List.getElem?_map,List.getElem?_map]
 by_cases c1:k<x.inp%4+1
 ·rw[updN_low c1]
 ·by_cases c2:k<x.inp%4+1+x.dffs%3
  ·have e:k=x.inp%4+1+(k-(x.inp%4+1)):=by omega
   rw[e,updN_at (by omega) (by omega),rawN_dff (by omega)]
   rfl
  ·rw[updN_get (by omega)]
theorem circ_mems (x:CData):(circN x).mems=if x.mem then [⟨[x.port0%(rawN x).length],[x.port1%(rawN x).length,x.port2%(rawN x).length],x.port3%(rawN x).length⟩] else []:=rfl
theorem good_circ' (x:CData):Good (circN x):=by
 have hle:=rawN_le x
 have hpos:=rawN_pos' x
 have hn:(circN x).nodes.length=(rawN x).length:=updN_length _
 have node:∀ (i:Nat) (y:Node),(circN x).nodes[i]?=some y→GoodN (circN x) i y:=by
  intro i y h
  have hi:=lt_of_get h
  rw[hn] at hi
  rcases circ_node' h with⟨_,rfl⟩|⟨_,_,d,hd,rfl⟩|⟨hm,e⟩|⟨h1,h2,g,hg⟩
  ·exact⟨(by decide:0≤15),(by decide:Arity 0 0),(fun k m=>by cases m),(fun e=>by cases e),fun _=>⟨rfl,rfl⟩,(fun e=>by cases e),fun e=>absurd e (by decide:¬ 1≤0)⟩
  ·refine⟨(by decide:14≤15),(by decide:Arity 14 1),fun k m=>?_,(fun e=>by cases e),fun _=>⟨rfl,rfl⟩,(fun e=>by cases e),fun _ e=>absurd e (by decide:¬ 14≤13)⟩
   have:k=d:=by simpa[dffN] using m
   rw[hn,this];exact hd
  ·have em:=circ_mems x
   rw[hm] at em
   simp only[if_true] at em
   rcases e with rfl|rfl
   ·exact⟨(by decide:15≤15),(by decide:Arity 15 0),(fun k m=>by cases m),(fun e=>by cases e),fun e=>absurd rfl e,fun _=>⟨_,(by rw[em];rfl),by show (0:Nat)<2;decide⟩,fun _ e=>absurd e (by decide:¬ 15≤13)⟩
   ·exact⟨(by decide:15≤15),(by decide:Arity 15 0),(fun k m=>by cases m),(fun e=>by cases e),fun e=>absurd rfl e,fun _=>⟨_,(by rw[em];rfl),by show (1:Nat)<2;decide⟩,fun _ e=>absurd e (by decide:¬ 15≤13)⟩
  ·have hks:(((rawN x).take i).map Node.kind).length=i:=by rw[List.length_map,List.length_take];omega
   have G:=gateK_ok x.bus g (ks:=((rawN x).take i).map Node.kind) (by omega)
   rw[← hg] at G
   have lt:∀ k∈y.ins,k<i:=fun k m=>by have:=G.ins k m;omega
   refine⟨by have:=G.kind;omega,G.arity,fun k m=>by have:=lt k m;omega,fun e k m=>?_,fun _=>⟨G.mem,G.bit⟩,fun e=>by have:=G.kind;omega,fun _ _=>lt⟩
   have hk:=lt k m
   have hk2:k<(circN x).nodes.length:=by omega
   refine⟨_,List.getElem?_eq_getElem hk2,?_⟩
   have e1:=circ_kinds x k
   rw[List.getD,List.getElem?_map,List.getElem?_eq_getElem hk2] at e1
   have e2:=G.bus e k m
   rw[List.getD,List.getElem?_map,List.getElem?_take,if_pos hk] at e2
   rw[List.getD,List.getElem?_map,e2] at e1
   exact e1
 refine⟨by omega,by show ((List.range (rawN x).length).map nameB).length=_;rw[hn];simp,names_ok (n:=(rawN x).length) (by omega) rfl,fan_ok ⟨by omega,fun i y h=>⟨(node i y h).ins,(node i y h).few⟩⟩,?_,?_,?_,?_,node⟩
 ·intro m hme
  rw[circ_mems] at hme
  split at hme
  ·rw[List.mem_singleton] at hme
   subst hme
   have lt:∀ a,a%(rawN x).length<(circN x).nodes.length:=fun a=>by rw[hn];exact Nat.mod_lt _ hpos
   exact⟨(by decide:1≤1∧1≤8),(by decide:1≤2∧2≤32),fun k m=>by rw[List.mem_singleton.1 m];exact lt _,fun k m=>by simp only[List.mem_cons,List.not_mem_nil,or_false] at m;rcases m with rfl|rfl <;> exact lt _,lt _⟩
  ·cases hme
 ·rw[circ_mems];split <;> simp
 ·intro o m
  have m:o∈(x.outs.take 3).map (· % (rawN x).length)++[(rawN x).length-1]:=m
  rw[hn]
  rcases List.mem_append.1 m with m|m
  ·obtain⟨q,_,rfl⟩:=List.mem_map.1 m
   exact Nat.mod_lt _ hpos
  ·rw[List.mem_singleton] at m;omega
 ·show ((x.outs.take 3).map (· % (rawN x).length)++[(rawN x).length-1]).length≤16
  rw[List.length_append,List.length_map,List.length_take,List.length_singleton];omega
theorem good_circ {x:CData} (_:x.mem=false):Good (circN x):=good_circ' x
theorem plain_circ {x:CData} (hm:x.mem=false) (hb:x.bus=false):∀ (i:Nat) (y:Node),(circN x).nodes[i]?=some y→y.kind≠12∧y.kind≠13∧y.kind≠15:=by
 intro i y h
 rcases circ_node hm h with⟨_,rfl⟩|⟨_,_,d,hd,rfl⟩|⟨h1,_,g,hg⟩
 ·decide
 ·exact⟨by show (14:Nat)≠12;decide,by show (14:Nat)≠13;decide,by show (14:Nat)≠15;decide⟩
 ·rw[hb] at hg
  have:=gateK_plain g (((rawN x).take i).map Node.kind)
  have hi:=lt_of_get h
  have hn:(circN x).nodes.length=(rawN x).length:=updN_length _
  have q:=gateK_ok false g (ks:=((rawN x).take i).map Node.kind) (by rw[List.length_map,List.length_take];omega)
  rw[← hg] at this q
  exact⟨this.1,this.2,by have:=q.kind;omega⟩
end Go.Proofs.YtfhldkgelipnaaaGreatDoor
