/-
  K1: parts of the proof.
-/
import Derived.Test.YtfhldkgelipnaaaGreatDoorIc47
namespace Go.Proofs.YtfhldkgelipnaaaGreatDoor
open Go.Abs
set_option maxRecDepth 100000
set_option maxHeartbeats 8000000
def probecardlaw24_closed_wp (p0:Circ) (p1:(List Asg)) (K:((List Nat)×Bool)→Prop):Prop :=
 1*p0.nodes.length≤2 ^ 48∧p0.nodes.length<2 ^ 63∧joinW (α:=(List Nat)) (fun k4=>loopW (S:=((List Nat)×Nat)) (fun (v5,v6) nx7=>((ltN v6 p0.nodes.length)=true→v6<p0.nodes.length∧∃ x8,v5[v6]?=some x8∧v6+1<2 ^ 63∧nx7 ((v5.set v6 2),(v6+1)))∧((ltN v6 p0.nodes.length)=false→k4 v5)) ((List.replicate p0.nodes.length (0:Nat)),0)) (fun v3=>joinW (α:=(List Nat)) (fun k10=>loopW (S:=((List Nat)×Nat)) (fun (v11,v12) nx13=>((ltN v12 p1.length)=true→∃ x14,p1[v12]?=some x14∧x14.net<p0.nodes.length∧∃ x15,v11[x14.net]?=some x15∧∃ x16,p1[v12]?=some x16∧x16.value≤1∧1<256∧((eqN x15 (1-x16.value))=true→K ([],false))∧((eqN x15 (1-x16.value))=false→∃ x17,p1[v12]?=some x17∧∃ x18,p1[v12]?=some x18∧x17.net<p0.nodes.length∧∃ x19,v11[x17.net]?=some x19∧v12+1<2 ^ 63∧nx13 ((v11.set x17.net x18.value),(v12+1))))∧((ltN v12 p1.length)=false→k10 v11)) (v3,0)) (fun v9=>joinW (α:=(List Nat)) (fun k21=>loopW (S:=((List Nat)×Bool)) (fun (v22,v23) nx24=>(v23=true → -(2 ^ 63)≤((Int.ofNat p0.nodes.length)-(Int.ofNat 1))∧((Int.ofNat p0.nodes.length)-(Int.ofNat 1))<2 ^ 63∧loopW (S:=((List Nat)×Bool×Int)) (fun (v25,v26,v27) nx28=>((!ltI v27 (Int.ofNat 0))=true→∀ j29:Nat,v27=Int.ofNat j29→joinW (α:=((List Nat)×Bool)) (fun k32=>∃ x33,p0.nodes[j29]?=some x33∧joinW (α:=Bool) (fun k37=>((eqN x33.kind 0)=true→k37 true)∧((eqN x33.kind 0)=false→k37 (eqN x33.kind 14))) (fun v36=>(v36=true→k32 (v25,v26))∧(v36=false→joinW (α:=(List Nat)) (fun k42=>loopW (S:=((List Nat)×Nat)) (fun (v44,v45) nx47=>((ltN v45 x33.ins.length)=true→∃ x48,x33.ins[v45]?=some x48∧x48<p0.nodes.length∧∃ x49,v25[x48]?=some x49∧(v44.length+([x49]:(List Nat)).length)*1≤2 ^ 47∧v45+1<2 ^ 63∧nx47 ((v44++([x49]:(List Nat))),(v45+1)))∧((ltN v45 x33.ins.length)=false→k42 v44)) (([]:List Nat),0)) (fun v40=>j29<p0.nodes.length∧∃ x52,v25[j29]?=some x52∧implies_Gate_wp x33.kind x52 v40 (fun r53=>joinW (α:=Bool) (fun k55=>((!r53.2.2)=true→k55 true)∧((!r53.2.2)=false→k55 (neN r53.2.1.length x33.ins.length))) (fun v54=>(v54=true→K ([],false))∧(v54=false→(([]:List Nat).length+x33.ins.length)*8≤2 ^ 47∧((([]:List Nat)++x33.ins).length+([j29]:(List Nat)).length)*8≤2 ^ 47∧(([]:List Nat).length+r53.2.1.length)*1≤2 ^ 47∧((([]:List Nat)++r53.2.1).length+([r53.1]:(List Nat)).length)*1≤2 ^ 47∧loopW (S:=((List Nat)×Bool×Nat)) (fun (v76,v77,v78) nx79=>((ltN v78 (((([]:List Nat)++x33.ins)++([j29]:(List Nat))).length))=true→joinW (α:=((List Nat)×Bool)) (fun k82=>joinW (α:=Bool) (fun k84=>∃ x85,((([]:List Nat)++r53.2.1)++([r53.1]:(List Nat)))[v78]?=some x85∧((eqN x85 2)=true→k84 true)∧((eqN x85 2)=false→∃ x86,((([]:List Nat)++r53.2.1)++([r53.1]:(List Nat)))[v78]?=some x86∧∃ x87,((([]:List Nat)++x33.ins)++([j29]:(List Nat)))[v78]?=some x87∧x87<p0.nodes.length∧∃ x88,v76[x87]?=some x88∧k84 (eqN x86 x88))) (fun v83=>(v83=true→k82 (v76,v77))∧(v83=false→∃ x89,((([]:List Nat)++x33.ins)++([j29]:(List Nat)))[v78]?=some x89∧x89<p0.nodes.length∧∃ x90,v76[x89]?=some x90∧((neN x90 2)=true→K ([],false))∧((neN x90 2)=false→∃ x91,((([]:List Nat)++x33.ins)++([j29]:(List Nat)))[v78]?=some x91∧∃ x92,((([]:List Nat)++r53.2.1)++([r53.1]:(List Nat)))[v78]?=some x92∧x91<p0.nodes.length∧∃ x93,v76[x91]?=some x93∧k82 ((v76.set x91 x92),true))))) (fun (v80,v81)=>v78+1<2 ^ 63∧nx79 (v80,v81,(v78+1))))∧((ltN v78 (((([]:List Nat)++x33.ins)++([j29]:(List Nat))).length))=false→k32 (v76,v77))) (v25,v26,0)))))))) (fun (v30,v31) => -(2 ^ 63)≤((Int.ofNat j29)-(Int.ofNat 1))∧((Int.ofNat j29)-(Int.ofNat 1))<2 ^ 63∧nx28 (v30,v31,((Int.ofNat j29)-(Int.ofNat 1)))))∧((!ltI v27 (Int.ofNat 0))=false→nx24 (v25,v26))) (v22,false,((Int.ofNat p0.nodes.length)-(Int.ofNat 1))))∧(v23=false→k21 v22)) (v9,true)) (fun v20=>p0.nodes.length=v20.length∧K (v20,true))))
theorem probecardlaw24_closed_walk {p0:Circ}{p1:(List Asg)}{K:((List Nat)×Bool)→Prop} (hm:probecardlaw24_closed_wp p0 p1 K) {h0:Heap} (hB:HasB vars h0):∃ r,K r∧CallD Tryz.prog NG 15 ⟨[encCirc p0,(encL 2 encAsg) p1]⟩ h0 ((fun (r:((List Nat)×Bool))=>Value.tuple ⟨[(encL 1 n8) (r.1),Value.bool (r.2)]⟩) r) h0:=by
 unfold probecardlaw24_closed_wp at hm
 refine fnW hM Tryz.func15 rfl (hP _ _ rfl Tryz.func15) (lbE rfl) hB (enc:=(fun (r:((List Nat)×Bool))=>Value.tuple ⟨[(encL 1 n8) (r.1),Value.bool (r.2)]⟩)) (fun r=>PureV.tup (AllPure.cons (pureL (fun _=>AllPure.cons (PureV.flat rfl) AllPure.nil)) (AllPure.cons (PureV.flat rfl) (AllPure.nil)))) fun O=>?_;conv=>whnf
 apply Cs;(conv=>whnf);repeat(first|apply Cs|apply Hs|apply Hx);conv=>whnf
 refine NewG.frz rfl ?_;(conv=>whnf);repeat(first|apply Cs|apply Hs|apply Hx);conv=>whnf
 refine⟨_,(rfl:aread _ _ _ _=some _),?_⟩;(conv=>whnf);repeat(first|apply Hs|apply Hx);conv=>whnf
 refine lenM (s:=4) (enc:=encNode) (l:=p0.nodes) rfl rfl ?_;(conv=>whnf);repeat(first|apply Hs|apply Hx);conv=>whnf
 refine O.makeL (enc:=n8) (z:=0) (b:=1) (s:=1) (n:=p0.nodes.length) rfl rfl rfl rfl rfl (by decide) (by kernel_rfl) rfl rfl hm.1 hm.2.1 fun g1 h O=>?_;(conv=>whnf);repeat(first|apply Hs|apply Hx);conv=>whnf
 replace hm:=hm.2.2
 refine CodeS.joinWS hm (nn:=184) (σ:=(List Nat)×Unit) (fun s=>s.1) (fun (v3,_) h=>Own vars h0 [((some g1),.cells (flatC (v3.map n8)) false)] h∧True) (fun (v3,_)=>[(1,((encL 2 encAsg) p1)),(2,(FP (encCirc p0))),(6,(.slice (some ⟨g1,0,none⟩) p0.nodes.length p0.nodes.length))]) rfl (fun hm'=>?_) ?_
 ·replace hm:=hm'
  apply Cs;(conv=>whnf);repeat(first|apply Cs|apply Hs|apply Hx);conv=>whnf
  refine loopWK hM (by kernel_rfl) (nn:=184) (S:=((List Nat)×Nat)) (σ:=((List Nat)×Nat)×Unit) (fun s=>s.1) (fun ((v5,v6),_) h=>Own vars h0 [((some g1),.cells (flatC (v5.map n8)) false)] h∧True) (fun ((v5,v6),_)=>[(1,((encL 2 encAsg) p1)),(2,(FP (encCirc p0))),(6,(.slice (some ⟨g1,0,none⟩) p0.nodes.length p0.nodes.length)),(7,(i64 v6))]) rfl (((List.replicate p0.nodes.length (0:Nat)),0),()) hm ⟨O,trivial⟩ ⟨VLe.refl _ _,VLe.refl _ _,VLe.refl _ _,VLe.refl _ _,trivial⟩ ?_
  clear hm;rintro⟨⟨v5,v6⟩,_⟩ nx7 base h hm ⟨O,_⟩
  ((conv=>whnf);repeat(first|apply Cs|apply Hs|apply Hx);conv=>whnf)
  refine lenS (n:=p0.nodes.length) rfl rfl ?_;(conv=>whnf);repeat(first|apply Cs|apply Hs|apply Hx);conv=>whnf
  refine⟨_,rfl,fun hc=>?_,fun hc=>?_⟩
  ·replace hm:=hm.1 hc
   apply Cs;(conv=>whnf);repeat(first|apply Cs|apply Hs|apply Hx);conv=>whnf
   obtain⟨hj,x8,hx8,hm⟩:=hm
   refine indexK (s:=1) (j:=v6) rfl rfl rfl rfl hj ?_;(conv=>whnf);repeat(first|apply Hs|apply Hx);conv=>whnf
   refine O.store (n:=1) (.head _) rfl rfl rfl rfl (el_le (enc:=n8) (s:=1) (k:=0) (n:=1) (fun _=>rfl) (lt_of_get hx8) (lbE rfl)) rfl (splice_all (enc:=n8) (s:=1) (fun _=>rfl) (lt_of_get hx8) (x:=2) rfl) fun h O=>?_;(conv=>whnf);repeat(first|apply Cs|apply Hs|apply Hx);conv=>whnf
   refine⟨_,addK (a:=v6) (b:=1) rfl rfl hm.1,?_⟩;(conv=>whnf);repeat(first|apply Hs|apply Hx);conv=>whnf
   replace hm:=hm.2
   exact⟨(((v5.set v6 2),(v6+1)),()),hm,⟨O,trivial⟩,VLe.refl _ _,VLe.refl _ _,VLe.refl _ _,VLe.refl _ _,trivial⟩
  ·replace hm:=hm.2 hc
   apply Cs;(conv=>whnf);repeat(first|apply Cs|apply Hs|apply Hx);conv=>whnf
   exact⟨(v5,()),hm,⟨O,trivial⟩,VLe.refl _ _,VLe.refl _ _,VLe.refl _ _,trivial⟩
 ·clear hm;rintro⟨v3,_⟩ base h hm ⟨O,_⟩
  conv=>whnf
  refine CodeS.joinWS hm (nn:=184) (σ:=(List Nat)×Unit) (fun s=>s.1) (fun (v9,_) h=>Own vars h0 [((some g1),.cells (flatC (v9.map n8)) false)] h∧True) (fun (v9,_)=>[(2,(FP (encCirc p0))),(6,(.slice (some ⟨g1,0,none⟩) p0.nodes.length p0.nodes.length))]) rfl (fun hm'=>?_) ?_
  ·replace hm:=hm'
   apply Cs;(conv=>whnf);repeat(first|apply Cs|apply Hs|apply Hx);conv=>whnf
   refine loopWK hM (by kernel_rfl) (nn:=184) (S:=((List Nat)×Nat)) (σ:=((List Nat)×Nat)×Unit) (fun s=>s.1) (fun ((v11,v12),_) h=>Own vars h0 [((some g1),.cells (flatC (v11.map n8)) false)] h∧True) (fun ((v11,v12),_)=>[(1,((encL 2 encAsg) p1)),(2,(FP (encCirc p0))),(6,(.slice (some ⟨g1,0,none⟩) p0.nodes.length p0.nodes.length)),(8,(i64 v12))]) rfl ((v3,0),()) hm ⟨O,trivial⟩ ⟨VLe.refl _ _,VLe.refl _ _,VLe.refl _ _,VLe.refl _ _,trivial⟩ ?_
   clear hm;rintro⟨⟨v11,v12⟩,_⟩ nx13 base h hm ⟨O,_⟩
   ((conv=>whnf);repeat(first|apply Cs|apply Hs|apply Hx);conv=>whnf)
   refine lenM (s:=2) (enc:=encAsg) (l:=p1) rfl rfl ?_;(conv=>whnf);repeat(first|apply Cs|apply Hs|apply Hx);conv=>whnf
   refine⟨_,rfl,fun hc=>?_,fun hc=>?_⟩
   ·replace hm:=hm.1 hc
    apply Cs;(conv=>whnf);repeat(first|apply Cs|apply Hs|apply Hx);conv=>whnf
    obtain⟨x14,hx14,hm⟩:=hm
    refine flAtM (s:=2) (enc:=encAsg) (j:=v12) rfl rfl rfl rfl hx14 ?_;(conv=>whnf);repeat(first|apply Hs|apply Hx);conv=>whnf
    refine⟨_,(rfl:aread _ _ _ _=some _),?_⟩;(conv=>whnf);repeat(first|apply Hs|apply Hx);conv=>whnf
    refine⟨.inl rfl,?_⟩;(conv=>whnf);repeat(first|apply Hs|apply Hx);conv=>whnf
    obtain⟨hj,x15,hx15,hm⟩:=hm
    refine indexK (s:=1) (j:=x14.net) rfl rfl rfl rfl hj ?_;(conv=>whnf);repeat(first|apply Hs|apply Hx);conv=>whnf
    refine⟨_,loadK rfl (O.at (.head _)) rfl (cell_map (enc:=n8) (s:=1) (k:=0) (fun _=>rfl) hx15 rfl),?_⟩;(conv=>whnf);repeat(first|apply Hs|apply Hx);conv=>whnf
    refine⟨.inl rfl,?_⟩;(conv=>whnf);repeat(first|apply Hs|apply Hx);conv=>whnf
    obtain⟨x16,hx16,hm⟩:=hm
    refine flAtM (s:=2) (enc:=encAsg) (j:=v12) rfl rfl rfl rfl hx16 ?_;(conv=>whnf);repeat(first|apply Hs|apply Hx);conv=>whnf
    refine⟨_,(rfl:aread _ _ _ _=some _),?_⟩;(conv=>whnf);repeat(first|apply Hs|apply Hx);conv=>whnf
    refine⟨.inl rfl,?_⟩;(conv=>whnf);repeat(first|apply Hs|apply Hx);conv=>whnf
    refine⟨_,subU8K (a:=1) (b:=x16.value) rfl rfl hm.1 hm.2.1,?_⟩;(conv=>whnf);repeat(first|apply Cs|apply Hs|apply Hx);conv=>whnf
    replace hm:=hm.2.2
    refine⟨_,rfl,fun hc=>?_,fun hc=>?_⟩
    ·replace hm:=hm.1 hc
     apply Cs;(conv=>whnf);repeat(first|apply Cs|apply Hs|apply Hx);conv=>whnf
     exact⟨([],false),hm,O.ext,fun h2 F=>VLe.tup (LLe.cons (VLe.nil _ _) (LLe.cons (VLe.refl _ _) (LLe.nil _)))⟩
    ·replace hm:=hm.2 hc
     apply Cs;(conv=>whnf);repeat(first|apply Cs|apply Hs|apply Hx);conv=>whnf
     obtain⟨x17,hx17,hm⟩:=hm
     refine flAtM (s:=2) (enc:=encAsg) (j:=v12) rfl rfl rfl rfl hx17 ?_;(conv=>whnf);repeat(first|apply Hs|apply Hx);conv=>whnf
     refine⟨_,(rfl:aread _ _ _ _=some _),?_⟩;(conv=>whnf);repeat(first|apply Hs|apply Hx);conv=>whnf
     refine⟨.inl rfl,?_⟩;(conv=>whnf);repeat(first|apply Hs|apply Hx);conv=>whnf
     obtain⟨x18,hx18,hm⟩:=hm
     refine flAtM (s:=2) (enc:=encAsg) (j:=v12) rfl rfl rfl rfl hx18 ?_;(conv=>whnf);repeat(first|apply Hs|apply Hx);conv=>whnf
     refine⟨_,(rfl:aread _ _ _ _=some _),?_⟩;(conv=>whnf);repeat(first|apply Hs|apply Hx);conv=>whnf
     refine⟨.inl rfl,?_⟩;(conv=>whnf);repeat(first|apply Hs|apply Hx);conv=>whnf
     obtain⟨hj,x19,hx19,hm⟩:=hm
     refine indexK (s:=1) (j:=x17.net) rfl rfl rfl rfl hj ?_;(conv=>whnf);repeat(first|apply Hs|apply Hx);conv=>whnf
     refine O.store (n:=1) (.head _) rfl rfl rfl rfl (el_le (enc:=n8) (s:=1) (k:=0) (n:=1) (fun _=>rfl) (lt_of_get hx19) (lbE rfl)) rfl (splice_all (enc:=n8) (s:=1) (fun _=>rfl) (lt_of_get hx19) (x:=x18.value) rfl) fun h O=>?_;(conv=>whnf);repeat(first|apply Hs|apply Hx);conv=>whnf
     refine⟨.inl rfl,?_⟩;(conv=>whnf);repeat(first|apply Hs|apply Hx);conv=>whnf
     apply Cs;(conv=>whnf);repeat(first|apply Cs|apply Hs|apply Hx);conv=>whnf
     refine⟨_,addK (a:=v12) (b:=1) rfl rfl hm.1,?_⟩;(conv=>whnf);repeat(first|apply Hs|apply Hx);conv=>whnf
     replace hm:=hm.2
     exact⟨(((v11.set x17.net x18.value),(v12+1)),()),hm,⟨O,trivial⟩,VLe.refl _ _,VLe.refl _ _,VLe.refl _ _,VLe.refl _ _,trivial⟩
   ·replace hm:=hm.2 hc
    apply Cs;(conv=>whnf);repeat(first|apply Cs|apply Hs|apply Hx);conv=>whnf
    exact⟨(v11,()),hm,⟨O,trivial⟩,VLe.refl _ _,VLe.refl _ _,trivial⟩
  ·clear hm;rintro⟨v9,_⟩ base h hm ⟨O,_⟩
   conv=>whnf
   refine CodeS.joinWS hm (nn:=184) (σ:=(List Nat)×Unit) (fun s=>s.1) (fun (v20,_) h=>Own vars h0 [((some g1),.cells (flatC (v20.map n8)) false)] h∧True) (fun (v20,_)=>[(6,(.slice (some ⟨g1,0,none⟩) p0.nodes.length p0.nodes.length))]) rfl (fun hm'=>?_) ?_
   ·replace hm:=hm'
    apply Cs;(conv=>whnf);repeat(first|apply Cs|apply Hs|apply Hx);conv=>whnf
    refine loopWK hM (by kernel_rfl) (nn:=184) (S:=((List Nat)×Bool)) (σ:=((List Nat)×Bool)×Unit) (fun s=>s.1) (fun ((v22,v23),_) h=>Own vars h0 [((some g1),.cells (flatC (v22.map n8)) false)] h∧True) (fun ((v22,v23),_)=>[(2,(FP (encCirc p0))),(6,(.slice (some ⟨g1,0,none⟩) p0.nodes.length p0.nodes.length)),(9,(.bool v23))]) rfl ((v9,true),()) hm ⟨O,trivial⟩ ⟨VLe.refl _ _,VLe.refl _ _,VLe.refl _ _,trivial⟩ ?_
    clear hm;rintro⟨⟨v22,v23⟩,_⟩ nx24 base h hm ⟨O,_⟩
    ((conv=>whnf);repeat(first|apply Cs|apply Hs|apply Hx);conv=>whnf)
    refine⟨_,rfl,fun hc=>?_,fun hc=>?_⟩
    ·replace hm:=hm.1 hc
     apply Cs;(conv=>whnf);repeat(first|apply Cs|apply Hs|apply Hx);conv=>whnf
     refine⟨_,(rfl:aread _ _ _ _=some _),?_⟩;(conv=>whnf);repeat(first|apply Hs|apply Hx);conv=>whnf
     refine lenM (s:=4) (enc:=encNode) (l:=p0.nodes) rfl rfl ?_;(conv=>whnf);repeat(first|apply Hs|apply Hx);conv=>whnf
     refine⟨_,subZK (a:=(Int.ofNat p0.nodes.length)) (b:=(Int.ofNat 1)) rfl rfl hm.1 hm.2.1,?_⟩;(conv=>whnf);repeat(first|apply Cs|apply Hs|apply Hx);conv=>whnf
     replace hm:=hm.2.2
     refine loopWK hM (by kernel_rfl) (nn:=184) (S:=((List Nat)×Bool×Int)) (σ:=((List Nat)×Bool×Int)×Unit) (fun s=>s.1) (fun ((v25,v26,v27),_) h=>Own vars h0 [((some g1),.cells (flatC (v25.map n8)) false)] h∧True) (fun ((v25,v26,v27),_)=>[(2,(FP (encCirc p0))),(6,(.slice (some ⟨g1,0,none⟩) p0.nodes.length p0.nodes.length)),(9,(.bool v26)),(10,(z64 v27))]) rfl ((v22,false,((Int.ofNat p0.nodes.length)-(Int.ofNat 1))),()) hm ⟨O,trivial⟩ ⟨VLe.refl _ _,VLe.refl _ _,VLe.refl _ _,VLe.refl _ _,trivial⟩ ?_
     clear hm;rintro⟨⟨v25,v26,v27⟩,_⟩ nx28 base h hm ⟨O,_⟩
     ((conv=>whnf);repeat(first|apply Cs|apply Hs|apply Hx);conv=>whnf)
     refine⟨_,rfl,fun hc=>?_,fun hc=>?_⟩
     ·replace hm:=hm.1 hc
      obtain⟨j29,rfl⟩:=natOf hc
      replace hm:=hm j29 rfl
      apply Cs;conv=>whnf
      refine CodeS.joinWS hm (nn:=184) (σ:=((List Nat)×Bool)×Unit) (fun s=>s.1) (fun ((v30,v31),_) h=>Own vars h0 [((some g1),.cells (flatC (v30.map n8)) false)] h∧True) (fun ((v30,v31),_)=>[(2,(FP (encCirc p0))),(6,(.slice (some ⟨g1,0,none⟩) p0.nodes.length p0.nodes.length)),(9,(.bool v31)),(10,(i64 j29))]) rfl (fun hm'=>?_) ?_
      ·replace hm:=hm'
       apply Cs;(conv=>whnf);repeat(first|apply Cs|apply Hs|apply Hx);conv=>whnf
       refine⟨_,(rfl:aread _ _ _ _=some _),?_⟩;(conv=>whnf);repeat(first|apply Hs|apply Hx);conv=>whnf
       obtain⟨x33,hx33,hm⟩:=hm
       refine flAtM (s:=4) (enc:=encNode) (j:=j29) rfl rfl rfl rfl hx33 ?_;(conv=>whnf);repeat(first|apply Hs|apply Hx);conv=>whnf
       refine⟨_,(rfl:aread _ _ _ _=some _),?_⟩;(conv=>whnf);repeat(first|apply Hs|apply Hx);conv=>whnf
       refine O.new (anew_alloc (l:=[(n8 0),(.slice none 0 0),(i64 0),(i64 0)]) rfl rfl rfl) fun g34 h O=>?_;(conv=>whnf);repeat(first|apply Hs|apply Hx);conv=>whnf
       refine O.store (n:=4) (cs':=[(n8 x33.kind),((encL 1 i64) x33.ins),(i64 x33.mem),(i64 x33.bit)]) (.head _) rfl rfl rfl rfl (lbE rfl) rfl rfl fun h O=>?_;(conv=>whnf);repeat(first|apply Hs|apply Hx);conv=>whnf
       apply Cs;conv=>whnf
       refine CodeS.joinWS hm (nn:=184) (σ:=Bool×Unit) (fun s=>s.1) (fun (v36,_) h=>Own vars h0 [((some g1),.cells (flatC (v25.map n8)) false),((some g34),.cells [(n8 x33.kind),((encL 1 i64) x33.ins),(i64 x33.mem),(i64 x33.bit)] false)] h∧True) (fun (v36,_)=>[(2,(FP (encCirc p0))),(6,(.slice (some ⟨g1,0,none⟩) p0.nodes.length p0.nodes.length)),(9,(.bool v26)),(10,(i64 j29)),(11,(.pointer (some ⟨g34,0,none⟩))),(86,(.bool v36))]) rfl (fun hm'=>?_) ?_
       ·replace hm:=hm'
        apply Cs;(conv=>whnf);repeat(first|apply Cs|apply Hs|apply Hx);conv=>whnf
        refine⟨_,loadK rfl (O.at (.head _)) rfl rfl,?_⟩;(conv=>whnf);repeat(first|apply Hs|apply Hx);conv=>whnf
        refine⟨_,rfl,fun hc=>?_,fun hc=>?_⟩
        ·replace hm:=hm.1 hc;(conv=>whnf);repeat(first|apply Hs|apply Hx);conv=>whnf
         exact⟨(true,()),hm,⟨(O.sel [1,0] (by decide)),trivial⟩,VLe.refl _ _,VLe.refl _ _,VLe.refl _ _,VLe.refl _ _,VLe.refl _ _,VLe.refl _ _,trivial⟩
        ·replace hm:=hm.2 hc;(conv=>whnf);repeat(first|apply Hs|apply Hx);conv=>whnf
         refine⟨_,loadK rfl (O.at (.head _)) rfl rfl,?_⟩;(conv=>whnf);repeat(first|apply Hs|apply Hx);conv=>whnf
         exact⟨((eqN x33.kind 14),()),hm,⟨(O.sel [1,0] (by decide)),trivial⟩,VLe.refl _ _,VLe.refl _ _,VLe.refl _ _,VLe.refl _ _,VLe.refl _ _,VLe.refl _ _,trivial⟩
       ·clear hm;rintro⟨v36,_⟩ base h hm ⟨O,_⟩
        ((conv=>whnf);repeat(first|apply Cs|apply Hs|apply Hx);conv=>whnf)
        refine⟨_,rfl,fun hc=>?_,fun hc=>?_⟩
        ·replace hm:=hm.1 hc
         apply Cs;(conv=>whnf);repeat(first|apply Cs|apply Hs|apply Hx);conv=>whnf
         exact⟨((v25,v26),()),hm,⟨(O.sel [0] (by decide)),trivial⟩,VLe.refl _ _,VLe.refl _ _,VLe.refl _ _,VLe.refl _ _,trivial⟩
        ·replace hm:=hm.2 hc
         apply Cs;conv=>whnf
         apply Cs;conv=>whnf
         apply Cs;(conv=>whnf);repeat(first|apply Hs|apply Hx);conv=>whnf
         have O:=O.addNil (.cells (flatC ((([]:List Nat)).map n8)) false)
         refine CodeS.joinWS hm (nn:=184) (σ:=(List Nat)×Option Nat) (fun s=>s.1) (fun (v40,a39) h=>(a39=none→v40=[])∧Own vars h0 [((some g1),.cells (flatC (v25.map n8)) false),((some g34),.cells [(n8 x33.kind),((encL 1 i64) x33.ins),(i64 x33.mem),(i64 x33.bit)] false),(a39,.cells (flatC (v40.map n8)) false)] h∧True) (fun (v40,a39)=>[(2,(FP (encCirc p0))),(6,(.slice (some ⟨g1,0,none⟩) p0.nodes.length p0.nodes.length)),(9,(.bool v26)),(10,(i64 j29)),(11,(.pointer (some ⟨g34,0,none⟩))),(12,(growV 1 a39 (v40.map n8)))]) rfl (fun hm'=>?_) ?_
         ·replace hm:=hm'
          apply Cs;(conv=>whnf);repeat(first|apply Cs|apply Hs|apply Hx);conv=>whnf
          refine loopWK hM (by kernel_rfl) (nn:=184) (S:=((List Nat)×Nat)) (σ:=((List Nat)×Nat)×Option Nat) (fun s=>s.1) (fun ((v44,v45),a43) h=>(a43=none→v44=[])∧Own vars h0 [((some g1),.cells (flatC (v25.map n8)) false),((some g34),.cells [(n8 x33.kind),((encL 1 i64) x33.ins),(i64 x33.mem),(i64 x33.bit)] false),(a43,.cells (flatC (v44.map n8)) false)] h∧True) (fun ((v44,v45),a43)=>[(2,(FP (encCirc p0))),(6,(.slice (some ⟨g1,0,none⟩) p0.nodes.length p0.nodes.length)),(9,(.bool v26)),(10,(i64 j29)),(11,(.pointer (some ⟨g34,0,none⟩))),(12,(growV 1 a43 (v44.map n8))),(13,(i64 v45))]) rfl ((([]:List Nat),0),none) hm ⟨(fun _=>rfl),(O.sel [1,2,0] (by decide)),trivial⟩ ⟨VLe.refl _ _,VLe.refl _ _,VLe.refl _ _,VLe.refl _ _,VLe.refl _ _,VLe.refl _ _,VLe.refl _ _,trivial⟩ ?_
          clear hm;rintro⟨⟨v44,v45⟩,a43⟩ nx47 base h hm ⟨ha46,O,_⟩
          ((conv=>whnf);repeat(first|apply Cs|apply Hs|apply Hx);conv=>whnf)
          refine⟨_,loadK rfl (O.at (.tail _ (.head _))) rfl rfl,?_⟩;(conv=>whnf);repeat(first|apply Hs|apply Hx);conv=>whnf
          refine lenM (s:=1) (enc:=i64) (l:=x33.ins) rfl rfl ?_;(conv=>whnf);repeat(first|apply Cs|apply Hs|apply Hx);conv=>whnf
          refine⟨_,rfl,fun hc=>?_,fun hc=>?_⟩
          ·replace hm:=hm.1 hc
           apply Cs;(conv=>whnf);repeat(first|apply Cs|apply Hs|apply Hx);conv=>whnf
           refine⟨_,loadK rfl (O.at (.tail _ (.head _))) rfl rfl,?_⟩;(conv=>whnf);repeat(first|apply Hs|apply Hx);conv=>whnf
           obtain⟨x48,hx48,hm⟩:=hm
           refine flAtM (s:=1) (enc:=i64) (j:=v45) rfl rfl rfl rfl hx48 ?_;(conv=>whnf);repeat(first|apply Hs|apply Hx);conv=>whnf
           refine⟨_,(rfl:aread _ _ _ _=some _),?_⟩;(conv=>whnf);repeat(first|apply Hs|apply Hx);conv=>whnf
           obtain⟨hj,x49,hx49,hm⟩:=hm
           refine indexK (s:=1) (j:=x48) rfl rfl rfl rfl hj ?_;(conv=>whnf);repeat(first|apply Hs|apply Hx);conv=>whnf
           refine⟨_,loadK rfl (O.at (.head _)) rfl (cell_map (enc:=n8) (s:=1) (k:=0) (fun _=>rfl) hx49 rfl),?_⟩;(conv=>whnf);repeat(first|apply Hs|apply Hx);conv=>whnf
           refine NewG.frz rfl ?_;(conv=>whnf);repeat(first|apply Hs|apply Hx);conv=>whnf
           refine O.appendL (enc:=n8) (l:=v44) (new:=([x49]:(List Nat))) (s:=1) (b:=1) (.tail _ (.tail _ (.head _))) ha46 rfl rfl rfl rfl rfl rfl rfl rfl (YOk.fl rfl) (fun _=>rfl) (fun _=>rfl) (by decide) hm.1 fun a50 h ha51 O=>?_;(conv=>whnf);repeat(first|apply Cs|apply Hs|apply Hx);conv=>whnf
           replace hm:=hm.2
           refine⟨_,addK (a:=v45) (b:=1) rfl rfl hm.1,?_⟩;(conv=>whnf);repeat(first|apply Hs|apply Hx);conv=>whnf
           replace hm:=hm.2
           exact⟨(((v44++([x49]:(List Nat))),(v45+1)),a50),hm,⟨ha51,O,trivial⟩,VLe.refl _ _,VLe.refl _ _,VLe.refl _ _,VLe.refl _ _,VLe.refl _ _,VLe.refl _ _,VLe.refl _ _,trivial⟩
          ·replace hm:=hm.2 hc
           apply Cs;(conv=>whnf);repeat(first|apply Cs|apply Hs|apply Hx);conv=>whnf
           exact⟨(v44,a43),hm,⟨ha46,O,trivial⟩,VLe.refl _ _,VLe.refl _ _,VLe.refl _ _,VLe.refl _ _,VLe.refl _ _,VLe.refl _ _,trivial⟩
         ·clear hm;rintro⟨v40,a39⟩ base h hm ⟨ha41,O,_⟩
          ((conv=>whnf);repeat(first|apply Cs|apply Hs|apply Hx);conv=>whnf)
          refine⟨_,loadK rfl (O.at (.tail _ (.head _))) rfl rfl,?_⟩;(conv=>whnf);repeat(first|apply Hs|apply Hx);conv=>whnf
          refine⟨.inl rfl,?_⟩;(conv=>whnf);repeat(first|apply Hs|apply Hx);conv=>whnf
          obtain⟨hj,x52,hx52,hm⟩:=hm
          refine indexK (s:=1) (j:=j29) rfl rfl rfl rfl hj ?_;(conv=>whnf);repeat(first|apply Hs|apply Hx);conv=>whnf
          refine⟨_,loadK rfl (O.at (.head _)) rfl (cell_map (enc:=n8) (s:=1) (k:=0) (fun _=>rfl) hx52 rfl),?_⟩;(conv=>whnf);repeat(first|apply Hs|apply Hx);conv=>whnf
          refine⟨.inl rfl,?_⟩;(conv=>whnf);repeat(first|apply Hs|apply Hx);conv=>whnf
          refine O.useG (fun _ hb=>implies_Gate_walk hm hb) (.tail _ (.tail _ (.head _))) ha41 (fun _=>rfl) (i:=2) rfl (by kernel_rfl) (fun h2 q=>(LLe.cons (VLe.refl _ _) (LLe.cons (VLe.refl _ _) (LLe.cons (q) (LLe.nil _))))) (fun r53 h hm' O=>?_);replace hm:=hm';(conv=>whnf);repeat(first|apply Hs|apply Hx);conv=>whnf
          refine⟨.inr (by kernel_rfl),?_⟩;(conv=>whnf);repeat(first|apply Hs|apply Hx);conv=>whnf
          apply Cs;conv=>whnf
          refine CodeS.joinWS hm (nn:=184) (σ:=Bool×Unit) (fun s=>s.1) (fun (v54,_) h=>Own vars h0 [((some g1),.cells (flatC (v25.map n8)) false),((some g34),.cells [(n8 x33.kind),((encL 1 i64) x33.ins),(i64 x33.mem),(i64 x33.bit)] false)] h∧True) (fun (v54,_)=>[(2,(FP (encCirc p0))),(6,(.slice (some ⟨g1,0,none⟩) p0.nodes.length p0.nodes.length)),(9,(.bool v26)),(10,(i64 j29)),(11,(.pointer (some ⟨g34,0,none⟩))),(14,(n8 r53.1)),(15,((encL 1 n8) r53.2.1)),(126,(.bool v54))]) rfl (fun hm'=>?_) ?_
          ·replace hm:=hm'
           apply Cs;(conv=>whnf);repeat(first|apply Cs|apply Hs|apply Hx);conv=>whnf
           refine⟨_,rfl,fun hc=>?_,fun hc=>?_⟩
           ·replace hm:=hm.1 hc;(conv=>whnf);repeat(first|apply Hs|apply Hx);conv=>whnf
            exact⟨(true,()),hm,⟨(O.sel [0,1] (by decide)),trivial⟩,VLe.refl _ _,VLe.refl _ _,VLe.refl _ _,VLe.refl _ _,VLe.refl _ _,VLe.refl _ _,VLe.refl _ _,VLe.refl _ _,trivial⟩
           ·replace hm:=hm.2 hc;(conv=>whnf);repeat(first|apply Hs|apply Hx);conv=>whnf
            refine lenM (s:=1) (enc:=n8) (l:=r53.2.1) rfl rfl ?_;(conv=>whnf);repeat(first|apply Hs|apply Hx);conv=>whnf
            refine⟨_,loadK rfl (O.at (.tail _ (.head _))) rfl rfl,?_⟩;(conv=>whnf);repeat(first|apply Hs|apply Hx);conv=>whnf
            refine lenM (s:=1) (enc:=i64) (l:=x33.ins) rfl rfl ?_;(conv=>whnf);repeat(first|apply Hs|apply Hx);conv=>whnf
            exact⟨((neN r53.2.1.length x33.ins.length),()),hm,⟨(O.sel [0,1] (by decide)),trivial⟩,VLe.refl _ _,VLe.refl _ _,VLe.refl _ _,VLe.refl _ _,VLe.refl _ _,VLe.refl _ _,VLe.refl _ _,VLe.refl _ _,trivial⟩
          ·clear hm;rintro⟨v54,_⟩ base h hm ⟨O,_⟩
           ((conv=>whnf);repeat(first|apply Cs|apply Hs|apply Hx);conv=>whnf)
           refine⟨_,rfl,fun hc=>?_,fun hc=>?_⟩
           ·replace hm:=hm.1 hc
            apply Cs;(conv=>whnf);repeat(first|apply Cs|apply Hs|apply Hx);conv=>whnf
            exact⟨([],false),hm,O.ext,fun h2 F=>VLe.tup (LLe.cons (VLe.nil _ _) (LLe.cons (VLe.refl _ _) (LLe.nil _)))⟩
           ·replace hm:=hm.2 hc
            apply Cs;(conv=>whnf);repeat(first|apply Cs|apply Hs|apply Hx);conv=>whnf
            refine O.buildE rfl rfl rfl fun g56 h O=>?_;(conv=>whnf);repeat(first|apply Hs|apply Hx);conv=>whnf
            refine⟨_,loadK rfl (O.at (.tail _ (.tail _ (.head _)))) rfl rfl,?_⟩;(conv=>whnf);repeat(first|apply Hs|apply Hx);conv=>whnf
            refine O.appendS (enc:=i64) (l:=([]:List Nat)) (new:=x33.ins) (s:=1) (b:=8) (.head _) rfl rfl rfl rfl rfl rfl rfl rfl rfl (YOk.fl rfl) (fun _=>rfl) (fun _=>rfl) (by decide) hm.1 fun g60 a61 h O=>?_;(conv=>whnf);repeat(first|apply Hs|apply Hx);conv=>whnf
            replace hm:=hm.2
            refine NewG.frz rfl ?_;(conv=>whnf);repeat(first|apply Hs|apply Hx);conv=>whnf
            refine O.appendS (enc:=i64) (l:=(([]:List Nat)++x33.ins)) (new:=([j29]:(List Nat))) (s:=1) (b:=8) (.head _) rfl rfl rfl rfl rfl rfl rfl rfl rfl (YOk.fl rfl) (fun _=>rfl) (fun _=>rfl) (by decide) hm.1 fun g64 a65 h O=>?_;(conv=>whnf);repeat(first|apply Cs|apply Hs|apply Hx);conv=>whnf
            replace hm:=hm.2
            refine O.buildE rfl rfl rfl fun g66 h O=>?_;(conv=>whnf);repeat(first|apply Hs|apply Hx);conv=>whnf
            refine O.appendS (enc:=n8) (l:=([]:List Nat)) (new:=r53.2.1) (s:=1) (b:=1) (.head _) rfl rfl rfl rfl rfl rfl rfl rfl rfl (YOk.fl rfl) (fun _=>rfl) (fun _=>rfl) (by decide) hm.1 fun g70 a71 h O=>?_;(conv=>whnf);repeat(first|apply Hs|apply Hx);conv=>whnf
            replace hm:=hm.2
            refine NewG.frz rfl ?_;(conv=>whnf);repeat(first|apply Hs|apply Hx);conv=>whnf
            refine O.appendS (enc:=n8) (l:=(([]:List Nat)++r53.2.1)) (new:=([r53.1]:(List Nat))) (s:=1) (b:=1) (.head _) rfl rfl rfl rfl rfl rfl rfl rfl rfl (YOk.fl rfl) (fun _=>rfl) (fun _=>rfl) (by decide) hm.1 fun g74 a75 h O=>?_;(conv=>whnf);repeat(first|apply Cs|apply Hs|apply Hx);conv=>whnf
            replace hm:=hm.2
            refine loopWK hM (by kernel_rfl) (nn:=184) (S:=((List Nat)×Bool×Nat)) (σ:=((List Nat)×Bool×Nat)×Unit) (fun s=>s.1) (fun ((v76,v77,v78),_) h=>Own vars h0 [((some g1),.cells (flatC (v76.map n8)) false),((some g74),.cells (flatC (((([]:List Nat)++r53.2.1)++([r53.1]:(List Nat))).map n8)) false),((some g64),.cells (flatC (((([]:List Nat)++x33.ins)++([j29]:(List Nat))).map i64)) false)] h∧True) (fun ((v76,v77,v78),_)=>[(2,(FP (encCirc p0))),(6,(.slice (some ⟨g1,0,none⟩) p0.nodes.length p0.nodes.length)),(9,(.bool v77)),(10,(i64 j29)),(15,(growS 1 a75 g74 ((((([]:List Nat)++r53.2.1)++([r53.1]:(List Nat))).map n8).length))),(17,(growS 1 a65 g64 ((((([]:List Nat)++x33.ins)++([j29]:(List Nat))).map i64).length))),(18,(i64 v78))]) rfl ((v25,v26,0),()) hm ⟨(O.sel [2,0,1] (by decide)),trivial⟩ ⟨VLe.refl _ _,VLe.refl _ _,VLe.refl _ _,VLe.refl _ _,VLe.refl _ _,VLe.refl _ _,VLe.refl _ _,trivial⟩ ?_
            clear hm;rintro⟨⟨v76,v77,v78⟩,_⟩ nx79 base h hm ⟨O,_⟩
            ((conv=>whnf);repeat(first|apply Cs|apply Hs|apply Hx);conv=>whnf)
            refine lenGS (enc:=i64) (l:=((([]:List Nat)++x33.ins)++([j29]:(List Nat)))) rfl rfl rfl ?_;(conv=>whnf);repeat(first|apply Cs|apply Hs|apply Hx);conv=>whnf
            refine⟨_,rfl,fun hc=>?_,fun hc=>?_⟩
            ·replace hm:=hm.1 hc
             apply Cs;conv=>whnf
             refine CodeS.joinWS hm (nn:=184) (σ:=((List Nat)×Bool)×Unit) (fun s=>s.1) (fun ((v80,v81),_) h=>Own vars h0 [((some g1),.cells (flatC (v80.map n8)) false),((some g74),.cells (flatC (((([]:List Nat)++r53.2.1)++([r53.1]:(List Nat))).map n8)) false),((some g64),.cells (flatC (((([]:List Nat)++x33.ins)++([j29]:(List Nat))).map i64)) false)] h∧True) (fun ((v80,v81),_)=>[(2,(FP (encCirc p0))),(6,(.slice (some ⟨g1,0,none⟩) p0.nodes.length p0.nodes.length)),(9,(.bool v81)),(10,(i64 j29)),(15,(growS 1 a75 g74 ((((([]:List Nat)++r53.2.1)++([r53.1]:(List Nat))).map n8).length))),(17,(growS 1 a65 g64 ((((([]:List Nat)++x33.ins)++([j29]:(List Nat))).map i64).length))),(18,(i64 v78))]) rfl (fun hm'=>?_) ?_
             ·replace hm:=hm'
              apply Cs;conv=>whnf
              apply Cs;conv=>whnf
              refine CodeS.joinWS hm (nn:=184) (σ:=Bool×Unit) (fun s=>s.1) (fun (v83,_) h=>Own vars h0 [((some g1),.cells (flatC (v76.map n8)) false),((some g74),.cells (flatC (((([]:List Nat)++r53.2.1)++([r53.1]:(List Nat))).map n8)) false),((some g64),.cells (flatC (((([]:List Nat)++x33.ins)++([j29]:(List Nat))).map i64)) false)] h∧True) (fun (v83,_)=>[(2,(FP (encCirc p0))),(6,(.slice (some ⟨g1,0,none⟩) p0.nodes.length p0.nodes.length)),(9,(.bool v77)),(10,(i64 j29)),(15,(growS 1 a75 g74 ((((([]:List Nat)++r53.2.1)++([r53.1]:(List Nat))).map n8).length))),(17,(growS 1 a65 g64 ((((([]:List Nat)++x33.ins)++([j29]:(List Nat))).map i64).length))),(18,(i64 v78)),(164,(.bool v83))]) rfl (fun hm'=>?_) ?_
              ·replace hm:=hm'
               apply Cs;(conv=>whnf);repeat(first|apply Cs|apply Hs|apply Hx);conv=>whnf
               obtain⟨x85,hx85,hm⟩:=hm
               refine indexK (s:=1) (j:=v78) rfl rfl rfl rfl (ltGS rfl hx85) ?_;(conv=>whnf);repeat(first|apply Hs|apply Hx);conv=>whnf
               refine⟨_,loadK rfl (O.at (.tail _ (.head _))) rfl (cell_map (enc:=n8) (s:=1) (k:=0) (fun _=>rfl) hx85 rfl),?_⟩;(conv=>whnf);repeat(first|apply Hs|apply Hx);conv=>whnf
               refine⟨.inl rfl,?_⟩;(conv=>whnf);repeat(first|apply Hs|apply Hx);conv=>whnf
               refine⟨_,rfl,fun hc=>?_,fun hc=>?_⟩
               ·replace hm:=hm.1 hc;(conv=>whnf);repeat(first|apply Hs|apply Hx);conv=>whnf
                exact⟨(true,()),hm,⟨O,trivial⟩,VLe.refl _ _,VLe.refl _ _,VLe.refl _ _,VLe.refl _ _,VLe.refl _ _,VLe.refl _ _,VLe.refl _ _,VLe.refl _ _,trivial⟩
               ·replace hm:=hm.2 hc;(conv=>whnf);repeat(first|apply Hs|apply Hx);conv=>whnf
                obtain⟨x86,hx86,hm⟩:=hm
                refine indexK (s:=1) (j:=v78) rfl rfl rfl rfl (ltGS rfl hx86) ?_;(conv=>whnf);repeat(first|apply Hs|apply Hx);conv=>whnf
                refine⟨_,loadK rfl (O.at (.tail _ (.head _))) rfl (cell_map (enc:=n8) (s:=1) (k:=0) (fun _=>rfl) hx86 rfl),?_⟩;(conv=>whnf);repeat(first|apply Hs|apply Hx);conv=>whnf
                refine⟨.inl rfl,?_⟩;(conv=>whnf);repeat(first|apply Hs|apply Hx);conv=>whnf
                obtain⟨x87,hx87,hm⟩:=hm
                refine indexK (s:=1) (j:=v78) rfl rfl rfl rfl (ltGS rfl hx87) ?_;(conv=>whnf);repeat(first|apply Hs|apply Hx);conv=>whnf
                refine⟨_,loadK rfl (O.at (.tail _ (.tail _ (.head _)))) rfl (cell_map (enc:=i64) (s:=1) (k:=0) (fun _=>rfl) hx87 rfl),?_⟩;(conv=>whnf);repeat(first|apply Hs|apply Hx);conv=>whnf
                refine⟨.inl rfl,?_⟩;(conv=>whnf);repeat(first|apply Hs|apply Hx);conv=>whnf
                obtain⟨hj,x88,hx88,hm⟩:=hm
                refine indexK (s:=1) (j:=x87) rfl rfl rfl rfl hj ?_;(conv=>whnf);repeat(first|apply Hs|apply Hx);conv=>whnf
                refine⟨_,loadK rfl (O.at (.head _)) rfl (cell_map (enc:=n8) (s:=1) (k:=0) (fun _=>rfl) hx88 rfl),?_⟩;(conv=>whnf);repeat(first|apply Hs|apply Hx);conv=>whnf
                refine⟨.inl rfl,?_⟩;(conv=>whnf);repeat(first|apply Hs|apply Hx);conv=>whnf
                exact⟨((eqN x86 x88),()),hm,⟨O,trivial⟩,VLe.refl _ _,VLe.refl _ _,VLe.refl _ _,VLe.refl _ _,VLe.refl _ _,VLe.refl _ _,VLe.refl _ _,VLe.refl _ _,trivial⟩
              ·clear hm;rintro⟨v83,_⟩ base h hm ⟨O,_⟩
               ((conv=>whnf);repeat(first|apply Cs|apply Hs|apply Hx);conv=>whnf)
               refine⟨_,rfl,fun hc=>?_,fun hc=>?_⟩
               ·replace hm:=hm.1 hc
                apply Cs;(conv=>whnf);repeat(first|apply Cs|apply Hs|apply Hx);conv=>whnf
                exact⟨((v76,v77),()),hm,⟨O,trivial⟩,VLe.refl _ _,VLe.refl _ _,VLe.refl _ _,VLe.refl _ _,VLe.refl _ _,VLe.refl _ _,VLe.refl _ _,trivial⟩
               ·replace hm:=hm.2 hc
                apply Cs;(conv=>whnf);repeat(first|apply Cs|apply Hs|apply Hx);conv=>whnf
                obtain⟨x89,hx89,hm⟩:=hm
                refine indexK (s:=1) (j:=v78) rfl rfl rfl rfl (ltGS rfl hx89) ?_;(conv=>whnf);repeat(first|apply Hs|apply Hx);conv=>whnf
                refine⟨_,loadK rfl (O.at (.tail _ (.tail _ (.head _)))) rfl (cell_map (enc:=i64) (s:=1) (k:=0) (fun _=>rfl) hx89 rfl),?_⟩;(conv=>whnf);repeat(first|apply Hs|apply Hx);conv=>whnf
                obtain⟨hj,x90,hx90,hm⟩:=hm
                refine indexK (s:=1) (j:=x89) rfl rfl rfl rfl hj ?_;(conv=>whnf);repeat(first|apply Hs|apply Hx);conv=>whnf
                refine⟨_,loadK rfl (O.at (.head _)) rfl (cell_map (enc:=n8) (s:=1) (k:=0) (fun _=>rfl) hx90 rfl),?_⟩;(conv=>whnf);repeat(first|apply Cs|apply Hs|apply Hx);conv=>whnf
                refine⟨_,rfl,fun hc=>?_,fun hc=>?_⟩
                ·replace hm:=hm.1 hc
                 apply Cs;(conv=>whnf);repeat(first|apply Cs|apply Hs|apply Hx);conv=>whnf
                 exact⟨([],false),hm,O.ext,fun h2 F=>VLe.tup (LLe.cons (VLe.nil _ _) (LLe.cons (VLe.refl _ _) (LLe.nil _)))⟩
                ·replace hm:=hm.2 hc
                 apply Cs;(conv=>whnf);repeat(first|apply Cs|apply Hs|apply Hx);conv=>whnf
                 obtain⟨x91,hx91,hm⟩:=hm
                 refine indexK (s:=1) (j:=v78) rfl rfl rfl rfl (ltGS rfl hx91) ?_;(conv=>whnf);repeat(first|apply Hs|apply Hx);conv=>whnf
                 refine⟨_,loadK rfl (O.at (.tail _ (.tail _ (.head _)))) rfl (cell_map (enc:=i64) (s:=1) (k:=0) (fun _=>rfl) hx91 rfl),?_⟩;(conv=>whnf);repeat(first|apply Hs|apply Hx);conv=>whnf
                 refine⟨.inl rfl,?_⟩;(conv=>whnf);repeat(first|apply Hs|apply Hx);conv=>whnf
                 obtain⟨x92,hx92,hm⟩:=hm
                 refine indexK (s:=1) (j:=v78) rfl rfl rfl rfl (ltGS rfl hx92) ?_;(conv=>whnf);repeat(first|apply Hs|apply Hx);conv=>whnf
                 refine⟨_,loadK rfl (O.at (.tail _ (.head _))) rfl (cell_map (enc:=n8) (s:=1) (k:=0) (fun _=>rfl) hx92 rfl),?_⟩;(conv=>whnf);repeat(first|apply Hs|apply Hx);conv=>whnf
                 refine⟨.inl rfl,?_⟩;(conv=>whnf);repeat(first|apply Hs|apply Hx);conv=>whnf
                 obtain⟨hj,x93,hx93,hm⟩:=hm
                 refine indexK (s:=1) (j:=x91) rfl rfl rfl rfl hj ?_;(conv=>whnf);repeat(first|apply Hs|apply Hx);conv=>whnf
                 refine O.store (n:=1) (.head _) rfl rfl rfl rfl (el_le (enc:=n8) (s:=1) (k:=0) (n:=1) (fun _=>rfl) (lt_of_get hx93) (lbE rfl)) rfl (splice_all (enc:=n8) (s:=1) (fun _=>rfl) (lt_of_get hx93) (x:=x92) rfl) fun h O=>?_;(conv=>whnf);repeat(first|apply Hs|apply Hx);conv=>whnf
                 refine⟨.inl rfl,?_⟩;(conv=>whnf);repeat(first|apply Hs|apply Hx);conv=>whnf
                 apply Cs;(conv=>whnf);repeat(first|apply Cs|apply Hs|apply Hx);conv=>whnf
                 exact⟨(((v76.set x91 x92),true),()),hm,⟨O,trivial⟩,VLe.refl _ _,VLe.refl _ _,VLe.refl _ _,VLe.refl _ _,VLe.refl _ _,VLe.refl _ _,VLe.refl _ _,trivial⟩
             ·clear hm;rintro⟨⟨v80,v81⟩,_⟩ base h hm ⟨O,_⟩
              ((conv=>whnf);repeat(first|apply Cs|apply Hs|apply Hx);conv=>whnf)
              refine⟨_,addK (a:=v78) (b:=1) rfl rfl hm.1,?_⟩;(conv=>whnf);repeat(first|apply Hs|apply Hx);conv=>whnf
              replace hm:=hm.2
              exact⟨((v80,v81,(v78+1)),()),hm,⟨O,trivial⟩,VLe.refl _ _,VLe.refl _ _,VLe.refl _ _,VLe.refl _ _,VLe.refl _ _,VLe.refl _ _,VLe.refl _ _,trivial⟩
            ·replace hm:=hm.2 hc
             apply Cs;(conv=>whnf);repeat(first|apply Cs|apply Hs|apply Hx);conv=>whnf
             exact⟨((v76,v77),()),hm,⟨(O.sel [0] (by decide)),trivial⟩,VLe.refl _ _,VLe.refl _ _,VLe.refl _ _,VLe.refl _ _,trivial⟩
      ·clear hm;rintro⟨⟨v30,v31⟩,_⟩ base h hm ⟨O,_⟩
       ((conv=>whnf);repeat(first|apply Cs|apply Hs|apply Hx);conv=>whnf)
       refine⟨_,subZK (a:=(Int.ofNat j29)) (b:=(Int.ofNat 1)) rfl rfl hm.1 hm.2.1,?_⟩;(conv=>whnf);repeat(first|apply Hs|apply Hx);conv=>whnf
       replace hm:=hm.2.2
       exact⟨((v30,v31,((Int.ofNat j29)-(Int.ofNat 1))),()),hm,⟨O,trivial⟩,VLe.refl _ _,VLe.refl _ _,VLe.refl _ _,VLe.refl _ _,trivial⟩
     ·replace hm:=hm.2 hc
      apply Cs;(conv=>whnf);repeat(first|apply Cs|apply Hs|apply Hx);conv=>whnf
      exact⟨((v25,v26),()),hm,⟨O,trivial⟩,VLe.refl _ _,VLe.refl _ _,VLe.refl _ _,trivial⟩
    ·replace hm:=hm.2 hc
     apply Cs;(conv=>whnf);repeat(first|apply Cs|apply Hs|apply Hx);conv=>whnf
     exact⟨(v22,()),hm,⟨O,trivial⟩,VLe.refl _ _,trivial⟩
   ·clear hm;rintro⟨v20,_⟩ base h hm ⟨O,_⟩
    ((conv=>whnf);repeat(first|apply Cs|apply Hs|apply Hx);conv=>whnf)
    obtain⟨hn94,hm⟩:=hm
    exact⟨(v20,true),hm,O.ext,fun h2 F=>VLe.tup (LLe.cons (O.flatL F (Nat.le_refl _) (.head _) (fun _=>rfl) hn94) (LLe.cons (VLe.refl _ _) (LLe.nil _)))⟩
def probecardlaw24_ImpliesCloses_wp (p0:CData) (p1:(List U2)) (p2:Nat) (K:Bool→Prop):Prop :=
 probecardlaw24_Small_wp p0 12 (fun r1=>((ltN 6 p1.length)=true→law24_lives_wp  (fun r4=>K r4))∧((ltN 6 p1.length)=false→probecardlaw24_Given_wp r1.1.nodes.length p1 (fun r5=>implies_Close_wp r1.1 r5 (fun r6=>probecardlaw24_closed_wp r1.1 r5 (fun r7=>joinW (α:=(List Asg)) (fun k12 => -(2 ^ 63)≤((Int.ofNat r5.length)-(Int.ofNat 1))∧((Int.ofNat r5.length)-(Int.ofNat 1))<2 ^ 63∧loopW (S:=((List Asg)×Int)) (fun (v14,v15) nx17=>((!ltI v15 (Int.ofNat 0))=true→∀ j18:Nat,v15=Int.ofNat j18→∃ x19,r5[j18]?=some x19∧(v14.length+([x19]:(List Asg)).length)*16≤2 ^ 47 ∧ -(2 ^ 63)≤((Int.ofNat j18)-(Int.ofNat 1))∧((Int.ofNat j18)-(Int.ofNat 1))<2 ^ 63∧nx17 ((v14++([x19]:(List Asg))),((Int.ofNat j18)-(Int.ofNat 1))))∧((!ltI v15 (Int.ofNat 0))=false→k12 v14)) (([]:List Asg),((Int.ofNat r5.length)-(Int.ofNat 1)))) (fun v10=>implies_Close_wp r1.1 v10 (fun r22=>p2<256∧r5.length+1<2 ^ 63∧0<(r5.length+1)∧(p2%(r5.length+1))≤r5.length∧implies_Close_wp r1.1 (r5.drop (p2%(r5.length+1))) (fun r23=>joinW (α:=Bool) (fun k25=>((neN r6.2.2 0)=true→k25 true)∧((neN r6.2.2 0)=false→((neN r22.2.2 0)=true→k25 true)∧((neN r22.2.2 0)=false→((neN r23.2.2 0)=true→k25 true)∧((neN r23.2.2 0)=false→((r6.2.1 != r7.2)=true→k25 true)∧((r6.2.1 != r7.2)=false→((r6.2.1 != r22.2.1)=true→k25 true)∧((r6.2.1 != r22.2.1)=false→(r6.2.1=true→k25 (!r23.2.1))∧(r6.2.1=false→k25 false))))))) (fun v24=>(v24=true→K false)∧(v24=false→((!r6.2.1)=true→law24_lives_wp  (fun r26=>K r26))∧((!r6.2.1)=false→netlists_Inputs_wp r1.1 (fun r30=>joinW (α:=Unit) (fun k31=>((ltN r30.length 0)=true→False)∧((ltN r30.length 0)=false→k31 ())) (fun _=>(([2]:(List Nat)).length)<2 ^ 63∧r30.length<2 ^ 63∧bits_Mul_wp (([2]:(List Nat)).length) r30.length (fun r32=>joinW (α:=Unit) (fun k33=>joinW (α:=Bool) (fun k35=>((ltN 0 r32.1)=true→k35 true)∧((ltN 0 r32.1)=false→k35 (ltN 9223372036854775807 r32.2))) (fun v34=>(v34=true→False)∧(v34=false→k33 ()))) (fun _=>r32.2<2 ^ 63∧1*r32.2≤2 ^ 48∧r32.2<2 ^ 63∧0+r32.2≤(List.replicate r32.2 (0:Nat)).length∧joinW (α:=(List Nat)) (fun k39=>loopW (S:=((List Nat)×Nat)) (fun (v40,v41) nx42=>((ltN v41 r32.2)=true→v41≤r32.2∧v41≤r32.2∧v41+(r32.2-v41)≤v40.length∧v41≤v40.length∧v41+(min (r32.2-v41) (v40.take v41).length)<2 ^ 63∧nx42 ((copyN v40 v41 (r32.2-v41) (v40.take v41)),(v41+(min (r32.2-v41) (v40.take v41).length))))∧((ltN v41 r32.2)=false→k39 v40)) ((copyN (List.replicate r32.2 (0:Nat)) 0 r32.2 ([2]:(List Nat))),(min r32.2 ([2]:(List Nat)).length))) (fun v38=>netlists_States_wp r1.1 (fun r43=>joinW (α:=Unit) (fun k44=>((ltN r43.length 0)=true→False)∧((ltN r43.length 0)=false→k44 ())) (fun _=>(([2]:(List Nat)).length)<2 ^ 63∧r43.length<2 ^ 63∧bits_Mul_wp (([2]:(List Nat)).length) r43.length (fun r45=>joinW (α:=Unit) (fun k46=>joinW (α:=Bool) (fun k48=>((ltN 0 r45.1)=true→k48 true)∧((ltN 0 r45.1)=false→k48 (ltN 9223372036854775807 r45.2))) (fun v47=>(v47=true→False)∧(v47=false→k46 ()))) (fun _=>r45.2<2 ^ 63∧1*r45.2≤2 ^ 48∧r45.2<2 ^ 63∧0+r45.2≤(List.replicate r45.2 (0:Nat)).length∧joinW (α:=(List Nat)) (fun k52=>loopW (S:=((List Nat)×Nat)) (fun (v53,v54) nx55=>((ltN v54 r45.2)=true→v54≤r45.2∧v54≤r45.2∧v54+(r45.2-v54)≤v53.length∧v54≤v53.length∧v54+(min (r45.2-v54) (v53.take v54).length)<2 ^ 63∧nx55 ((copyN v53 v54 (r45.2-v54) (v53.take v54)),(v54+(min (r45.2-v54) (v53.take v54).length))))∧((ltN v54 r45.2)=false→k52 v53)) ((copyN (List.replicate r45.2 (0:Nat)) 0 r45.2 ([2]:(List Nat))),(min r45.2 ([2]:(List Nat)).length))) (fun v51=>netlists_Inputs_wp r1.1 (fun r58=>netlists_States_wp r1.1 (fun r59=>joinW (α:=Bool) (fun k61=>((neN r6.1.length r1.1.nodes.length)=true→k61 true)∧((neN r6.1.length r1.1.nodes.length)=false→((neN r22.1.length r6.1.length)=true→k61 true)∧((neN r22.1.length r6.1.length)=false→((neN r23.1.length r6.1.length)=true→k61 true)∧((neN r23.1.length r6.1.length)=false→((neN r32.2 r58.length)=true→k61 true)∧((neN r32.2 r58.length)=false→k61 (neN r45.2 r59.length)))))) (fun v60=>(v60=true→K false)∧(v60=false→joinW (α:=(List Asg)) (fun k65=>loopW (S:=((List Asg)×Nat)) (fun (v67,v68) nx70=>((ltN v68 r6.1.length)=true→joinW (α:=(List Asg)) (fun k74=>joinW (α:=Bool) (fun k77=>∃ x78,r6.1[v68]?=some x78∧∃ x79,r7.1[v68]?=some x79∧((neN x78 x79)=true→k77 true)∧((neN x78 x79)=false→∃ x80,r6.1[v68]?=some x80∧∃ x81,r22.1[v68]?=some x81∧((neN x80 x81)=true→k77 true)∧((neN x80 x81)=false→∃ x82,r23.1[v68]?=some x82∧((neN x82 2)=true→∃ x83,r23.1[v68]?=some x83∧∃ x84,r6.1[v68]?=some x84∧k77 (neN x83 x84))∧((neN x82 2)=false→k77 false)))) (fun v75=>(v75=true→K false)∧(v75=false→∃ x85,r6.1[v68]?=some x85∧((neN x85 2)=true→∃ x86,r6.1[v68]?=some x86∧(v67.length+([(⟨v68,x86⟩:Asg)]:(List Asg)).length)*16≤2 ^ 47∧k74 (v67++([(⟨v68,x86⟩:Asg)]:(List Asg))))∧((neN x85 2)=false→k74 v67)))) (fun v72=>v68+1<2 ^ 63∧nx70 (v72,(v68+1))))∧((ltN v68 r6.1.length)=false→k65 v67)) (([]:List Asg),0)) (fun v63=>joinW (α:=(List Nat)) (fun k91=>loopW (S:=((List Nat)×Nat)) (fun (v92,v93) nx95=>((ltN v93 r58.length)=true→∃ x96,r58[v93]?=some x96∧∃ x97,r6.1[x96]?=some x97∧v93<r32.2∧∃ x98,v92[v93]?=some x98∧v93+1<2 ^ 63∧nx95 ((v92.set v93 x97),(v93+1)))∧((ltN v93 r58.length)=false→k91 v92)) (v38,0)) (fun v89=>joinW (α:=(List Nat)) (fun k101=>loopW (S:=((List Nat)×Nat)) (fun (v102,v103) nx105=>((ltN v103 r59.length)=true→∃ x106,r59[v103]?=some x106∧∃ x107,r6.1[x106]?=some x107∧v103<r45.2∧∃ x108,v102[v103]?=some x108∧v103+1<2 ^ 63∧nx105 ((v102.set v103 x107),(v103+1)))∧((ltN v103 r59.length)=false→k101 v102)) (v51,0)) (fun v99=>implies_Close_wp r1.1 v63 (fun r109=>r32.2=v89.length∧r45.2=v99.length∧sims_Run_wp r1.1 (⟨v89,v99⟩:Pat) (fun r110=>joinW (α:=Bool) (fun k116=>((neN r109.2.2 0)=true→k116 true)∧((neN r109.2.2 0)=false→((!r109.2.1)=true→k116 true)∧((!r109.2.1)=false→((neN r110.2.2 0)=true→k116 true)∧((neN r110.2.2 0)=false→((neN r110.2.1.length r6.1.length)=true→k116 true)∧((neN r110.2.1.length r6.1.length)=false→k116 (neN r109.1.length r6.1.length)))))) (fun v115=>(v115=true→K false)∧(v115=false→joinW (α:=Unit) (fun k117=>loopW (S:=Nat) (fun v118 nx119=>((ltN v118 r6.1.length)=true→joinW (α:=Bool) (fun k121=>∃ x122,r109.1[v118]?=some x122∧∃ x123,r6.1[v118]?=some x123∧((neN x122 x123)=true→k121 true)∧((neN x122 x123)=false→∃ x124,r110.2.1[v118]?=some x124∧((neN x124 2)=true→∃ x125,r110.2.1[v118]?=some x125∧∃ x126,r6.1[v118]?=some x126∧k121 (neN x125 x126))∧((neN x124 2)=false→k121 false))) (fun v120=>(v120=true→K false)∧(v120=false→v118+1<2 ^ 63∧nx119 (v118+1))))∧((ltN v118 r6.1.length)=false→k117 ())) 0) (fun _=>law24_lives_wp  (fun r127=>K r127))))))))))))))))))))))))))))))))))
theorem probecardlaw24_ImpliesCloses_walk {p0:CData}{p1:(List U2)}{p2:Nat}{K:Bool→Prop} (hm:probecardlaw24_ImpliesCloses_wp p0 p1 p2 K) {h0:Heap} (hB:HasB vars h0):∃ r,K r∧CallD Tryz.prog NG 3 ⟨[encC p0,(encL 2 encU2) p1,n8 p2]⟩ h0 (Value.bool r) h0:=by
 unfold probecardlaw24_ImpliesCloses_wp at hm
 refine fnW hM Tryz.func3 rfl (hP _ _ rfl Tryz.func3) (lbE rfl) hB (enc:=Value.bool) (fun r=>PureV.flat rfl) fun O=>?_;conv=>whnf
 apply Cs;(conv=>whnf);repeat(first|apply Cs|apply Hs|apply Hx|apply Hf);conv=>whnf
 refine NewG.frz rfl ?_;(conv=>whnf);repeat(first|apply Cs|apply Hs|apply Hx|apply Hf);conv=>whnf
 refine⟨_,(rfl:aread _ _ _ _=some _),?_⟩;(conv=>whnf);repeat(first|apply Hs|apply Hx|apply Hf);conv=>whnf
 obtain⟨r1,hm,hcall⟩:=probecardlaw24_Small_walk hm O.has
 refine⟨_,_,hcall,?_⟩;(conv=>whnf);repeat(first|apply Hs|apply Hx|apply Hf);conv=>whnf
 refine O.new (anew_alloc (l:=[(.slice none 0 0),(.slice none 0 0),(.slice none 0 0),(.slice none 0 0)]) rfl rfl rfl) fun g2 h O=>?_;(conv=>whnf);repeat(first|apply Hs|apply Hx);conv=>whnf
 refine O.store (n:=4) (cs':=[((encL 4 encNode) r1.1.nodes),((encL 1 Value.string) r1.1.names),((encL 3 encMem) r1.1.mems),((encL 1 i64) r1.1.outs)]) (.head _) rfl rfl rfl rfl (lbE rfl) rfl rfl fun h O=>?_;(conv=>whnf);repeat(first|apply Cs|apply Hs|apply Hx|apply Hf);conv=>whnf
 refine lenM (s:=2) (enc:=encU2) (l:=p1) rfl rfl ?_;(conv=>whnf);repeat(first|apply Cs|apply Hs|apply Hx|apply Hf);conv=>whnf
 refine⟨_,rfl,fun hc=>?_,fun hc=>?_⟩
 ·replace hm:=hm.1 hc
  apply Cs;(conv=>whnf);repeat(first|apply Cs|apply Hs|apply Hx|apply Hf);conv=>whnf
  obtain⟨r4,hm,hcall⟩:=law24_lives_walk hm O.has
  refine⟨_,_,hcall,?_⟩;(conv=>whnf);repeat(first|apply Cs|apply Hs|apply Hx|apply Hf);conv=>whnf
  exact⟨r4,hm,O.ext,fun h2 F=>VLe.refl _ _⟩
 ·replace hm:=hm.2 hc
  apply Cs;(conv=>whnf);repeat(first|apply Cs|apply Hs|apply Hx|apply Hf);conv=>whnf
  refine⟨_,loadK rfl (O.at (.head _)) rfl rfl,?_⟩;(conv=>whnf);repeat(first|apply Hs|apply Hx|apply Hf);conv=>whnf
  refine lenM (s:=4) (enc:=encNode) (l:=r1.1.nodes) rfl rfl ?_;(conv=>whnf);repeat(first|apply Hs|apply Hx|apply Hf);conv=>whnf
  obtain⟨r5,hm,hcall⟩:=probecardlaw24_Given_walk hm O.has
  refine⟨_,_,hcall,?_⟩;(conv=>whnf);repeat(first|apply Cs|apply Hs|apply Hx|apply Hf);conv=>whnf
  refine⟨_,loadAggK rfl (O.at (.head _)) rfl rfl (lbE rfl) rfl,?_⟩;(conv=>whnf);repeat(first|apply Hs|apply Hx|apply Hf);conv=>whnf
  obtain⟨r6,hm,hcall⟩:=implies_Close_walk hm O.has
  refine⟨_,_,hcall,?_⟩;(conv=>whnf);repeat(first|apply Cs|apply Hs|apply Hx|apply Hf);conv=>whnf
  refine⟨_,loadAggK rfl (O.at (.head _)) rfl rfl (lbE rfl) rfl,?_⟩;(conv=>whnf);repeat(first|apply Hs|apply Hx|apply Hf);conv=>whnf
  obtain⟨r7,hm,hcall⟩:=probecardlaw24_closed_walk hm O.has
  refine⟨_,_,hcall,?_⟩;(conv=>whnf);repeat(first|apply Hs|apply Hx|apply Hf);conv=>whnf
  apply Cs;conv=>whnf
  apply Cs;(conv=>whnf);repeat(first|apply Hs|apply Hx|apply Hf);conv=>whnf
  have O:=O.addNil (.cells (flatC ((([]:List Asg)).map encAsg)) false)
  refine CodeS.joinWS hm (nn:=335) (σ:=(List Asg)×Option Nat) (fun s=>s.1) (fun (v10,a9) h=>(a9=none→v10=[])∧Own vars h0 [((some g2),.cells [((encL 4 encNode) r1.1.nodes),((encL 1 Value.string) r1.1.names),((encL 3 encMem) r1.1.mems),((encL 1 i64) r1.1.outs)] false),(a9,.cells (flatC (v10.map encAsg)) false)] h∧True) (fun (v10,a9)=>[(2,(n8 p2)),(7,(.pointer (some ⟨g2,0,none⟩))),(9,((encL 2 encAsg) r5)),(10,((encL 1 n8) r6.1)),(11,(.bool r6.2.1)),(12,(i64 r6.2.2)),(13,((encL 1 n8) r7.1)),(14,(.bool r7.2)),(15,(growV 2 a9 (v10.map encAsg)))]) rfl (fun hm'=>?_) ?_
  ·replace hm:=hm'
   apply Cs;(conv=>whnf);repeat(first|apply Cs|apply Hs|apply Hx|apply Hf);conv=>whnf
   refine lenM (s:=2) (enc:=encAsg) (l:=r5) rfl rfl ?_;(conv=>whnf);repeat(first|apply Hs|apply Hx|apply Hf);conv=>whnf
   refine⟨_,subZK (a:=(Int.ofNat r5.length)) (b:=(Int.ofNat 1)) rfl rfl hm.1 hm.2.1,?_⟩;(conv=>whnf);repeat(first|apply Cs|apply Hs|apply Hx|apply Hf);conv=>whnf
   replace hm:=hm.2.2
   refine loopWK hM (by kernel_rfl) (nn:=335) (S:=((List Asg)×Int)) (σ:=((List Asg)×Int)×Option Nat) (fun s=>s.1) (fun ((v14,v15),a13) h=>(a13=none→v14=[])∧Own vars h0 [((some g2),.cells [((encL 4 encNode) r1.1.nodes),((encL 1 Value.string) r1.1.names),((encL 3 encMem) r1.1.mems),((encL 1 i64) r1.1.outs)] false),(a13,.cells (flatC (v14.map encAsg)) false)] h∧True) (fun ((v14,v15),a13)=>[(2,(n8 p2)),(7,(.pointer (some ⟨g2,0,none⟩))),(9,((encL 2 encAsg) r5)),(10,((encL 1 n8) r6.1)),(11,(.bool r6.2.1)),(12,(i64 r6.2.2)),(13,((encL 1 n8) r7.1)),(14,(.bool r7.2)),(15,(growV 2 a13 (v14.map encAsg))),(16,(z64 v15))]) rfl ((([]:List Asg),((Int.ofNat r5.length)-(Int.ofNat 1))),none) hm ⟨(fun _=>rfl),(O.sel [1,0] (by decide)),trivial⟩ ⟨VLe.refl _ _,VLe.refl _ _,VLe.refl _ _,VLe.refl _ _,VLe.refl _ _,VLe.refl _ _,VLe.refl _ _,VLe.refl _ _,VLe.refl _ _,VLe.refl _ _,trivial⟩ ?_
   clear hm;rintro⟨⟨v14,v15⟩,a13⟩ nx17 base h hm ⟨ha16,O,_⟩
   ((conv=>whnf);repeat(first|apply Cs|apply Hs|apply Hx|apply Hf);conv=>whnf)
   refine⟨_,rfl,fun hc=>?_,fun hc=>?_⟩
   ·replace hm:=hm.1 hc
    obtain⟨j18,rfl⟩:=natOf hc
    replace hm:=hm j18 rfl
    apply Cs;(conv=>whnf);repeat(first|apply Cs|apply Hs|apply Hx|apply Hf);conv=>whnf
    obtain⟨x19,hx19,hm⟩:=hm
    refine flAtM (s:=2) (enc:=encAsg) (j:=j18) rfl rfl rfl rfl hx19 ?_;(conv=>whnf);repeat(first|apply Hs|apply Hx|apply Hf);conv=>whnf
    refine⟨_,(rfl:aread _ _ _ _=some _),?_⟩;(conv=>whnf);repeat(first|apply Hs|apply Hx|apply Hf);conv=>whnf
    refine NewG.frz rfl ?_;(conv=>whnf);repeat(first|apply Hs|apply Hx|apply Hf);conv=>whnf
    refine O.appendL (enc:=encAsg) (l:=v14) (new:=([x19]:(List Asg))) (s:=2) (b:=16) (.tail _ (.head _)) ha16 rfl rfl rfl rfl rfl rfl rfl rfl (YOk.fl rfl) (fun _=>rfl) (fun _=>rfl) (by decide) hm.1 fun a20 h ha21 O=>?_;(conv=>whnf);repeat(first|apply Cs|apply Hs|apply Hx|apply Hf);conv=>whnf
    replace hm:=hm.2
    refine⟨_,subZK (a:=(Int.ofNat j18)) (b:=(Int.ofNat 1)) rfl rfl hm.1 hm.2.1,?_⟩;(conv=>whnf);repeat(first|apply Hs|apply Hx|apply Hf);conv=>whnf
    replace hm:=hm.2.2
    exact⟨(((v14++([x19]:(List Asg))),((Int.ofNat j18)-(Int.ofNat 1))),a20),hm,⟨ha21,O,trivial⟩,VLe.refl _ _,VLe.refl _ _,VLe.refl _ _,VLe.refl _ _,VLe.refl _ _,VLe.refl _ _,VLe.refl _ _,VLe.refl _ _,VLe.refl _ _,VLe.refl _ _,trivial⟩
   ·replace hm:=hm.2 hc
    apply Cs;(conv=>whnf);repeat(first|apply Cs|apply Hs|apply Hx|apply Hf);conv=>whnf
    exact⟨(v14,a13),hm,⟨ha16,O,trivial⟩,VLe.refl _ _,VLe.refl _ _,VLe.refl _ _,VLe.refl _ _,VLe.refl _ _,VLe.refl _ _,VLe.refl _ _,VLe.refl _ _,VLe.refl _ _,trivial⟩
  ·clear hm;rintro⟨v10,a9⟩ base h hm ⟨ha11,O,_⟩
   ((conv=>whnf);repeat(first|apply Cs|apply Hs|apply Hx|apply Hf);conv=>whnf)
   refine⟨_,loadAggK rfl (O.at (.head _)) rfl rfl (lbE rfl) rfl,?_⟩;(conv=>whnf);repeat(first|apply Hs|apply Hx|apply Hf);conv=>whnf
   refine O.useG (fun _ hb=>implies_Close_walk hm hb) (.tail _ (.head _)) ha11 (fun _=>rfl) (i:=1) rfl (by kernel_rfl) (fun h2 q=>(LLe.cons (VLe.refl _ _) (LLe.cons (q) (LLe.nil _)))) (fun r22 h hm' O=>?_);replace hm:=hm';(conv=>whnf);repeat(first|apply Cs|apply Hs|apply Hx|apply Hf);conv=>whnf
   refine⟨_,loadAggK rfl (O.at (.head _)) rfl rfl (lbE rfl) rfl,?_⟩;(conv=>whnf);repeat(first|apply Hs|apply Hx|apply Hf);conv=>whnf
   first|refine⟨.inr (.inr (loadAggK rfl (O.at (.head _)) rfl rfl (lbE rfl) rfl)),?_⟩|refine⟨.inr (.inl (by kernel_rfl)),?_⟩
   ((conv=>whnf);repeat(first|apply Cs|apply Hs|apply Hx|apply Hf);conv=>whnf)
   refine⟨_,convIntK (a:=Int.ofNat p2) rfl rfl rfl (wrapI64 (Nat.lt_of_lt_of_le hm.1 (by decide))),?_⟩;(conv=>whnf);repeat(first|apply Hs|apply Hx|apply Hf);conv=>whnf
   refine⟨.inl rfl,?_⟩;(conv=>whnf);repeat(first|apply Hs|apply Hx);conv=>whnf
   replace hm:=hm.2
   refine lenM (s:=2) (enc:=encAsg) (l:=r5) rfl rfl ?_;(conv=>whnf);repeat(first|apply Hs|apply Hx|apply Hf);conv=>whnf
   refine⟨_,addK (a:=r5.length) (b:=1) rfl rfl hm.1,?_⟩;(conv=>whnf);repeat(first|apply Hs|apply Hx|apply Hf);conv=>whnf
   replace hm:=hm.2
   refine⟨_,remK (a:=p2) (b:=(r5.length+1)) rfl rfl hm.1,?_⟩;(conv=>whnf);repeat(first|apply Hs|apply Hx|apply Hf);conv=>whnf
   replace hm:=hm.2
   refine fromFK (s:=2) (enc:=encAsg) (l:=r5) (k:=(p2%(r5.length+1))) rfl rfl rfl rfl hm.1 ?_;(conv=>whnf);repeat(first|apply Hs|apply Hx|apply Hf);conv=>whnf
   replace hm:=hm.2
   obtain⟨r23,hm,hcall⟩:=implies_Close_walk hm O.has
   refine⟨_,_,hcall,?_⟩;(conv=>whnf);repeat(first|apply Hs|apply Hx|apply Hf);conv=>whnf
   refine⟨.inl (Ext.refl _),?_⟩;(conv=>whnf);repeat(first|apply Hs|apply Hx);conv=>whnf
   apply Cs;conv=>whnf
   refine CodeS.joinWS hm (nn:=335) (σ:=Bool×Unit) (fun s=>s.1) (fun (v24,_) h=>Own vars h0 [((some g2),.cells [((encL 4 encNode) r1.1.nodes),((encL 1 Value.string) r1.1.names),((encL 3 encMem) r1.1.mems),((encL 1 i64) r1.1.outs)] false)] h∧True) (fun (v24,_)=>[(7,(.pointer (some ⟨g2,0,none⟩))),(10,((encL 1 n8) r6.1)),(11,(.bool r6.2.1)),(13,((encL 1 n8) r7.1)),(17,((encL 1 n8) r22.1)),(20,((encL 1 n8) r23.1)),(125,(.bool v24))]) rfl (fun hm'=>?_) ?_
   ·replace hm:=hm'
    apply Cs;(conv=>whnf);repeat(first|apply Cs|apply Hs|apply Hx|apply Hf);conv=>whnf
    refine⟨_,rfl,fun hc=>?_,fun hc=>?_⟩
    ·replace hm:=hm.1 hc;(conv=>whnf);repeat(first|apply Hs|apply Hx|apply Hf);conv=>whnf
     refine⟨true,rfl,fun _=>?_,(fun hc=>nomatch hc)⟩;(conv=>whnf);repeat(first|apply Hs|apply Hx|apply Hf);conv=>whnf
     refine⟨true,rfl,fun _=>?_,(fun hc=>nomatch hc)⟩;(conv=>whnf);repeat(first|apply Hs|apply Hx|apply Hf);conv=>whnf
     refine⟨true,rfl,fun _=>?_,(fun hc=>nomatch hc)⟩;(conv=>whnf);repeat(first|apply Hs|apply Hx|apply Hf);conv=>whnf
     refine⟨true,rfl,fun _=>?_,(fun hc=>nomatch hc)⟩;(conv=>whnf);repeat(first|apply Hs|apply Hx|apply Hf);conv=>whnf
     exact⟨(true,()),hm,⟨(O.sel [0] (by decide)),trivial⟩,VLe.refl _ _,VLe.refl _ _,VLe.refl _ _,VLe.refl _ _,VLe.refl _ _,VLe.refl _ _,VLe.refl _ _,trivial⟩
    ·replace hm:=hm.2 hc;(conv=>whnf);repeat(first|apply Hs|apply Hx|apply Hf);conv=>whnf
     refine⟨_,rfl,fun hc=>?_,fun hc=>?_⟩
     ·replace hm:=hm.1 hc;(conv=>whnf);repeat(first|apply Hs|apply Hx|apply Hf);conv=>whnf
      refine⟨true,rfl,fun _=>?_,(fun hc=>nomatch hc)⟩;(conv=>whnf);repeat(first|apply Hs|apply Hx|apply Hf);conv=>whnf
      refine⟨true,rfl,fun _=>?_,(fun hc=>nomatch hc)⟩;(conv=>whnf);repeat(first|apply Hs|apply Hx|apply Hf);conv=>whnf
      refine⟨true,rfl,fun _=>?_,(fun hc=>nomatch hc)⟩;(conv=>whnf);repeat(first|apply Hs|apply Hx|apply Hf);conv=>whnf
      exact⟨(true,()),hm,⟨(O.sel [0] (by decide)),trivial⟩,VLe.refl _ _,VLe.refl _ _,VLe.refl _ _,VLe.refl _ _,VLe.refl _ _,VLe.refl _ _,VLe.refl _ _,trivial⟩
     ·replace hm:=hm.2 hc;(conv=>whnf);repeat(first|apply Hs|apply Hx|apply Hf);conv=>whnf
      refine⟨_,rfl,fun hc=>?_,fun hc=>?_⟩
      ·replace hm:=hm.1 hc;(conv=>whnf);repeat(first|apply Hs|apply Hx|apply Hf);conv=>whnf
       refine⟨true,rfl,fun _=>?_,(fun hc=>nomatch hc)⟩;(conv=>whnf);repeat(first|apply Hs|apply Hx|apply Hf);conv=>whnf
       refine⟨true,rfl,fun _=>?_,(fun hc=>nomatch hc)⟩;(conv=>whnf);repeat(first|apply Hs|apply Hx|apply Hf);conv=>whnf
       exact⟨(true,()),hm,⟨(O.sel [0] (by decide)),trivial⟩,VLe.refl _ _,VLe.refl _ _,VLe.refl _ _,VLe.refl _ _,VLe.refl _ _,VLe.refl _ _,VLe.refl _ _,trivial⟩
      ·replace hm:=hm.2 hc;(conv=>whnf);repeat(first|apply Hs|apply Hx|apply Hf);conv=>whnf
       refine⟨_,rfl,fun hc=>?_,fun hc=>?_⟩
       ·replace hm:=hm.1 hc;(conv=>whnf);repeat(first|apply Hs|apply Hx|apply Hf);conv=>whnf
        refine⟨true,rfl,fun _=>?_,(fun hc=>nomatch hc)⟩;(conv=>whnf);repeat(first|apply Hs|apply Hx|apply Hf);conv=>whnf
        exact⟨(true,()),hm,⟨(O.sel [0] (by decide)),trivial⟩,VLe.refl _ _,VLe.refl _ _,VLe.refl _ _,VLe.refl _ _,VLe.refl _ _,VLe.refl _ _,VLe.refl _ _,trivial⟩
       ·replace hm:=hm.2 hc;(conv=>whnf);repeat(first|apply Hs|apply Hx|apply Hf);conv=>whnf
        refine⟨_,rfl,fun hc=>?_,fun hc=>?_⟩
        ·replace hm:=hm.1 hc;(conv=>whnf);repeat(first|apply Hs|apply Hx|apply Hf);conv=>whnf
         exact⟨(true,()),hm,⟨(O.sel [0] (by decide)),trivial⟩,VLe.refl _ _,VLe.refl _ _,VLe.refl _ _,VLe.refl _ _,VLe.refl _ _,VLe.refl _ _,VLe.refl _ _,trivial⟩
        ·replace hm:=hm.2 hc;(conv=>whnf);repeat(first|apply Hs|apply Hx|apply Hf);conv=>whnf
         refine⟨_,rfl,fun hc=>?_,fun hc=>?_⟩
         ·replace hm:=hm.1 hc;(conv=>whnf);repeat(first|apply Hs|apply Hx|apply Hf);conv=>whnf
          exact⟨((!r23.2.1),()),hm,⟨(O.sel [0] (by decide)),trivial⟩,VLe.refl _ _,VLe.refl _ _,VLe.refl _ _,VLe.refl _ _,VLe.refl _ _,VLe.refl _ _,VLe.refl _ _,trivial⟩
         ·replace hm:=hm.2 hc;(conv=>whnf);repeat(first|apply Hs|apply Hx|apply Hf);conv=>whnf
          exact⟨(false,()),hm,⟨(O.sel [0] (by decide)),trivial⟩,VLe.refl _ _,VLe.refl _ _,VLe.refl _ _,VLe.refl _ _,VLe.refl _ _,VLe.refl _ _,VLe.refl _ _,trivial⟩
   ·clear hm;rintro⟨v24,_⟩ base h hm ⟨O,_⟩
    ((conv=>whnf);repeat(first|apply Cs|apply Hs|apply Hx|apply Hf);conv=>whnf)
    refine⟨_,rfl,fun hc=>?_,fun hc=>?_⟩
    ·replace hm:=hm.1 hc
     apply Cs;(conv=>whnf);repeat(first|apply Cs|apply Hs|apply Hx|apply Hf);conv=>whnf
     exact⟨false,hm,O.ext,fun h2 F=>VLe.refl _ _⟩
    ·replace hm:=hm.2 hc
     apply Cs;(conv=>whnf);repeat(first|apply Cs|apply Hs|apply Hx|apply Hf);conv=>whnf
     refine⟨_,rfl,fun hc=>?_,fun hc=>?_⟩
     ·replace hm:=hm.1 hc
      apply Cs;(conv=>whnf);repeat(first|apply Cs|apply Hs|apply Hx|apply Hf);conv=>whnf
      obtain⟨r26,hm,hcall⟩:=law24_lives_walk hm O.has
      refine⟨_,_,hcall,?_⟩;(conv=>whnf);repeat(first|apply Cs|apply Hs|apply Hx|apply Hf);conv=>whnf
      exact⟨r26,hm,O.ext,fun h2 F=>VLe.refl _ _⟩
     ·replace hm:=hm.2 hc
      apply Cs;(conv=>whnf);repeat(first|apply Cs|apply Hs|apply Hx|apply Hf);conv=>whnf
      have O:=O.addNil (.cells (flatC ((([]:List Asg)).map encAsg)) false)
      refine⟨_,loadAggK rfl (O.at (.tail _ (.head _))) rfl rfl (lbE rfl) rfl,?_⟩;(conv=>whnf);repeat(first|apply Hs|apply Hx|apply Hf);conv=>whnf
      refine fnG hM Tryz.func16 rfl (hP _ _ rfl Tryz.func16) (lbE rfl) ?_;(conv=>whnf);repeat(first|apply Cs|apply Hs|apply Hx|apply Hf);conv=>whnf
      refine NewG.frz rfl ?_;(conv=>whnf);repeat(first|apply Hs|apply Hx|apply Hf);conv=>whnf
      refine O.new (anew_alloc (l:=[(.slice none 0 0),(.slice none 0 0)]) rfl rfl rfl) fun g28 h O=>?_;(conv=>whnf);repeat(first|apply Hs|apply Hx);conv=>whnf
      apply Cs;conv=>whnf
      apply Cs;(conv=>whnf);repeat(first|apply Hs|apply Hx|apply Hf);conv=>whnf
      apply Cs;conv=>whnf
      refine CodeS.drawF ?_;(conv=>whnf);repeat(first|apply Hs|apply Hx|apply Hf);conv=>whnf
      refine⟨_,(rfl:aread _ _ _ _=some _),?_⟩;(conv=>whnf);repeat(first|apply Hs|apply Hx|apply Hf);conv=>whnf
      refine⟨rfl,?_⟩;(conv=>whnf);repeat(first|apply Hs|apply Hx|apply Hf);conv=>whnf
      obtain⟨r30,hm,hcall⟩:=netlists_Inputs_walk hm O.has
      refine⟨_,_,hcall,?_⟩;(conv=>whnf);repeat(first|apply Hs|apply Hx|apply Hf);conv=>whnf
      refine lenM (s:=1) (enc:=i64) (l:=r30) rfl rfl ?_;(conv=>whnf);repeat(first|apply Hs|apply Hx|apply Hf);conv=>whnf
      refine fnG hM Tryz.func45 rfl (hP _ _ rfl Tryz.func45) (lbE rfl) ?_;(conv=>whnf);repeat(first|apply Cs|apply Hs|apply Hx|apply Hf);conv=>whnf
      refine NewG.frz rfl ?_;(conv=>whnf);repeat(first|apply Hs|apply Hx|apply Hf);conv=>whnf
      refine fnG hM Tryz.func46 rfl (hP _ _ rfl Tryz.func46) (lbE rfl) ?_;conv=>whnf
      apply Cs;conv=>whnf
      apply Cs;(conv=>whnf);repeat(first|apply Hs|apply Hx|apply Hf);conv=>whnf
      refine CodeS.joinWS hm (nn:=48) (σ:=Unit×Unit) (fun s=>s.1) (fun (_,_) h=>Own vars h0 [((some g2),.cells [((encL 4 encNode) r1.1.nodes),((encL 1 Value.string) r1.1.names),((encL 3 encMem) r1.1.mems),((encL 1 i64) r1.1.outs)] false),(none,.cells (flatC (([]:List Asg).map encAsg)) false),((some g28),.cells [(.slice none 0 0),(.slice none 0 0)] false)] h∧True) (fun (_,_)=>[(0,((encL 1 n8) ([2]:(List Nat)))),(1,(i64 r30.length))]) rfl (fun hm'=>?_) ?_
      ·replace hm:=hm'
       apply Cs;(conv=>whnf);repeat(first|apply Cs|apply Hs|apply Hx|apply Hf);conv=>whnf
       refine⟨_,rfl,fun hc=>?_,fun hc=>?_⟩
       ·replace hm:=hm.1 hc
        apply Cs;(conv=>whnf);repeat(first|apply Cs|apply Hs|apply Hx|apply Hf);conv=>whnf
        exact False.elim hm
       ·replace hm:=hm.2 hc
        apply Cs;(conv=>whnf);repeat(first|apply Cs|apply Hs|apply Hx|apply Hf);conv=>whnf
        exact⟨((),()),hm,⟨(O.sel [2,1,0] (by decide)),trivial⟩,VLe.refl _ _,VLe.refl _ _,trivial⟩
      ·clear hm;rintro⟨_,_⟩ base h hm ⟨O,_⟩
       ((conv=>whnf);repeat(first|apply Cs|apply Hs|apply Hx|apply Hf);conv=>whnf)
       refine lenM (s:=1) (enc:=n8) (l:=([2]:(List Nat))) rfl rfl ?_;(conv=>whnf);repeat(first|apply Hs|apply Hx|apply Hf);conv=>whnf
       refine⟨_,convIntK (a:=Int.ofNat (([2]:(List Nat)).length)) rfl rfl rfl (wrapU64 (Nat.lt_of_lt_of_le hm.1 (by decide))),?_⟩;(conv=>whnf);repeat(first|apply Hs|apply Hx|apply Hf);conv=>whnf
       replace hm:=hm.2
       refine⟨_,convIntK (a:=Int.ofNat r30.length) rfl rfl rfl (wrapU64 (Nat.lt_of_lt_of_le hm.1 (by decide))),?_⟩;(conv=>whnf);repeat(first|apply Hs|apply Hx|apply Hf);conv=>whnf
       replace hm:=hm.2
       obtain⟨r32,hm,hcall⟩:=bits_Mul_walk hm O.has
       refine⟨_,_,hcall,?_⟩;(conv=>whnf);repeat(first|apply Hs|apply Hx|apply Hf);conv=>whnf
       refine CodeS.joinWS hm (nn:=48) (σ:=Unit×Unit) (fun s=>s.1) (fun (_,_) h=>Own vars h0 [((some g2),.cells [((encL 4 encNode) r1.1.nodes),((encL 1 Value.string) r1.1.names),((encL 3 encMem) r1.1.mems),((encL 1 i64) r1.1.outs)] false),(none,.cells (flatC (([]:List Asg).map encAsg)) false),((some g28),.cells [(.slice none 0 0),(.slice none 0 0)] false)] h∧True) (fun (_,_)=>[(0,((encL 1 n8) ([2]:(List Nat)))),(6,(n64 r32.2))]) rfl (fun hm'=>?_) ?_
       ·replace hm:=hm'
        refine CodeS.joinWS hm (nn:=48) (σ:=Bool×Unit) (fun s=>s.1) (fun (v34,_) h=>Own vars h0 [((some g2),.cells [((encL 4 encNode) r1.1.nodes),((encL 1 Value.string) r1.1.names),((encL 3 encMem) r1.1.mems),((encL 1 i64) r1.1.outs)] false),(none,.cells (flatC (([]:List Asg).map encAsg)) false),((some g28),.cells [(.slice none 0 0),(.slice none 0 0)] false)] h∧True) (fun (v34,_)=>[(0,((encL 1 n8) ([2]:(List Nat)))),(6,(n64 r32.2)),(26,(.bool v34))]) rfl (fun hm'=>?_) ?_
        ·replace hm:=hm'
         apply Cs;(conv=>whnf);repeat(first|apply Cs|apply Hs|apply Hx|apply Hf);conv=>whnf
         refine⟨_,rfl,fun hc=>?_,fun hc=>?_⟩
         ·replace hm:=hm.1 hc;(conv=>whnf);repeat(first|apply Hs|apply Hx|apply Hf);conv=>whnf
          exact⟨(true,()),hm,⟨O,trivial⟩,VLe.refl _ _,VLe.refl _ _,VLe.refl _ _,trivial⟩
         ·replace hm:=hm.2 hc;(conv=>whnf);repeat(first|apply Hs|apply Hx|apply Hf);conv=>whnf
          exact⟨((ltN 9223372036854775807 r32.2),()),hm,⟨O,trivial⟩,VLe.refl _ _,VLe.refl _ _,VLe.refl _ _,trivial⟩
        ·clear hm;rintro⟨v34,_⟩ base h hm ⟨O,_⟩
         ((conv=>whnf);repeat(first|apply Cs|apply Hs|apply Hx|apply Hf);conv=>whnf)
         refine⟨_,rfl,fun hc=>?_,fun hc=>?_⟩
         ·replace hm:=hm.1 hc
          apply Cs;(conv=>whnf);repeat(first|apply Cs|apply Hs|apply Hx|apply Hf);conv=>whnf
          exact False.elim hm
         ·replace hm:=hm.2 hc
          apply Cs;(conv=>whnf);repeat(first|apply Cs|apply Hs|apply Hx|apply Hf);conv=>whnf
          exact⟨((),()),hm,⟨O,trivial⟩,VLe.refl _ _,VLe.refl _ _,trivial⟩
       ·clear hm;rintro⟨_,_⟩ base h hm ⟨O,_⟩
        ((conv=>whnf);repeat(first|apply Cs|apply Hs|apply Hx|apply Hf);conv=>whnf)
        refine⟨_,convIntK (a:=Int.ofNat r32.2) rfl rfl rfl (wrapI64 hm.1),?_⟩;(conv=>whnf);repeat(first|apply Hs|apply Hx|apply Hf);conv=>whnf
        replace hm:=hm.2
        refine O.makeL (enc:=n8) (z:=0) (b:=1) (s:=1) (n:=r32.2) rfl rfl rfl rfl rfl (by decide) (by kernel_rfl) rfl rfl hm.1 hm.2.1 fun g36 h O=>?_;(conv=>whnf);repeat(first|apply Cs|apply Hs|apply Hx|apply Hf);conv=>whnf
        replace hm:=hm.2.2
        refine O.copyW (enc:=n8) (l:=(List.replicate r32.2 (0:Nat))) (src:=([2]:(List Nat))) (s:=1) (o:=0) (.head _) rfl rfl (by decide) rfl (SrcOk.fl rfl) (fun _=>rfl) (by decide) (fun _=>rfl) hm.1 fun h O=>?_;(conv=>whnf);repeat(first|apply Hs|apply Hx|apply Hf);conv=>whnf
        replace hm:=hm.2
        refine CodeS.joinWS hm (nn:=48) (σ:=(List Nat)×Unit) (fun s=>s.1) (fun (v38,_) h=>Own vars h0 [((some g36),.cells (flatC (v38.map n8)) false),((some g2),.cells [((encL 4 encNode) r1.1.nodes),((encL 1 Value.string) r1.1.names),((encL 3 encMem) r1.1.mems),((encL 1 i64) r1.1.outs)] false),(none,.cells (flatC (([]:List Asg).map encAsg)) false),((some g28),.cells [(.slice none 0 0),(.slice none 0 0)] false)] h∧True) (fun (v38,_)=>[(7,(.slice (some ⟨g36,0,none⟩) r32.2 r32.2))]) rfl (fun hm'=>?_) ?_
        ·replace hm:=hm'
         apply Cs;(conv=>whnf);repeat(first|apply Cs|apply Hs|apply Hx|apply Hf);conv=>whnf
         refine loopWK hM (by kernel_rfl) (nn:=48) (S:=((List Nat)×Nat)) (σ:=((List Nat)×Nat)×Unit) (fun s=>s.1) (fun ((v40,v41),_) h=>Own vars h0 [((some g36),.cells (flatC (v40.map n8)) false),((some g2),.cells [((encL 4 encNode) r1.1.nodes),((encL 1 Value.string) r1.1.names),((encL 3 encMem) r1.1.mems),((encL 1 i64) r1.1.outs)] false),(none,.cells (flatC (([]:List Asg).map encAsg)) false),((some g28),.cells [(.slice none 0 0),(.slice none 0 0)] false)] h∧True) (fun ((v40,v41),_)=>[(7,(.slice (some ⟨g36,0,none⟩) r32.2 r32.2)),(8,(i64 v41))]) rfl (((copyN (List.replicate r32.2 (0:Nat)) 0 r32.2 ([2]:(List Nat))),(min r32.2 ([2]:(List Nat)).length)),()) hm ⟨O,trivial⟩ ⟨VLe.refl _ _,VLe.refl _ _,trivial⟩ ?_
         clear hm;rintro⟨⟨v40,v41⟩,_⟩ nx42 base h hm ⟨O,_⟩
         ((conv=>whnf);repeat(first|apply Cs|apply Hs|apply Hx|apply Hf);conv=>whnf)
         refine lenS (n:=r32.2) rfl rfl ?_;(conv=>whnf);repeat(first|apply Cs|apply Hs|apply Hx|apply Hf);conv=>whnf
         refine⟨_,rfl,fun hc=>?_,fun hc=>?_⟩
         ·replace hm:=hm.1 hc
          apply Cs;(conv=>whnf);repeat(first|apply Cs|apply Hs|apply Hx|apply Hf);conv=>whnf
          refine winFrom (s:=1) (m:=v41) rfl rfl rfl rfl hm.1 ?_;(conv=>whnf);repeat(first|apply Hs|apply Hx|apply Hf);conv=>whnf
          replace hm:=hm.2
          refine winTo (s:=1) (m:=v41) rfl rfl rfl rfl hm.1 ?_;(conv=>whnf);repeat(first|apply Hs|apply Hx|apply Hf);conv=>whnf
          replace hm:=hm.2
          refine O.copyW (enc:=n8) (l:=v40) (src:=(v40.take v41)) (s:=1) (o:=v41) (.head _) rfl rfl rfl rfl (SrcOk.win0 (O.at (.head _)) rfl (fun _=>rfl) hm.2.1) (fun _=>rfl) (by decide) (fun _=>rfl) hm.1 fun h O=>?_;(conv=>whnf);repeat(first|apply Hs|apply Hx|apply Hf);conv=>whnf
          refine⟨.inl rfl,?_⟩;(conv=>whnf);repeat(first|apply Hs|apply Hx);conv=>whnf
          replace hm:=hm.2.2
          refine⟨_,addK (a:=v41) (b:=(min (r32.2-v41) (v40.take v41).length)) rfl rfl hm.1,?_⟩;(conv=>whnf);repeat(first|apply Hs|apply Hx|apply Hf);conv=>whnf
          replace hm:=hm.2
          exact⟨(((copyN v40 v41 (r32.2-v41) (v40.take v41)),(v41+(min (r32.2-v41) (v40.take v41).length))),()),hm,⟨O,trivial⟩,VLe.refl _ _,VLe.refl _ _,trivial⟩
         ·replace hm:=hm.2 hc
          apply Cs;(conv=>whnf);repeat(first|apply Cs|apply Hs|apply Hx|apply Hf);conv=>whnf
          exact⟨(v40,()),hm,⟨O,trivial⟩,VLe.refl _ _,trivial⟩
        ·clear hm;rintro⟨v38,_⟩ base h hm ⟨O,_⟩
         ((conv=>whnf);repeat(first|apply Cs|apply Hs|apply Hx|apply Hf);conv=>whnf)
         refine⟨_,(rfl:aread _ _ _ _=some _),?_⟩;(conv=>whnf);repeat(first|apply Hs|apply Hx|apply Hf);conv=>whnf
         refine⟨rfl,?_⟩;(conv=>whnf);repeat(first|apply Hs|apply Hx|apply Hf);conv=>whnf
         obtain⟨r43,hm,hcall⟩:=netlists_States_walk hm O.has
         refine⟨_,_,hcall,?_⟩;(conv=>whnf);repeat(first|apply Hs|apply Hx|apply Hf);conv=>whnf
         refine lenM (s:=1) (enc:=i64) (l:=r43) rfl rfl ?_;(conv=>whnf);repeat(first|apply Hs|apply Hx|apply Hf);conv=>whnf
         refine fnG hM Tryz.func45 rfl (hP _ _ rfl Tryz.func45) (lbE rfl) ?_;(conv=>whnf);repeat(first|apply Cs|apply Hs|apply Hx|apply Hf);conv=>whnf
         refine NewG.frz rfl ?_;(conv=>whnf);repeat(first|apply Hs|apply Hx|apply Hf);conv=>whnf
         refine fnG hM Tryz.func46 rfl (hP _ _ rfl Tryz.func46) (lbE rfl) ?_;conv=>whnf
         apply Cs;conv=>whnf
         apply Cs;(conv=>whnf);repeat(first|apply Hs|apply Hx|apply Hf);conv=>whnf
         refine CodeS.joinWS hm (nn:=48) (σ:=Unit×Unit) (fun s=>s.1) (fun (_,_) h=>Own vars h0 [((some g2),.cells [((encL 4 encNode) r1.1.nodes),((encL 1 Value.string) r1.1.names),((encL 3 encMem) r1.1.mems),((encL 1 i64) r1.1.outs)] false),(none,.cells (flatC (([]:List Asg).map encAsg)) false),((some g28),.cells [(.slice none 0 0),(.slice none 0 0)] false),((some g36),.cells (flatC (v38.map n8)) false)] h∧True) (fun (_,_)=>[(0,((encL 1 n8) ([2]:(List Nat)))),(1,(i64 r43.length))]) rfl (fun hm'=>?_) ?_
         ·replace hm:=hm'
          apply Cs;(conv=>whnf);repeat(first|apply Cs|apply Hs|apply Hx|apply Hf);conv=>whnf
          refine⟨_,rfl,fun hc=>?_,fun hc=>?_⟩
          ·replace hm:=hm.1 hc
           apply Cs;(conv=>whnf);repeat(first|apply Cs|apply Hs|apply Hx|apply Hf);conv=>whnf
           exact False.elim hm
          ·replace hm:=hm.2 hc
           apply Cs;(conv=>whnf);repeat(first|apply Cs|apply Hs|apply Hx|apply Hf);conv=>whnf
           exact⟨((),()),hm,⟨(O.sel [1,2,3,0] (by decide)),trivial⟩,VLe.refl _ _,VLe.refl _ _,trivial⟩
         ·clear hm;rintro⟨_,_⟩ base h hm ⟨O,_⟩
          ((conv=>whnf);repeat(first|apply Cs|apply Hs|apply Hx|apply Hf);conv=>whnf)
          refine lenM (s:=1) (enc:=n8) (l:=([2]:(List Nat))) rfl rfl ?_;(conv=>whnf);repeat(first|apply Hs|apply Hx|apply Hf);conv=>whnf
          refine⟨_,convIntK (a:=Int.ofNat (([2]:(List Nat)).length)) rfl rfl rfl (wrapU64 (Nat.lt_of_lt_of_le hm.1 (by decide))),?_⟩;(conv=>whnf);repeat(first|apply Hs|apply Hx|apply Hf);conv=>whnf
          replace hm:=hm.2
          refine⟨_,convIntK (a:=Int.ofNat r43.length) rfl rfl rfl (wrapU64 (Nat.lt_of_lt_of_le hm.1 (by decide))),?_⟩;(conv=>whnf);repeat(first|apply Hs|apply Hx|apply Hf);conv=>whnf
          replace hm:=hm.2
          obtain⟨r45,hm,hcall⟩:=bits_Mul_walk hm O.has
          refine⟨_,_,hcall,?_⟩;(conv=>whnf);repeat(first|apply Hs|apply Hx|apply Hf);conv=>whnf
          refine CodeS.joinWS hm (nn:=48) (σ:=Unit×Unit) (fun s=>s.1) (fun (_,_) h=>Own vars h0 [((some g2),.cells [((encL 4 encNode) r1.1.nodes),((encL 1 Value.string) r1.1.names),((encL 3 encMem) r1.1.mems),((encL 1 i64) r1.1.outs)] false),(none,.cells (flatC (([]:List Asg).map encAsg)) false),((some g28),.cells [(.slice none 0 0),(.slice none 0 0)] false),((some g36),.cells (flatC (v38.map n8)) false)] h∧True) (fun (_,_)=>[(0,((encL 1 n8) ([2]:(List Nat)))),(6,(n64 r45.2))]) rfl (fun hm'=>?_) ?_
          ·replace hm:=hm'
           refine CodeS.joinWS hm (nn:=48) (σ:=Bool×Unit) (fun s=>s.1) (fun (v47,_) h=>Own vars h0 [((some g2),.cells [((encL 4 encNode) r1.1.nodes),((encL 1 Value.string) r1.1.names),((encL 3 encMem) r1.1.mems),((encL 1 i64) r1.1.outs)] false),(none,.cells (flatC (([]:List Asg).map encAsg)) false),((some g28),.cells [(.slice none 0 0),(.slice none 0 0)] false),((some g36),.cells (flatC (v38.map n8)) false)] h∧True) (fun (v47,_)=>[(0,((encL 1 n8) ([2]:(List Nat)))),(6,(n64 r45.2)),(26,(.bool v47))]) rfl (fun hm'=>?_) ?_
           ·replace hm:=hm'
            apply Cs;(conv=>whnf);repeat(first|apply Cs|apply Hs|apply Hx|apply Hf);conv=>whnf
            refine⟨_,rfl,fun hc=>?_,fun hc=>?_⟩
            ·replace hm:=hm.1 hc;(conv=>whnf);repeat(first|apply Hs|apply Hx|apply Hf);conv=>whnf
             exact⟨(true,()),hm,⟨O,trivial⟩,VLe.refl _ _,VLe.refl _ _,VLe.refl _ _,trivial⟩
            ·replace hm:=hm.2 hc;(conv=>whnf);repeat(first|apply Hs|apply Hx|apply Hf);conv=>whnf
             exact⟨((ltN 9223372036854775807 r45.2),()),hm,⟨O,trivial⟩,VLe.refl _ _,VLe.refl _ _,VLe.refl _ _,trivial⟩
           ·clear hm;rintro⟨v47,_⟩ base h hm ⟨O,_⟩
            ((conv=>whnf);repeat(first|apply Cs|apply Hs|apply Hx|apply Hf);conv=>whnf)
            refine⟨_,rfl,fun hc=>?_,fun hc=>?_⟩
            ·replace hm:=hm.1 hc
             apply Cs;(conv=>whnf);repeat(first|apply Cs|apply Hs|apply Hx|apply Hf);conv=>whnf
             exact False.elim hm
            ·replace hm:=hm.2 hc
             apply Cs;(conv=>whnf);repeat(first|apply Cs|apply Hs|apply Hx|apply Hf);conv=>whnf
             exact⟨((),()),hm,⟨O,trivial⟩,VLe.refl _ _,VLe.refl _ _,trivial⟩
          ·clear hm;rintro⟨_,_⟩ base h hm ⟨O,_⟩
           ((conv=>whnf);repeat(first|apply Cs|apply Hs|apply Hx|apply Hf);conv=>whnf)
           refine⟨_,convIntK (a:=Int.ofNat r45.2) rfl rfl rfl (wrapI64 hm.1),?_⟩;(conv=>whnf);repeat(first|apply Hs|apply Hx|apply Hf);conv=>whnf
           replace hm:=hm.2
           refine O.makeL (enc:=n8) (z:=0) (b:=1) (s:=1) (n:=r45.2) rfl rfl rfl rfl rfl (by decide) (by kernel_rfl) rfl rfl hm.1 hm.2.1 fun g49 h O=>?_;(conv=>whnf);repeat(first|apply Cs|apply Hs|apply Hx|apply Hf);conv=>whnf
           replace hm:=hm.2.2
           refine O.copyW (enc:=n8) (l:=(List.replicate r45.2 (0:Nat))) (src:=([2]:(List Nat))) (s:=1) (o:=0) (.head _) rfl rfl (by decide) rfl (SrcOk.fl rfl) (fun _=>rfl) (by decide) (fun _=>rfl) hm.1 fun h O=>?_;(conv=>whnf);repeat(first|apply Hs|apply Hx|apply Hf);conv=>whnf
           replace hm:=hm.2
           refine CodeS.joinWS hm (nn:=48) (σ:=(List Nat)×Unit) (fun s=>s.1) (fun (v51,_) h=>Own vars h0 [((some g49),.cells (flatC (v51.map n8)) false),((some g2),.cells [((encL 4 encNode) r1.1.nodes),((encL 1 Value.string) r1.1.names),((encL 3 encMem) r1.1.mems),((encL 1 i64) r1.1.outs)] false),(none,.cells (flatC (([]:List Asg).map encAsg)) false),((some g28),.cells [(.slice none 0 0),(.slice none 0 0)] false),((some g36),.cells (flatC (v38.map n8)) false)] h∧True) (fun (v51,_)=>[(7,(.slice (some ⟨g49,0,none⟩) r45.2 r45.2))]) rfl (fun hm'=>?_) ?_
           ·replace hm:=hm'
            apply Cs;(conv=>whnf);repeat(first|apply Cs|apply Hs|apply Hx|apply Hf);conv=>whnf
            refine loopWK hM (by kernel_rfl) (nn:=48) (S:=((List Nat)×Nat)) (σ:=((List Nat)×Nat)×Unit) (fun s=>s.1) (fun ((v53,v54),_) h=>Own vars h0 [((some g49),.cells (flatC (v53.map n8)) false),((some g2),.cells [((encL 4 encNode) r1.1.nodes),((encL 1 Value.string) r1.1.names),((encL 3 encMem) r1.1.mems),((encL 1 i64) r1.1.outs)] false),(none,.cells (flatC (([]:List Asg).map encAsg)) false),((some g28),.cells [(.slice none 0 0),(.slice none 0 0)] false),((some g36),.cells (flatC (v38.map n8)) false)] h∧True) (fun ((v53,v54),_)=>[(7,(.slice (some ⟨g49,0,none⟩) r45.2 r45.2)),(8,(i64 v54))]) rfl (((copyN (List.replicate r45.2 (0:Nat)) 0 r45.2 ([2]:(List Nat))),(min r45.2 ([2]:(List Nat)).length)),()) hm ⟨O,trivial⟩ ⟨VLe.refl _ _,VLe.refl _ _,trivial⟩ ?_
            clear hm;rintro⟨⟨v53,v54⟩,_⟩ nx55 base h hm ⟨O,_⟩
            ((conv=>whnf);repeat(first|apply Cs|apply Hs|apply Hx|apply Hf);conv=>whnf)
            refine lenS (n:=r45.2) rfl rfl ?_;(conv=>whnf);repeat(first|apply Cs|apply Hs|apply Hx|apply Hf);conv=>whnf
            refine⟨_,rfl,fun hc=>?_,fun hc=>?_⟩
            ·replace hm:=hm.1 hc
             apply Cs;(conv=>whnf);repeat(first|apply Cs|apply Hs|apply Hx|apply Hf);conv=>whnf
             refine winFrom (s:=1) (m:=v54) rfl rfl rfl rfl hm.1 ?_;(conv=>whnf);repeat(first|apply Hs|apply Hx|apply Hf);conv=>whnf
             replace hm:=hm.2
             refine winTo (s:=1) (m:=v54) rfl rfl rfl rfl hm.1 ?_;(conv=>whnf);repeat(first|apply Hs|apply Hx|apply Hf);conv=>whnf
             replace hm:=hm.2
             refine O.copyW (enc:=n8) (l:=v53) (src:=(v53.take v54)) (s:=1) (o:=v54) (.head _) rfl rfl rfl rfl (SrcOk.win0 (O.at (.head _)) rfl (fun _=>rfl) hm.2.1) (fun _=>rfl) (by decide) (fun _=>rfl) hm.1 fun h O=>?_;(conv=>whnf);repeat(first|apply Hs|apply Hx|apply Hf);conv=>whnf
             refine⟨.inl rfl,?_⟩;(conv=>whnf);repeat(first|apply Hs|apply Hx);conv=>whnf
             replace hm:=hm.2.2
             refine⟨_,addK (a:=v54) (b:=(min (r45.2-v54) (v53.take v54).length)) rfl rfl hm.1,?_⟩;(conv=>whnf);repeat(first|apply Hs|apply Hx|apply Hf);conv=>whnf
             replace hm:=hm.2
             exact⟨(((copyN v53 v54 (r45.2-v54) (v53.take v54)),(v54+(min (r45.2-v54) (v53.take v54).length))),()),hm,⟨O,trivial⟩,VLe.refl _ _,VLe.refl _ _,trivial⟩
            ·replace hm:=hm.2 hc
             apply Cs;(conv=>whnf);repeat(first|apply Cs|apply Hs|apply Hx|apply Hf);conv=>whnf
             exact⟨(v53,()),hm,⟨O,trivial⟩,VLe.refl _ _,trivial⟩
           ·clear hm;rintro⟨v51,_⟩ base h hm ⟨O,_⟩
            ((conv=>whnf);repeat(first|apply Cs|apply Hs|apply Hx|apply Hf);conv=>whnf)
            refine O.store (n:=2) (cs':=[(.slice (some ⟨g36,0,none⟩) r32.2 r32.2),(.slice (some ⟨g49,0,none⟩) r45.2 r45.2)]) (.tail _ (.tail _ (.tail _ (.head _)))) rfl rfl rfl rfl (lbE rfl) rfl rfl fun h O=>?_;(conv=>whnf);repeat(first|apply Cs|apply Hs|apply Hx|apply Hf);conv=>whnf
            refine⟨_,resAggK rfl rfl (O.at (.tail _ (.tail _ (.tail _ (.head _))))) rfl rfl (lbE rfl) rfl,?_⟩;(conv=>whnf);repeat(first|apply Cs|apply Hs|apply Hx|apply Hf);conv=>whnf
            refine O.new (anew_alloc (l:=[(.slice none 0 0),(.slice none 0 0)]) rfl rfl rfl) fun g56 h O=>?_;(conv=>whnf);repeat(first|apply Hs|apply Hx);conv=>whnf
            refine O.store (n:=2) (cs':=[(.slice (some ⟨g36,0,none⟩) r32.2 r32.2),(.slice (some ⟨g49,0,none⟩) r45.2 r45.2)]) (.head _) rfl rfl rfl rfl (lbE rfl) rfl rfl fun h O=>?_;(conv=>whnf);repeat(first|apply Cs|apply Hs|apply Hx|apply Hf);conv=>whnf
            refine⟨_,loadAggK rfl (O.at (.tail _ (.tail _ (.head _)))) rfl rfl (lbE rfl) rfl,?_⟩;(conv=>whnf);repeat(first|apply Hs|apply Hx|apply Hf);conv=>whnf
            first|refine⟨.inr (.inr (loadAggK rfl (O.at (.tail _ (.tail _ (.head _)))) rfl rfl (lbE rfl) rfl)),?_⟩|refine⟨.inr (.inl (by kernel_rfl)),?_⟩
            ((conv=>whnf);repeat(first|apply Cs|apply Hs|apply Hx|apply Hf);conv=>whnf)
            obtain⟨r58,hm,hcall⟩:=netlists_Inputs_walk hm O.has
            refine⟨_,_,hcall,?_⟩;(conv=>whnf);repeat(first|apply Hs|apply Hx|apply Hf);conv=>whnf
            refine⟨.inl (Ext.refl _),?_⟩;(conv=>whnf);repeat(first|apply Hs|apply Hx);conv=>whnf
            refine⟨_,loadAggK rfl (O.at (.tail _ (.tail _ (.head _)))) rfl rfl (lbE rfl) rfl,?_⟩;(conv=>whnf);repeat(first|apply Hs|apply Hx|apply Hf);conv=>whnf
            first|refine⟨.inr (.inr (loadAggK rfl (O.at (.tail _ (.tail _ (.head _)))) rfl rfl (lbE rfl) rfl)),?_⟩|refine⟨.inr (.inl (by kernel_rfl)),?_⟩
            ((conv=>whnf);repeat(first|apply Cs|apply Hs|apply Hx|apply Hf);conv=>whnf)
            obtain⟨r59,hm,hcall⟩:=netlists_States_walk hm O.has
            refine⟨_,_,hcall,?_⟩;(conv=>whnf);repeat(first|apply Hs|apply Hx|apply Hf);conv=>whnf
            refine⟨.inl (Ext.refl _),?_⟩;(conv=>whnf);repeat(first|apply Hs|apply Hx);conv=>whnf
            apply Cs;conv=>whnf
            refine CodeS.joinWS hm (nn:=335) (σ:=Bool×Unit) (fun s=>s.1) (fun (v60,_) h=>Own vars h0 [((some g2),.cells [((encL 4 encNode) r1.1.nodes),((encL 1 Value.string) r1.1.names),((encL 3 encMem) r1.1.mems),((encL 1 i64) r1.1.outs)] false),(none,.cells (flatC (([]:List Asg).map encAsg)) false),((some g56),.cells [(.slice (some ⟨g36,0,none⟩) r32.2 r32.2),(.slice (some ⟨g49,0,none⟩) r45.2 r45.2)] false),((some g36),.cells (flatC (v38.map n8)) false),((some g49),.cells (flatC (v51.map n8)) false)] h∧True) (fun (v60,_)=>[(7,(.pointer (some ⟨g2,0,none⟩))),(10,((encL 1 n8) r6.1)),(13,((encL 1 n8) r7.1)),(17,((encL 1 n8) r22.1)),(20,((encL 1 n8) r23.1)),(23,(growV 2 none (([]:List Asg).map encAsg))),(24,(.pointer (some ⟨g56,0,none⟩))),(25,((encL 1 i64) r58)),(26,((encL 1 i64) r59)),(170,(.bool v60))]) rfl (fun hm'=>?_) ?_
            ·replace hm:=hm'
             apply Cs;(conv=>whnf);repeat(first|apply Cs|apply Hs|apply Hx|apply Hf);conv=>whnf
             refine lenM (s:=1) (enc:=n8) (l:=r6.1) rfl rfl ?_;(conv=>whnf);repeat(first|apply Hs|apply Hx|apply Hf);conv=>whnf
             refine⟨_,loadK rfl (O.at (.tail _ (.tail _ (.head _)))) rfl rfl,?_⟩;(conv=>whnf);repeat(first|apply Hs|apply Hx|apply Hf);conv=>whnf
             refine lenM (s:=4) (enc:=encNode) (l:=r1.1.nodes) rfl rfl ?_;(conv=>whnf);repeat(first|apply Hs|apply Hx|apply Hf);conv=>whnf
             refine⟨_,rfl,fun hc=>?_,fun hc=>?_⟩
             ·replace hm:=hm.1 hc;(conv=>whnf);repeat(first|apply Hs|apply Hx|apply Hf);conv=>whnf
              refine⟨true,rfl,fun _=>?_,(fun hc=>nomatch hc)⟩;(conv=>whnf);repeat(first|apply Hs|apply Hx|apply Hf);conv=>whnf
              refine⟨true,rfl,fun _=>?_,(fun hc=>nomatch hc)⟩;(conv=>whnf);repeat(first|apply Hs|apply Hx|apply Hf);conv=>whnf
              refine⟨true,rfl,fun _=>?_,(fun hc=>nomatch hc)⟩;(conv=>whnf);repeat(first|apply Hs|apply Hx|apply Hf);conv=>whnf
              exact⟨(true,()),hm,⟨(O.sel [2,3,0,5,1] (by decide)),trivial⟩,VLe.refl _ _,VLe.refl _ _,VLe.refl _ _,VLe.refl _ _,VLe.refl _ _,VLe.refl _ _,VLe.refl _ _,VLe.refl _ _,VLe.refl _ _,VLe.refl _ _,trivial⟩
             ·replace hm:=hm.2 hc;(conv=>whnf);repeat(first|apply Hs|apply Hx|apply Hf);conv=>whnf
              refine lenM (s:=1) (enc:=n8) (l:=r22.1) rfl rfl ?_;(conv=>whnf);repeat(first|apply Hs|apply Hx|apply Hf);conv=>whnf
              refine lenM (s:=1) (enc:=n8) (l:=r6.1) rfl rfl ?_;(conv=>whnf);repeat(first|apply Hs|apply Hx|apply Hf);conv=>whnf
              refine⟨_,rfl,fun hc=>?_,fun hc=>?_⟩
              ·replace hm:=hm.1 hc;(conv=>whnf);repeat(first|apply Hs|apply Hx|apply Hf);conv=>whnf
               refine⟨true,rfl,fun _=>?_,(fun hc=>nomatch hc)⟩;(conv=>whnf);repeat(first|apply Hs|apply Hx|apply Hf);conv=>whnf
               refine⟨true,rfl,fun _=>?_,(fun hc=>nomatch hc)⟩;(conv=>whnf);repeat(first|apply Hs|apply Hx|apply Hf);conv=>whnf
               exact⟨(true,()),hm,⟨(O.sel [2,3,0,5,1] (by decide)),trivial⟩,VLe.refl _ _,VLe.refl _ _,VLe.refl _ _,VLe.refl _ _,VLe.refl _ _,VLe.refl _ _,VLe.refl _ _,VLe.refl _ _,VLe.refl _ _,VLe.refl _ _,trivial⟩
              ·replace hm:=hm.2 hc;(conv=>whnf);repeat(first|apply Hs|apply Hx|apply Hf);conv=>whnf
               refine lenM (s:=1) (enc:=n8) (l:=r23.1) rfl rfl ?_;(conv=>whnf);repeat(first|apply Hs|apply Hx|apply Hf);conv=>whnf
               refine lenM (s:=1) (enc:=n8) (l:=r6.1) rfl rfl ?_;(conv=>whnf);repeat(first|apply Hs|apply Hx|apply Hf);conv=>whnf
               refine⟨_,rfl,fun hc=>?_,fun hc=>?_⟩
               ·replace hm:=hm.1 hc;(conv=>whnf);repeat(first|apply Hs|apply Hx|apply Hf);conv=>whnf
                refine⟨true,rfl,fun _=>?_,(fun hc=>nomatch hc)⟩;(conv=>whnf);repeat(first|apply Hs|apply Hx|apply Hf);conv=>whnf
                exact⟨(true,()),hm,⟨(O.sel [2,3,0,5,1] (by decide)),trivial⟩,VLe.refl _ _,VLe.refl _ _,VLe.refl _ _,VLe.refl _ _,VLe.refl _ _,VLe.refl _ _,VLe.refl _ _,VLe.refl _ _,VLe.refl _ _,VLe.refl _ _,trivial⟩
               ·replace hm:=hm.2 hc;(conv=>whnf);repeat(first|apply Hs|apply Hx|apply Hf);conv=>whnf
                refine⟨_,loadK rfl (O.at (.head _)) rfl rfl,?_⟩;(conv=>whnf);repeat(first|apply Hs|apply Hx|apply Hf);conv=>whnf
                refine lenS (n:=r32.2) rfl rfl ?_;(conv=>whnf);repeat(first|apply Hs|apply Hx|apply Hf);conv=>whnf
                refine lenM (s:=1) (enc:=i64) (l:=r58) rfl rfl ?_;(conv=>whnf);repeat(first|apply Hs|apply Hx|apply Hf);conv=>whnf
                refine⟨_,rfl,fun hc=>?_,fun hc=>?_⟩
                ·replace hm:=hm.1 hc;(conv=>whnf);repeat(first|apply Hs|apply Hx|apply Hf);conv=>whnf
                 exact⟨(true,()),hm,⟨(O.sel [2,3,0,5,1] (by decide)),trivial⟩,VLe.refl _ _,VLe.refl _ _,VLe.refl _ _,VLe.refl _ _,VLe.refl _ _,VLe.refl _ _,VLe.refl _ _,VLe.refl _ _,VLe.refl _ _,VLe.refl _ _,trivial⟩
                ·replace hm:=hm.2 hc;(conv=>whnf);repeat(first|apply Hs|apply Hx|apply Hf);conv=>whnf
                 refine⟨_,loadK rfl (O.at (.head _)) rfl rfl,?_⟩;(conv=>whnf);repeat(first|apply Hs|apply Hx|apply Hf);conv=>whnf
                 refine lenS (n:=r45.2) rfl rfl ?_;(conv=>whnf);repeat(first|apply Hs|apply Hx|apply Hf);conv=>whnf
                 refine lenM (s:=1) (enc:=i64) (l:=r59) rfl rfl ?_;(conv=>whnf);repeat(first|apply Hs|apply Hx|apply Hf);conv=>whnf
                 exact⟨((neN r45.2 r59.length),()),hm,⟨(O.sel [2,3,0,5,1] (by decide)),trivial⟩,VLe.refl _ _,VLe.refl _ _,VLe.refl _ _,VLe.refl _ _,VLe.refl _ _,VLe.refl _ _,VLe.refl _ _,VLe.refl _ _,VLe.refl _ _,VLe.refl _ _,trivial⟩
            ·clear hm;rintro⟨v60,_⟩ base h hm ⟨O,_⟩
             ((conv=>whnf);repeat(first|apply Cs|apply Hs|apply Hx|apply Hf);conv=>whnf)
             refine⟨_,rfl,fun hc=>?_,fun hc=>?_⟩
             ·replace hm:=hm.1 hc
              apply Cs;(conv=>whnf);repeat(first|apply Cs|apply Hs|apply Hx|apply Hf);conv=>whnf
              exact⟨false,hm,O.ext,fun h2 F=>VLe.refl _ _⟩
             ·replace hm:=hm.2 hc
              apply Cs;conv=>whnf
              refine CodeS.joinWS hm (nn:=335) (σ:=(List Asg)×Option Nat) (fun s=>s.1) (fun (v63,a62) h=>(a62=none→v63=[])∧Own vars h0 [((some g2),.cells [((encL 4 encNode) r1.1.nodes),((encL 1 Value.string) r1.1.names),((encL 3 encMem) r1.1.mems),((encL 1 i64) r1.1.outs)] false),(a62,.cells (flatC (v63.map encAsg)) false),((some g56),.cells [(.slice (some ⟨g36,0,none⟩) r32.2 r32.2),(.slice (some ⟨g49,0,none⟩) r45.2 r45.2)] false),((some g36),.cells (flatC (v38.map n8)) false),((some g49),.cells (flatC (v51.map n8)) false)] h∧True) (fun (v63,a62)=>[(7,(.pointer (some ⟨g2,0,none⟩))),(10,((encL 1 n8) r6.1)),(23,(growV 2 a62 (v63.map encAsg))),(24,(.pointer (some ⟨g56,0,none⟩))),(25,((encL 1 i64) r58)),(26,((encL 1 i64) r59))]) rfl (fun hm'=>?_) ?_
              ·replace hm:=hm'
               apply Cs;(conv=>whnf);repeat(first|apply Cs|apply Hs|apply Hx|apply Hf);conv=>whnf
               refine loopWK hM (by kernel_rfl) (nn:=335) (S:=((List Asg)×Nat)) (σ:=((List Asg)×Nat)×Option Nat) (fun s=>s.1) (fun ((v67,v68),a66) h=>(a66=none→v67=[])∧Own vars h0 [((some g2),.cells [((encL 4 encNode) r1.1.nodes),((encL 1 Value.string) r1.1.names),((encL 3 encMem) r1.1.mems),((encL 1 i64) r1.1.outs)] false),(a66,.cells (flatC (v67.map encAsg)) false),((some g56),.cells [(.slice (some ⟨g36,0,none⟩) r32.2 r32.2),(.slice (some ⟨g49,0,none⟩) r45.2 r45.2)] false),((some g36),.cells (flatC (v38.map n8)) false),((some g49),.cells (flatC (v51.map n8)) false)] h∧True) (fun ((v67,v68),a66)=>[(7,(.pointer (some ⟨g2,0,none⟩))),(10,((encL 1 n8) r6.1)),(13,((encL 1 n8) r7.1)),(17,((encL 1 n8) r22.1)),(20,((encL 1 n8) r23.1)),(23,(growV 2 a66 (v67.map encAsg))),(24,(.pointer (some ⟨g56,0,none⟩))),(25,((encL 1 i64) r58)),(26,((encL 1 i64) r59)),(27,(i64 v68))]) rfl ((([]:List Asg),0),none) hm ⟨(fun _=>rfl),O,trivial⟩ ⟨VLe.refl _ _,VLe.refl _ _,VLe.refl _ _,VLe.refl _ _,VLe.refl _ _,VLe.refl _ _,VLe.refl _ _,VLe.refl _ _,VLe.refl _ _,VLe.refl _ _,trivial⟩ ?_
               clear hm;rintro⟨⟨v67,v68⟩,a66⟩ nx70 base h hm ⟨ha69,O,_⟩
               ((conv=>whnf);repeat(first|apply Cs|apply Hs|apply Hx|apply Hf);conv=>whnf)
               refine lenM (s:=1) (enc:=n8) (l:=r6.1) rfl rfl ?_;(conv=>whnf);repeat(first|apply Cs|apply Hs|apply Hx|apply Hf);conv=>whnf
               refine⟨_,rfl,fun hc=>?_,fun hc=>?_⟩
               ·replace hm:=hm.1 hc
                apply Cs;conv=>whnf
                refine CodeS.joinWS hm (nn:=335) (σ:=(List Asg)×Option Nat) (fun s=>s.1) (fun (v72,a71) h=>(a71=none→v72=[])∧Own vars h0 [((some g2),.cells [((encL 4 encNode) r1.1.nodes),((encL 1 Value.string) r1.1.names),((encL 3 encMem) r1.1.mems),((encL 1 i64) r1.1.outs)] false),(a71,.cells (flatC (v72.map encAsg)) false),((some g56),.cells [(.slice (some ⟨g36,0,none⟩) r32.2 r32.2),(.slice (some ⟨g49,0,none⟩) r45.2 r45.2)] false),((some g36),.cells (flatC (v38.map n8)) false),((some g49),.cells (flatC (v51.map n8)) false)] h∧True) (fun (v72,a71)=>[(7,(.pointer (some ⟨g2,0,none⟩))),(10,((encL 1 n8) r6.1)),(13,((encL 1 n8) r7.1)),(17,((encL 1 n8) r22.1)),(20,((encL 1 n8) r23.1)),(23,(growV 2 a71 (v72.map encAsg))),(24,(.pointer (some ⟨g56,0,none⟩))),(25,((encL 1 i64) r58)),(26,((encL 1 i64) r59)),(27,(i64 v68))]) rfl (fun hm'=>?_) ?_
                ·replace hm:=hm'
                 apply Cs;conv=>whnf
                 apply Cs;conv=>whnf
                 refine CodeS.joinWS hm (nn:=335) (σ:=Bool×Unit) (fun s=>s.1) (fun (v75,_) h=>(a66=none→v67=[])∧Own vars h0 [((some g2),.cells [((encL 4 encNode) r1.1.nodes),((encL 1 Value.string) r1.1.names),((encL 3 encMem) r1.1.mems),((encL 1 i64) r1.1.outs)] false),(a66,.cells (flatC (v67.map encAsg)) false),((some g56),.cells [(.slice (some ⟨g36,0,none⟩) r32.2 r32.2),(.slice (some ⟨g49,0,none⟩) r45.2 r45.2)] false),((some g36),.cells (flatC (v38.map n8)) false),((some g49),.cells (flatC (v51.map n8)) false)] h∧True) (fun (v75,_)=>[(7,(.pointer (some ⟨g2,0,none⟩))),(10,((encL 1 n8) r6.1)),(13,((encL 1 n8) r7.1)),(17,((encL 1 n8) r22.1)),(20,((encL 1 n8) r23.1)),(23,(growV 2 a66 (v67.map encAsg))),(24,(.pointer (some ⟨g56,0,none⟩))),(25,((encL 1 i64) r58)),(26,((encL 1 i64) r59)),(27,(i64 v68)),(214,(.bool v75))]) rfl (fun hm'=>?_) ?_
                 ·replace hm:=hm'
                  apply Cs;(conv=>whnf);repeat(first|apply Cs|apply Hs|apply Hx|apply Hf);conv=>whnf
                  obtain⟨x78,hx78,hm⟩:=hm
                  refine flAtM (s:=1) (enc:=n8) (j:=v68) rfl rfl rfl rfl hx78 ?_;(conv=>whnf);repeat(first|apply Hs|apply Hx|apply Hf);conv=>whnf
                  refine⟨_,(rfl:aread _ _ _ _=some _),?_⟩;(conv=>whnf);repeat(first|apply Hs|apply Hx|apply Hf);conv=>whnf
                  refine⟨.inl rfl,?_⟩;(conv=>whnf);repeat(first|apply Hs|apply Hx|apply Hf);conv=>whnf
                  obtain⟨x79,hx79,hm⟩:=hm
                  refine flAtM (s:=1) (enc:=n8) (j:=v68) rfl rfl rfl rfl hx79 ?_;(conv=>whnf);repeat(first|apply Hs|apply Hx|apply Hf);conv=>whnf
                  refine⟨_,(rfl:aread _ _ _ _=some _),?_⟩;(conv=>whnf);repeat(first|apply Hs|apply Hx|apply Hf);conv=>whnf
                  refine⟨.inl rfl,?_⟩;(conv=>whnf);repeat(first|apply Hs|apply Hx|apply Hf);conv=>whnf
                  refine⟨_,rfl,fun hc=>?_,fun hc=>?_⟩
                  ·replace hm:=hm.1 hc;(conv=>whnf);repeat(first|apply Hs|apply Hx|apply Hf);conv=>whnf
                   refine⟨true,rfl,fun _=>?_,(fun hc=>nomatch hc)⟩;(conv=>whnf);repeat(first|apply Hs|apply Hx|apply Hf);conv=>whnf
                   exact⟨(true,()),hm,⟨ha69,O,trivial⟩,VLe.refl _ _,VLe.refl _ _,VLe.refl _ _,VLe.refl _ _,VLe.refl _ _,VLe.refl _ _,VLe.refl _ _,VLe.refl _ _,VLe.refl _ _,VLe.refl _ _,VLe.refl _ _,trivial⟩
                  ·replace hm:=hm.2 hc;(conv=>whnf);repeat(first|apply Hs|apply Hx|apply Hf);conv=>whnf
                   obtain⟨x80,hx80,hm⟩:=hm
                   refine flAtM (s:=1) (enc:=n8) (j:=v68) rfl rfl rfl rfl hx80 ?_;(conv=>whnf);repeat(first|apply Hs|apply Hx|apply Hf);conv=>whnf
                   refine⟨_,(rfl:aread _ _ _ _=some _),?_⟩;(conv=>whnf);repeat(first|apply Hs|apply Hx|apply Hf);conv=>whnf
                   refine⟨.inl rfl,?_⟩;(conv=>whnf);repeat(first|apply Hs|apply Hx|apply Hf);conv=>whnf
                   obtain⟨x81,hx81,hm⟩:=hm
                   refine flAtM (s:=1) (enc:=n8) (j:=v68) rfl rfl rfl rfl hx81 ?_;(conv=>whnf);repeat(first|apply Hs|apply Hx|apply Hf);conv=>whnf
                   refine⟨_,(rfl:aread _ _ _ _=some _),?_⟩;(conv=>whnf);repeat(first|apply Hs|apply Hx|apply Hf);conv=>whnf
                   refine⟨.inl rfl,?_⟩;(conv=>whnf);repeat(first|apply Hs|apply Hx|apply Hf);conv=>whnf
                   refine⟨_,rfl,fun hc=>?_,fun hc=>?_⟩
                   ·replace hm:=hm.1 hc;(conv=>whnf);repeat(first|apply Hs|apply Hx|apply Hf);conv=>whnf
                    exact⟨(true,()),hm,⟨ha69,O,trivial⟩,VLe.refl _ _,VLe.refl _ _,VLe.refl _ _,VLe.refl _ _,VLe.refl _ _,VLe.refl _ _,VLe.refl _ _,VLe.refl _ _,VLe.refl _ _,VLe.refl _ _,VLe.refl _ _,trivial⟩
                   ·replace hm:=hm.2 hc;(conv=>whnf);repeat(first|apply Hs|apply Hx|apply Hf);conv=>whnf
                    obtain⟨x82,hx82,hm⟩:=hm
                    refine flAtM (s:=1) (enc:=n8) (j:=v68) rfl rfl rfl rfl hx82 ?_;(conv=>whnf);repeat(first|apply Hs|apply Hx|apply Hf);conv=>whnf
                    refine⟨_,(rfl:aread _ _ _ _=some _),?_⟩;(conv=>whnf);repeat(first|apply Hs|apply Hx|apply Hf);conv=>whnf
                    refine⟨.inl rfl,?_⟩;(conv=>whnf);repeat(first|apply Hs|apply Hx|apply Hf);conv=>whnf
                    refine⟨_,rfl,fun hc=>?_,fun hc=>?_⟩
                    ·replace hm:=hm.1 hc;(conv=>whnf);repeat(first|apply Hs|apply Hx|apply Hf);conv=>whnf
                     obtain⟨x83,hx83,hm⟩:=hm
                     refine flAtM (s:=1) (enc:=n8) (j:=v68) rfl rfl rfl rfl hx83 ?_;(conv=>whnf);repeat(first|apply Hs|apply Hx|apply Hf);conv=>whnf
                     refine⟨_,(rfl:aread _ _ _ _=some _),?_⟩;(conv=>whnf);repeat(first|apply Hs|apply Hx|apply Hf);conv=>whnf
                     refine⟨.inl rfl,?_⟩;(conv=>whnf);repeat(first|apply Hs|apply Hx|apply Hf);conv=>whnf
                     obtain⟨x84,hx84,hm⟩:=hm
                     refine flAtM (s:=1) (enc:=n8) (j:=v68) rfl rfl rfl rfl hx84 ?_;(conv=>whnf);repeat(first|apply Hs|apply Hx|apply Hf);conv=>whnf
                     refine⟨_,(rfl:aread _ _ _ _=some _),?_⟩;(conv=>whnf);repeat(first|apply Hs|apply Hx|apply Hf);conv=>whnf
                     refine⟨.inl rfl,?_⟩;(conv=>whnf);repeat(first|apply Hs|apply Hx|apply Hf);conv=>whnf
                     exact⟨((neN x83 x84),()),hm,⟨ha69,O,trivial⟩,VLe.refl _ _,VLe.refl _ _,VLe.refl _ _,VLe.refl _ _,VLe.refl _ _,VLe.refl _ _,VLe.refl _ _,VLe.refl _ _,VLe.refl _ _,VLe.refl _ _,VLe.refl _ _,trivial⟩
                    ·replace hm:=hm.2 hc;(conv=>whnf);repeat(first|apply Hs|apply Hx|apply Hf);conv=>whnf
                     exact⟨(false,()),hm,⟨ha69,O,trivial⟩,VLe.refl _ _,VLe.refl _ _,VLe.refl _ _,VLe.refl _ _,VLe.refl _ _,VLe.refl _ _,VLe.refl _ _,VLe.refl _ _,VLe.refl _ _,VLe.refl _ _,VLe.refl _ _,trivial⟩
                 ·clear hm;rintro⟨v75,_⟩ base h hm ⟨ha76,O,_⟩
                  ((conv=>whnf);repeat(first|apply Cs|apply Hs|apply Hx|apply Hf);conv=>whnf)
                  refine⟨_,rfl,fun hc=>?_,fun hc=>?_⟩
                  ·replace hm:=hm.1 hc
                   apply Cs;(conv=>whnf);repeat(first|apply Cs|apply Hs|apply Hx|apply Hf);conv=>whnf
                   exact⟨false,hm,O.ext,fun h2 F=>VLe.refl _ _⟩
                  ·replace hm:=hm.2 hc
                   apply Cs;(conv=>whnf);repeat(first|apply Cs|apply Hs|apply Hx|apply Hf);conv=>whnf
                   obtain⟨x85,hx85,hm⟩:=hm
                   refine flAtM (s:=1) (enc:=n8) (j:=v68) rfl rfl rfl rfl hx85 ?_;(conv=>whnf);repeat(first|apply Hs|apply Hx|apply Hf);conv=>whnf
                   refine⟨_,(rfl:aread _ _ _ _=some _),?_⟩;(conv=>whnf);repeat(first|apply Cs|apply Hs|apply Hx|apply Hf);conv=>whnf
                   refine⟨_,rfl,fun hc=>?_,fun hc=>?_⟩
                   ·replace hm:=hm.1 hc
                    apply Cs;(conv=>whnf);repeat(first|apply Cs|apply Hs|apply Hx|apply Hf);conv=>whnf
                    obtain⟨x86,hx86,hm⟩:=hm
                    refine flAtM (s:=1) (enc:=n8) (j:=v68) rfl rfl rfl rfl hx86 ?_;(conv=>whnf);repeat(first|apply Hs|apply Hx|apply Hf);conv=>whnf
                    refine⟨_,(rfl:aread _ _ _ _=some _),?_⟩;(conv=>whnf);repeat(first|apply Hs|apply Hx|apply Hf);conv=>whnf
                    refine NewG.frz rfl ?_;(conv=>whnf);repeat(first|apply Hs|apply Hx|apply Hf);conv=>whnf
                    refine O.appendL (enc:=encAsg) (l:=v67) (new:=([(⟨v68,x86⟩:Asg)]:(List Asg))) (s:=2) (b:=16) (.tail _ (.head _)) ha76 rfl rfl rfl rfl rfl rfl rfl rfl (YOk.fl rfl) (fun _=>rfl) (fun _=>rfl) (by decide) hm.1 fun a87 h ha88 O=>?_;(conv=>whnf);repeat(first|apply Hs|apply Hx|apply Hf);conv=>whnf
                    replace hm:=hm.2
                    exact⟨((v67++([(⟨v68,x86⟩:Asg)]:(List Asg))),a87),hm,⟨ha88,O,trivial⟩,VLe.refl _ _,VLe.refl _ _,VLe.refl _ _,VLe.refl _ _,VLe.refl _ _,VLe.refl _ _,VLe.refl _ _,VLe.refl _ _,VLe.refl _ _,VLe.refl _ _,trivial⟩
                   ·replace hm:=hm.2 hc
                    apply Cs;(conv=>whnf);repeat(first|apply Cs|apply Hs|apply Hx|apply Hf);conv=>whnf
                    exact⟨(v67,a66),hm,⟨ha76,O,trivial⟩,VLe.refl _ _,VLe.refl _ _,VLe.refl _ _,VLe.refl _ _,VLe.refl _ _,VLe.refl _ _,VLe.refl _ _,VLe.refl _ _,VLe.refl _ _,VLe.refl _ _,trivial⟩
                ·clear hm;rintro⟨v72,a71⟩ base h hm ⟨ha73,O,_⟩
                 ((conv=>whnf);repeat(first|apply Cs|apply Hs|apply Hx|apply Hf);conv=>whnf)
                 refine⟨_,addK (a:=v68) (b:=1) rfl rfl hm.1,?_⟩;(conv=>whnf);repeat(first|apply Hs|apply Hx|apply Hf);conv=>whnf
                 replace hm:=hm.2
                 exact⟨((v72,(v68+1)),a71),hm,⟨ha73,O,trivial⟩,VLe.refl _ _,VLe.refl _ _,VLe.refl _ _,VLe.refl _ _,VLe.refl _ _,VLe.refl _ _,VLe.refl _ _,VLe.refl _ _,VLe.refl _ _,VLe.refl _ _,trivial⟩
               ·replace hm:=hm.2 hc
                apply Cs;(conv=>whnf);repeat(first|apply Cs|apply Hs|apply Hx|apply Hf);conv=>whnf
                exact⟨(v67,a66),hm,⟨ha69,O,trivial⟩,VLe.refl _ _,VLe.refl _ _,VLe.refl _ _,VLe.refl _ _,VLe.refl _ _,VLe.refl _ _,trivial⟩
              ·clear hm;rintro⟨v63,a62⟩ base h hm ⟨ha64,O,_⟩
               conv=>whnf
               refine CodeS.joinWS hm (nn:=335) (σ:=(List Nat)×Unit) (fun s=>s.1) (fun (v89,_) h=>(a62=none→v63=[])∧Own vars h0 [((some g2),.cells [((encL 4 encNode) r1.1.nodes),((encL 1 Value.string) r1.1.names),((encL 3 encMem) r1.1.mems),((encL 1 i64) r1.1.outs)] false),(a62,.cells (flatC (v63.map encAsg)) false),((some g56),.cells [(.slice (some ⟨g36,0,none⟩) r32.2 r32.2),(.slice (some ⟨g49,0,none⟩) r45.2 r45.2)] false),((some g36),.cells (flatC (v89.map n8)) false),((some g49),.cells (flatC (v51.map n8)) false)] h∧True) (fun (v89,_)=>[(7,(.pointer (some ⟨g2,0,none⟩))),(10,((encL 1 n8) r6.1)),(23,(growV 2 a62 (v63.map encAsg))),(24,(.pointer (some ⟨g56,0,none⟩))),(26,((encL 1 i64) r59))]) rfl (fun hm'=>?_) ?_
               ·replace hm:=hm'
                apply Cs;(conv=>whnf);repeat(first|apply Cs|apply Hs|apply Hx|apply Hf);conv=>whnf
                refine loopWK hM (by kernel_rfl) (nn:=335) (S:=((List Nat)×Nat)) (σ:=((List Nat)×Nat)×Unit) (fun s=>s.1) (fun ((v92,v93),_) h=>(a62=none→v63=[])∧Own vars h0 [((some g2),.cells [((encL 4 encNode) r1.1.nodes),((encL 1 Value.string) r1.1.names),((encL 3 encMem) r1.1.mems),((encL 1 i64) r1.1.outs)] false),(a62,.cells (flatC (v63.map encAsg)) false),((some g56),.cells [(.slice (some ⟨g36,0,none⟩) r32.2 r32.2),(.slice (some ⟨g49,0,none⟩) r45.2 r45.2)] false),((some g36),.cells (flatC (v92.map n8)) false),((some g49),.cells (flatC (v51.map n8)) false)] h∧True) (fun ((v92,v93),_)=>[(7,(.pointer (some ⟨g2,0,none⟩))),(10,((encL 1 n8) r6.1)),(23,(growV 2 a62 (v63.map encAsg))),(24,(.pointer (some ⟨g56,0,none⟩))),(25,((encL 1 i64) r58)),(26,((encL 1 i64) r59)),(28,(i64 v93))]) rfl ((v38,0),()) hm ⟨ha64,O,trivial⟩ ⟨VLe.refl _ _,VLe.refl _ _,VLe.refl _ _,VLe.refl _ _,VLe.refl _ _,VLe.refl _ _,VLe.refl _ _,trivial⟩ ?_
                clear hm;rintro⟨⟨v92,v93⟩,_⟩ nx95 base h hm ⟨ha94,O,_⟩
                ((conv=>whnf);repeat(first|apply Cs|apply Hs|apply Hx|apply Hf);conv=>whnf)
                refine lenM (s:=1) (enc:=i64) (l:=r58) rfl rfl ?_;(conv=>whnf);repeat(first|apply Cs|apply Hs|apply Hx|apply Hf);conv=>whnf
                refine⟨_,rfl,fun hc=>?_,fun hc=>?_⟩
                ·replace hm:=hm.1 hc
                 apply Cs;(conv=>whnf);repeat(first|apply Cs|apply Hs|apply Hx|apply Hf);conv=>whnf
                 refine⟨_,loadK rfl (O.at (.tail _ (.tail _ (.head _)))) rfl rfl,?_⟩;(conv=>whnf);repeat(first|apply Hs|apply Hx|apply Hf);conv=>whnf
                 first|refine⟨.inr (.inr (loadK rfl (O.at (.tail _ (.tail _ (.head _)))) rfl rfl)),?_⟩|refine⟨.inr (.inl (by kernel_rfl)),?_⟩
                 ((conv=>whnf);repeat(first|apply Cs|apply Hs|apply Hx|apply Hf);conv=>whnf)
                 obtain⟨x96,hx96,hm⟩:=hm
                 refine flAtM (s:=1) (enc:=i64) (j:=v93) rfl rfl rfl rfl hx96 ?_;(conv=>whnf);repeat(first|apply Hs|apply Hx|apply Hf);conv=>whnf
                 refine⟨_,(rfl:aread _ _ _ _=some _),?_⟩;(conv=>whnf);repeat(first|apply Hs|apply Hx|apply Hf);conv=>whnf
                 refine⟨.inl rfl,?_⟩;(conv=>whnf);repeat(first|apply Hs|apply Hx|apply Hf);conv=>whnf
                 obtain⟨x97,hx97,hm⟩:=hm
                 refine flAtM (s:=1) (enc:=n8) (j:=x96) rfl rfl rfl rfl hx97 ?_;(conv=>whnf);repeat(first|apply Hs|apply Hx|apply Hf);conv=>whnf
                 refine⟨_,(rfl:aread _ _ _ _=some _),?_⟩;(conv=>whnf);repeat(first|apply Hs|apply Hx|apply Hf);conv=>whnf
                 refine⟨.inl rfl,?_⟩;(conv=>whnf);repeat(first|apply Hs|apply Hx|apply Hf);conv=>whnf
                 obtain⟨hj,x98,hx98,hm⟩:=hm
                 refine indexK (s:=1) (j:=v93) rfl rfl rfl rfl hj ?_;(conv=>whnf);repeat(first|apply Hs|apply Hx|apply Hf);conv=>whnf
                 refine O.store (n:=1) (.tail _ (.tail _ (.tail _ (.head _)))) rfl rfl rfl rfl (el_le (enc:=n8) (s:=1) (k:=0) (n:=1) (fun _=>rfl) (lt_of_get hx98) (lbE rfl)) rfl (splice_all (enc:=n8) (s:=1) (fun _=>rfl) (lt_of_get hx98) (x:=x97) rfl) fun h O=>?_;(conv=>whnf);repeat(first|apply Hs|apply Hx|apply Hf);conv=>whnf
                 refine⟨.inl rfl,?_⟩;(conv=>whnf);repeat(first|apply Hs|apply Hx);conv=>whnf
                 apply Cs;(conv=>whnf);repeat(first|apply Cs|apply Hs|apply Hx|apply Hf);conv=>whnf
                 refine⟨_,addK (a:=v93) (b:=1) rfl rfl hm.1,?_⟩;(conv=>whnf);repeat(first|apply Hs|apply Hx|apply Hf);conv=>whnf
                 replace hm:=hm.2
                 exact⟨(((v92.set v93 x97),(v93+1)),()),hm,⟨ha94,O,trivial⟩,VLe.refl _ _,VLe.refl _ _,VLe.refl _ _,VLe.refl _ _,VLe.refl _ _,VLe.refl _ _,VLe.refl _ _,trivial⟩
                ·replace hm:=hm.2 hc
                 apply Cs;(conv=>whnf);repeat(first|apply Cs|apply Hs|apply Hx|apply Hf);conv=>whnf
                 exact⟨(v92,()),hm,⟨ha94,O,trivial⟩,VLe.refl _ _,VLe.refl _ _,VLe.refl _ _,VLe.refl _ _,VLe.refl _ _,trivial⟩
               ·clear hm;rintro⟨v89,_⟩ base h hm ⟨ha90,O,_⟩
                conv=>whnf
                refine CodeS.joinWS hm (nn:=335) (σ:=(List Nat)×Unit) (fun s=>s.1) (fun (v99,_) h=>(a62=none→v63=[])∧Own vars h0 [((some g2),.cells [((encL 4 encNode) r1.1.nodes),((encL 1 Value.string) r1.1.names),((encL 3 encMem) r1.1.mems),((encL 1 i64) r1.1.outs)] false),(a62,.cells (flatC (v63.map encAsg)) false),((some g56),.cells [(.slice (some ⟨g36,0,none⟩) r32.2 r32.2),(.slice (some ⟨g49,0,none⟩) r45.2 r45.2)] false),((some g36),.cells (flatC (v89.map n8)) false),((some g49),.cells (flatC (v99.map n8)) false)] h∧True) (fun (v99,_)=>[(7,(.pointer (some ⟨g2,0,none⟩))),(10,((encL 1 n8) r6.1)),(23,(growV 2 a62 (v63.map encAsg))),(24,(.pointer (some ⟨g56,0,none⟩)))]) rfl (fun hm'=>?_) ?_
                ·replace hm:=hm'
                 apply Cs;(conv=>whnf);repeat(first|apply Cs|apply Hs|apply Hx|apply Hf);conv=>whnf
                 refine loopWK hM (by kernel_rfl) (nn:=335) (S:=((List Nat)×Nat)) (σ:=((List Nat)×Nat)×Unit) (fun s=>s.1) (fun ((v102,v103),_) h=>(a62=none→v63=[])∧Own vars h0 [((some g2),.cells [((encL 4 encNode) r1.1.nodes),((encL 1 Value.string) r1.1.names),((encL 3 encMem) r1.1.mems),((encL 1 i64) r1.1.outs)] false),(a62,.cells (flatC (v63.map encAsg)) false),((some g56),.cells [(.slice (some ⟨g36,0,none⟩) r32.2 r32.2),(.slice (some ⟨g49,0,none⟩) r45.2 r45.2)] false),((some g36),.cells (flatC (v89.map n8)) false),((some g49),.cells (flatC (v102.map n8)) false)] h∧True) (fun ((v102,v103),_)=>[(7,(.pointer (some ⟨g2,0,none⟩))),(10,((encL 1 n8) r6.1)),(23,(growV 2 a62 (v63.map encAsg))),(24,(.pointer (some ⟨g56,0,none⟩))),(26,((encL 1 i64) r59)),(29,(i64 v103))]) rfl ((v51,0),()) hm ⟨ha90,O,trivial⟩ ⟨VLe.refl _ _,VLe.refl _ _,VLe.refl _ _,VLe.refl _ _,VLe.refl _ _,VLe.refl _ _,trivial⟩ ?_
                 clear hm;rintro⟨⟨v102,v103⟩,_⟩ nx105 base h hm ⟨ha104,O,_⟩
                 ((conv=>whnf);repeat(first|apply Cs|apply Hs|apply Hx|apply Hf);conv=>whnf)
                 refine lenM (s:=1) (enc:=i64) (l:=r59) rfl rfl ?_;(conv=>whnf);repeat(first|apply Cs|apply Hs|apply Hx|apply Hf);conv=>whnf
                 refine⟨_,rfl,fun hc=>?_,fun hc=>?_⟩
                 ·replace hm:=hm.1 hc
                  apply Cs;(conv=>whnf);repeat(first|apply Cs|apply Hs|apply Hx|apply Hf);conv=>whnf
                  refine⟨_,loadK rfl (O.at (.tail _ (.tail _ (.head _)))) rfl rfl,?_⟩;(conv=>whnf);repeat(first|apply Hs|apply Hx|apply Hf);conv=>whnf
                  first|refine⟨.inr (.inr (loadK rfl (O.at (.tail _ (.tail _ (.head _)))) rfl rfl)),?_⟩|refine⟨.inr (.inl (by kernel_rfl)),?_⟩
                  ((conv=>whnf);repeat(first|apply Cs|apply Hs|apply Hx|apply Hf);conv=>whnf)
                  obtain⟨x106,hx106,hm⟩:=hm
                  refine flAtM (s:=1) (enc:=i64) (j:=v103) rfl rfl rfl rfl hx106 ?_;(conv=>whnf);repeat(first|apply Hs|apply Hx|apply Hf);conv=>whnf
                  refine⟨_,(rfl:aread _ _ _ _=some _),?_⟩;(conv=>whnf);repeat(first|apply Hs|apply Hx|apply Hf);conv=>whnf
                  refine⟨.inl rfl,?_⟩;(conv=>whnf);repeat(first|apply Hs|apply Hx|apply Hf);conv=>whnf
                  obtain⟨x107,hx107,hm⟩:=hm
                  refine flAtM (s:=1) (enc:=n8) (j:=x106) rfl rfl rfl rfl hx107 ?_;(conv=>whnf);repeat(first|apply Hs|apply Hx|apply Hf);conv=>whnf
                  refine⟨_,(rfl:aread _ _ _ _=some _),?_⟩;(conv=>whnf);repeat(first|apply Hs|apply Hx|apply Hf);conv=>whnf
                  refine⟨.inl rfl,?_⟩;(conv=>whnf);repeat(first|apply Hs|apply Hx|apply Hf);conv=>whnf
                  obtain⟨hj,x108,hx108,hm⟩:=hm
                  refine indexK (s:=1) (j:=v103) rfl rfl rfl rfl hj ?_;(conv=>whnf);repeat(first|apply Hs|apply Hx|apply Hf);conv=>whnf
                  refine O.store (n:=1) (.tail _ (.tail _ (.tail _ (.tail _ (.head _))))) rfl rfl rfl rfl (el_le (enc:=n8) (s:=1) (k:=0) (n:=1) (fun _=>rfl) (lt_of_get hx108) (lbE rfl)) rfl (splice_all (enc:=n8) (s:=1) (fun _=>rfl) (lt_of_get hx108) (x:=x107) rfl) fun h O=>?_;(conv=>whnf);repeat(first|apply Hs|apply Hx|apply Hf);conv=>whnf
                  refine⟨.inl rfl,?_⟩;(conv=>whnf);repeat(first|apply Hs|apply Hx);conv=>whnf
                  apply Cs;(conv=>whnf);repeat(first|apply Cs|apply Hs|apply Hx|apply Hf);conv=>whnf
                  refine⟨_,addK (a:=v103) (b:=1) rfl rfl hm.1,?_⟩;(conv=>whnf);repeat(first|apply Hs|apply Hx|apply Hf);conv=>whnf
                  replace hm:=hm.2
                  exact⟨(((v102.set v103 x107),(v103+1)),()),hm,⟨ha104,O,trivial⟩,VLe.refl _ _,VLe.refl _ _,VLe.refl _ _,VLe.refl _ _,VLe.refl _ _,VLe.refl _ _,trivial⟩
                 ·replace hm:=hm.2 hc
                  apply Cs;(conv=>whnf);repeat(first|apply Cs|apply Hs|apply Hx|apply Hf);conv=>whnf
                  exact⟨(v102,()),hm,⟨ha104,O,trivial⟩,VLe.refl _ _,VLe.refl _ _,VLe.refl _ _,VLe.refl _ _,trivial⟩
                ·clear hm;rintro⟨v99,_⟩ base h hm ⟨ha100,O,_⟩
                 ((conv=>whnf);repeat(first|apply Cs|apply Hs|apply Hx|apply Hf);conv=>whnf)
                 refine⟨_,loadAggK rfl (O.at (.head _)) rfl rfl (lbE rfl) rfl,?_⟩;(conv=>whnf);repeat(first|apply Hs|apply Hx|apply Hf);conv=>whnf
                 refine O.useG (fun _ hb=>implies_Close_walk hm hb) (.tail _ (.head _)) ha100 (fun _=>rfl) (i:=1) rfl (by kernel_rfl) (fun h2 q=>(LLe.cons (VLe.refl _ _) (LLe.cons (q) (LLe.nil _)))) (fun r109 h hm' O=>?_);replace hm:=hm';(conv=>whnf);repeat(first|apply Hs|apply Hx|apply Hf);conv=>whnf
                 apply Cs;conv=>whnf
                 refine CodeS.freezeIn O (.tail _ (.tail _ (.tail _ (.head _)))) (.tail _ (.tail _ (.head _))) (j:=0) (t2:=24) rfl rfl rfl fun h O=>?_
                 refine CodeS.freezeIn O (.tail _ (.tail _ (.tail _ (.tail _ (.head _))))) (.tail _ (.tail _ (.head _))) (j:=1) (t2:=24) rfl rfl rfl fun h O=>?_
                 apply Cs;(conv=>whnf);repeat(first|apply Cs|apply Hs|apply Hx|apply Hf);conv=>whnf
                 refine⟨_,loadAggK rfl (O.at (.head _)) rfl rfl (lbE rfl) rfl,?_⟩;(conv=>whnf);repeat(first|apply Hs|apply Hx|apply Hf);conv=>whnf
                 refine⟨_,loadAggK rfl (O.at (.tail _ (.tail _ (.head _)))) rfl rfl (lbE rfl) rfl,?_⟩;(conv=>whnf);repeat(first|apply Hs|apply Hx|apply Hf);conv=>whnf
                 obtain⟨hn111,hn112,hm⟩:=hm
                 obtain⟨r110,hm,hcall⟩:=sims_Run_walk hm O.has
                 refine⟨_,_,CallD.weak hcall (LLe.cons (VLe.refl _ _) (LLe.cons (VLe.agg (LLe.cons (VLe.flM (O.at (.tail _ (.tail _ (.tail _ (.head _))))) hn111 (fun _=>rfl)) (LLe.cons (VLe.flM (O.at (.tail _ (.tail _ (.tail _ (.tail _ (.head _)))))) hn112 (fun _=>rfl)) (LLe.nil _)))) (LLe.nil _))),?_⟩;(conv=>whnf);repeat(first|apply Hs|apply Hx|apply Hf);conv=>whnf
                 refine O.new (anew_alloc (l:=[(.slice none 0 0),(.slice none 0 0)]) rfl rfl rfl) fun g113 h O=>?_;(conv=>whnf);repeat(first|apply Hs|apply Hx);conv=>whnf
                 refine O.store (n:=2) (cs':=[((encL 1 n8) r110.1.out),((encL 1 n8) r110.1.next)]) (.head _) rfl rfl rfl rfl (lbE rfl) rfl rfl fun h O=>?_;(conv=>whnf);repeat(first|apply Hs|apply Hx|apply Hf);conv=>whnf
                 apply Cs;conv=>whnf
                 refine CodeS.joinWS hm (nn:=335) (σ:=Bool×Unit) (fun s=>s.1) (fun (v115,_) h=>Own vars h0 [] h∧True) (fun (v115,_)=>[(10,((encL 1 n8) r6.1)),(30,((encL 1 n8) r109.1)),(34,((encL 1 n8) r110.2.1)),(300,(.bool v115))]) rfl (fun hm'=>?_) ?_
                 ·replace hm:=hm'
                  apply Cs;(conv=>whnf);repeat(first|apply Cs|apply Hs|apply Hx|apply Hf);conv=>whnf
                  refine⟨_,rfl,fun hc=>?_,fun hc=>?_⟩
                  ·replace hm:=hm.1 hc;(conv=>whnf);repeat(first|apply Hs|apply Hx|apply Hf);conv=>whnf
                   refine⟨true,rfl,fun _=>?_,(fun hc=>nomatch hc)⟩;(conv=>whnf);repeat(first|apply Hs|apply Hx|apply Hf);conv=>whnf
                   refine⟨true,rfl,fun _=>?_,(fun hc=>nomatch hc)⟩;(conv=>whnf);repeat(first|apply Hs|apply Hx|apply Hf);conv=>whnf
                   refine⟨true,rfl,fun _=>?_,(fun hc=>nomatch hc)⟩;(conv=>whnf);repeat(first|apply Hs|apply Hx|apply Hf);conv=>whnf
                   exact⟨(true,()),hm,⟨(O.sel [] (by decide)),trivial⟩,VLe.refl _ _,VLe.refl _ _,VLe.refl _ _,VLe.refl _ _,trivial⟩
                  ·replace hm:=hm.2 hc;(conv=>whnf);repeat(first|apply Hs|apply Hx|apply Hf);conv=>whnf
                   refine⟨_,rfl,fun hc=>?_,fun hc=>?_⟩
                   ·replace hm:=hm.1 hc;(conv=>whnf);repeat(first|apply Hs|apply Hx|apply Hf);conv=>whnf
                    refine⟨true,rfl,fun _=>?_,(fun hc=>nomatch hc)⟩;(conv=>whnf);repeat(first|apply Hs|apply Hx|apply Hf);conv=>whnf
                    refine⟨true,rfl,fun _=>?_,(fun hc=>nomatch hc)⟩;(conv=>whnf);repeat(first|apply Hs|apply Hx|apply Hf);conv=>whnf
                    exact⟨(true,()),hm,⟨(O.sel [] (by decide)),trivial⟩,VLe.refl _ _,VLe.refl _ _,VLe.refl _ _,VLe.refl _ _,trivial⟩
                   ·replace hm:=hm.2 hc;(conv=>whnf);repeat(first|apply Hs|apply Hx|apply Hf);conv=>whnf
                    refine⟨_,rfl,fun hc=>?_,fun hc=>?_⟩
                    ·replace hm:=hm.1 hc;(conv=>whnf);repeat(first|apply Hs|apply Hx|apply Hf);conv=>whnf
                     refine⟨true,rfl,fun _=>?_,(fun hc=>nomatch hc)⟩;(conv=>whnf);repeat(first|apply Hs|apply Hx|apply Hf);conv=>whnf
                     exact⟨(true,()),hm,⟨(O.sel [] (by decide)),trivial⟩,VLe.refl _ _,VLe.refl _ _,VLe.refl _ _,VLe.refl _ _,trivial⟩
                    ·replace hm:=hm.2 hc;(conv=>whnf);repeat(first|apply Hs|apply Hx|apply Hf);conv=>whnf
                     refine lenM (s:=1) (enc:=n8) (l:=r110.2.1) rfl rfl ?_;(conv=>whnf);repeat(first|apply Hs|apply Hx|apply Hf);conv=>whnf
                     refine lenM (s:=1) (enc:=n8) (l:=r6.1) rfl rfl ?_;(conv=>whnf);repeat(first|apply Hs|apply Hx|apply Hf);conv=>whnf
                     refine⟨_,rfl,fun hc=>?_,fun hc=>?_⟩
                     ·replace hm:=hm.1 hc;(conv=>whnf);repeat(first|apply Hs|apply Hx|apply Hf);conv=>whnf
                      exact⟨(true,()),hm,⟨(O.sel [] (by decide)),trivial⟩,VLe.refl _ _,VLe.refl _ _,VLe.refl _ _,VLe.refl _ _,trivial⟩
                     ·replace hm:=hm.2 hc;(conv=>whnf);repeat(first|apply Hs|apply Hx|apply Hf);conv=>whnf
                      refine lenM (s:=1) (enc:=n8) (l:=r109.1) rfl rfl ?_;(conv=>whnf);repeat(first|apply Hs|apply Hx|apply Hf);conv=>whnf
                      refine lenM (s:=1) (enc:=n8) (l:=r6.1) rfl rfl ?_;(conv=>whnf);repeat(first|apply Hs|apply Hx|apply Hf);conv=>whnf
                      exact⟨((neN r109.1.length r6.1.length),()),hm,⟨(O.sel [] (by decide)),trivial⟩,VLe.refl _ _,VLe.refl _ _,VLe.refl _ _,VLe.refl _ _,trivial⟩
                 ·clear hm;rintro⟨v115,_⟩ base h hm ⟨O,_⟩
                  ((conv=>whnf);repeat(first|apply Cs|apply Hs|apply Hx|apply Hf);conv=>whnf)
                  refine⟨_,rfl,fun hc=>?_,fun hc=>?_⟩
                  ·replace hm:=hm.1 hc
                   apply Cs;(conv=>whnf);repeat(first|apply Cs|apply Hs|apply Hx|apply Hf);conv=>whnf
                   exact⟨false,hm,O.ext,fun h2 F=>VLe.refl _ _⟩
                  ·replace hm:=hm.2 hc
                   apply Cs;conv=>whnf
                   refine CodeS.joinWS hm (nn:=335) (σ:=Unit×Unit) (fun s=>s.1) (fun (_,_) h=>Own vars h0 [] h∧True) (fun (_,_)=>[]) rfl (fun hm'=>?_) ?_
                   ·replace hm:=hm'
                    apply Cs;(conv=>whnf);repeat(first|apply Cs|apply Hs|apply Hx|apply Hf);conv=>whnf
                    refine loopWK hM (by kernel_rfl) (nn:=335) (S:=Nat) (σ:=Nat×Unit) (fun s=>s.1) (fun (v118,_) h=>Own vars h0 [] h∧True) (fun (v118,_)=>[(10,((encL 1 n8) r6.1)),(30,((encL 1 n8) r109.1)),(34,((encL 1 n8) r110.2.1)),(36,(i64 v118))]) rfl (0,()) hm ⟨O,trivial⟩ ⟨VLe.refl _ _,VLe.refl _ _,VLe.refl _ _,VLe.refl _ _,trivial⟩ ?_
                    clear hm;rintro⟨v118,_⟩ nx119 base h hm ⟨O,_⟩
                    ((conv=>whnf);repeat(first|apply Cs|apply Hs|apply Hx|apply Hf);conv=>whnf)
                    refine lenM (s:=1) (enc:=n8) (l:=r6.1) rfl rfl ?_;(conv=>whnf);repeat(first|apply Cs|apply Hs|apply Hx|apply Hf);conv=>whnf
                    refine⟨_,rfl,fun hc=>?_,fun hc=>?_⟩
                    ·replace hm:=hm.1 hc
                     apply Cs;conv=>whnf
                     apply Cs;conv=>whnf
                     apply Cs;conv=>whnf
                     refine CodeS.joinWS hm (nn:=335) (σ:=Bool×Unit) (fun s=>s.1) (fun (v120,_) h=>Own vars h0 [] h∧True) (fun (v120,_)=>[(10,((encL 1 n8) r6.1)),(30,((encL 1 n8) r109.1)),(34,((encL 1 n8) r110.2.1)),(36,(i64 v118)),(333,(.bool v120))]) rfl (fun hm'=>?_) ?_
                     ·replace hm:=hm'
                      apply Cs;(conv=>whnf);repeat(first|apply Cs|apply Hs|apply Hx|apply Hf);conv=>whnf
                      obtain⟨x122,hx122,hm⟩:=hm
                      refine flAtM (s:=1) (enc:=n8) (j:=v118) rfl rfl rfl rfl hx122 ?_;(conv=>whnf);repeat(first|apply Hs|apply Hx|apply Hf);conv=>whnf
                      refine⟨_,(rfl:aread _ _ _ _=some _),?_⟩;(conv=>whnf);repeat(first|apply Hs|apply Hx|apply Hf);conv=>whnf
                      refine⟨.inl rfl,?_⟩;(conv=>whnf);repeat(first|apply Hs|apply Hx|apply Hf);conv=>whnf
                      obtain⟨x123,hx123,hm⟩:=hm
                      refine flAtM (s:=1) (enc:=n8) (j:=v118) rfl rfl rfl rfl hx123 ?_;(conv=>whnf);repeat(first|apply Hs|apply Hx|apply Hf);conv=>whnf
                      refine⟨_,(rfl:aread _ _ _ _=some _),?_⟩;(conv=>whnf);repeat(first|apply Hs|apply Hx|apply Hf);conv=>whnf
                      refine⟨.inl rfl,?_⟩;(conv=>whnf);repeat(first|apply Hs|apply Hx|apply Hf);conv=>whnf
                      refine⟨_,rfl,fun hc=>?_,fun hc=>?_⟩
                      ·replace hm:=hm.1 hc;(conv=>whnf);repeat(first|apply Hs|apply Hx|apply Hf);conv=>whnf
                       exact⟨(true,()),hm,⟨O,trivial⟩,VLe.refl _ _,VLe.refl _ _,VLe.refl _ _,VLe.refl _ _,VLe.refl _ _,trivial⟩
                      ·replace hm:=hm.2 hc;(conv=>whnf);repeat(first|apply Hs|apply Hx|apply Hf);conv=>whnf
                       obtain⟨x124,hx124,hm⟩:=hm
                       refine flAtM (s:=1) (enc:=n8) (j:=v118) rfl rfl rfl rfl hx124 ?_;(conv=>whnf);repeat(first|apply Hs|apply Hx|apply Hf);conv=>whnf
                       refine⟨_,(rfl:aread _ _ _ _=some _),?_⟩;(conv=>whnf);repeat(first|apply Hs|apply Hx|apply Hf);conv=>whnf
                       refine⟨.inl rfl,?_⟩;(conv=>whnf);repeat(first|apply Hs|apply Hx|apply Hf);conv=>whnf
                       refine⟨_,rfl,fun hc=>?_,fun hc=>?_⟩
                       ·replace hm:=hm.1 hc;(conv=>whnf);repeat(first|apply Hs|apply Hx|apply Hf);conv=>whnf
                        obtain⟨x125,hx125,hm⟩:=hm
                        refine flAtM (s:=1) (enc:=n8) (j:=v118) rfl rfl rfl rfl hx125 ?_;(conv=>whnf);repeat(first|apply Hs|apply Hx|apply Hf);conv=>whnf
                        refine⟨_,(rfl:aread _ _ _ _=some _),?_⟩;(conv=>whnf);repeat(first|apply Hs|apply Hx|apply Hf);conv=>whnf
                        refine⟨.inl rfl,?_⟩;(conv=>whnf);repeat(first|apply Hs|apply Hx|apply Hf);conv=>whnf
                        obtain⟨x126,hx126,hm⟩:=hm
                        refine flAtM (s:=1) (enc:=n8) (j:=v118) rfl rfl rfl rfl hx126 ?_;(conv=>whnf);repeat(first|apply Hs|apply Hx|apply Hf);conv=>whnf
                        refine⟨_,(rfl:aread _ _ _ _=some _),?_⟩;(conv=>whnf);repeat(first|apply Hs|apply Hx|apply Hf);conv=>whnf
                        refine⟨.inl rfl,?_⟩;(conv=>whnf);repeat(first|apply Hs|apply Hx|apply Hf);conv=>whnf
                        exact⟨((neN x125 x126),()),hm,⟨O,trivial⟩,VLe.refl _ _,VLe.refl _ _,VLe.refl _ _,VLe.refl _ _,VLe.refl _ _,trivial⟩
                       ·replace hm:=hm.2 hc;(conv=>whnf);repeat(first|apply Hs|apply Hx|apply Hf);conv=>whnf
                        exact⟨(false,()),hm,⟨O,trivial⟩,VLe.refl _ _,VLe.refl _ _,VLe.refl _ _,VLe.refl _ _,VLe.refl _ _,trivial⟩
                     ·clear hm;rintro⟨v120,_⟩ base h hm ⟨O,_⟩
                      ((conv=>whnf);repeat(first|apply Cs|apply Hs|apply Hx|apply Hf);conv=>whnf)
                      refine⟨_,rfl,fun hc=>?_,fun hc=>?_⟩
                      ·replace hm:=hm.1 hc
                       apply Cs;(conv=>whnf);repeat(first|apply Cs|apply Hs|apply Hx|apply Hf);conv=>whnf
                       exact⟨false,hm,O.ext,fun h2 F=>VLe.refl _ _⟩
                      ·replace hm:=hm.2 hc
                       apply Cs;(conv=>whnf);repeat(first|apply Cs|apply Hs|apply Hx|apply Hf);conv=>whnf
                       refine⟨_,addK (a:=v118) (b:=1) rfl rfl hm.1,?_⟩;(conv=>whnf);repeat(first|apply Hs|apply Hx|apply Hf);conv=>whnf
                       replace hm:=hm.2
                       exact⟨((v118+1),()),hm,⟨O,trivial⟩,VLe.refl _ _,VLe.refl _ _,VLe.refl _ _,VLe.refl _ _,trivial⟩
                    ·replace hm:=hm.2 hc
                     apply Cs;(conv=>whnf);repeat(first|apply Cs|apply Hs|apply Hx|apply Hf);conv=>whnf
                     exact⟨((),()),hm,⟨O,trivial⟩,trivial⟩
                   ·clear hm;rintro⟨_,_⟩ base h hm ⟨O,_⟩
                    ((conv=>whnf);repeat(first|apply Cs|apply Hs|apply Hx|apply Hf);conv=>whnf)
                    obtain⟨r127,hm,hcall⟩:=law24_lives_walk hm O.has
                    refine⟨_,_,hcall,?_⟩;(conv=>whnf);repeat(first|apply Cs|apply Hs|apply Hx|apply Hf);conv=>whnf
                    exact⟨r127,hm,O.ext,fun h2 F=>VLe.refl _ _⟩
end Go.Proofs.YtfhldkgelipnaaaGreatDoor
