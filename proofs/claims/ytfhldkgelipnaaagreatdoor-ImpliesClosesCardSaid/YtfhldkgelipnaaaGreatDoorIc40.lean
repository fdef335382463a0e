/-
  F1, M1, Circ2, Circ3, Circ4, Man2, P6: parts of the proof.
-/
import Derived.Test.YtfhldkgelipnaaaGreatDoorIc39
namespace Go.Proofs.YtfhldkgelipnaaaGreatDoor
open Go.Abs
set_option maxRecDepth 100000
set_option maxHeartbeats 8000000
def fanout_all_wp (p0:Circ) (K:(List (List Ln))→Prop):Prop :=
 24*p0.nodes.length≤2 ^ 48∧p0.nodes.length<2 ^ 63∧joinW (α:=(List (List Ln))) (fun k6=>loopW (S:=((List (List Ln))×Nat)) (fun (v7,v9) nx11=>((ltN v9 p0.nodes.length)=true→joinW (α:=(List (List Ln))) (fun k15=>∃ x16,p0.nodes[v9]?=some x16∧loopW (S:=((List (List Ln))×Nat)) (fun (v19,v21) nx23=>((ltN v21 x16.ins.length)=true→joinW (α:=(List (List Ln))) (fun k27=>∃ x28,x16.ins[v21]?=some x28∧((ltN x28 0)=true→k27 v19)∧((ltN x28 0)=false→((!(!ltN x28 p0.nodes.length))=true→x28<p0.nodes.length∧∃ x29,v19[x28]?=some x29∧(x29.length+([(⟨v9,v21⟩:Ln)]:(List Ln)).length)*16≤2 ^ 47∧x28<p0.nodes.length∧k27 (v19.set x28 (x29++([(⟨v9,v21⟩:Ln)]:(List Ln)))))∧((!(!ltN x28 p0.nodes.length))=false→k27 v19))) (fun v24=>v21+1<2 ^ 63∧nx23 (v24,(v21+1))))∧((ltN v21 x16.ins.length)=false→k15 v19)) (v7,0)) (fun v12=>v9+1<2 ^ 63∧nx11 (v12,(v9+1))))∧((ltN v9 p0.nodes.length)=false→k6 v7)) ((List.replicate p0.nodes.length ([]:List Ln)),0)) (fun v3=>joinW (α:=(List (List Ln))) (fun k40=>loopW (S:=((List (List Ln))×Nat)) (fun (v41,v43) nx45=>((ltN v43 p0.nodes.length)=true→v43<p0.nodes.length∧∃ x46,v41[v43]?=some x46∧v43<p0.nodes.length∧v43+1<2 ^ 63∧nx45 ((v41.set v43 x46),(v43+1)))∧((ltN v43 p0.nodes.length)=false→k40 v41)) (v3,0)) (fun v37=>p0.nodes.length=v37.length∧K v37))
theorem fanout_all_walk {p0:Circ}{K:(List (List Ln))→Prop} (hm:fanout_all_wp p0 K) {h0:Heap} (hB:HasB vars h0):∃ r,K r∧CallD Tryz.prog NG 41 ⟨[encCirc p0]⟩ h0 ((encL 1 (encL 2 encLn)) r) h0:=by
 unfold fanout_all_wp at hm
 refine fnW hM Tryz.func41 rfl (hP _ _ rfl Tryz.func41) (lbE rfl) hB (enc:=(encL 1 (encL 2 encLn))) (fun r=>pureL (fun _=>AllPure.cons (pureL (fun _=>pure_lnC _)) AllPure.nil)) fun O=>?_;conv=>whnf
 apply Cs;(conv=>whnf);repeat(first|apply Cs|apply Hs|apply Hx);conv=>whnf
 refine NewG.frz rfl ?_;(conv=>whnf);repeat(first|apply Cs|apply Hs|apply Hx);conv=>whnf
 refine⟨_,(rfl:aread _ _ _ _=some _),?_⟩;(conv=>whnf);repeat(first|apply Hs|apply Hx);conv=>whnf
 refine lenM (s:=4) (enc:=encNode) (l:=p0.nodes) rfl rfl ?_;(conv=>whnf);repeat(first|apply Hs|apply Hx);conv=>whnf
 refine Own.makeRows (α:=Ln) (b:=24) (n:=p0.nodes.length) encLn 2 O rfl rfl rfl rfl rfl rfl hm.1 hm.2.1 fun g1 h O=>?_;(conv=>whnf);repeat(first|apply Cs|apply Hs|apply Hx);conv=>whnf
 replace hm:=hm.2.2
 refine⟨_,(rfl:aread _ _ _ _=some _),?_⟩;(conv=>whnf);repeat(first|apply Hs|apply Hx);conv=>whnf
 refine fnG hM Tryz.func73 rfl (hP _ _ rfl Tryz.func73) (lbE rfl) ?_;(conv=>whnf);repeat(first|apply Cs|apply Hs|apply Hx);conv=>whnf
 refine NewG.frz rfl ?_;(conv=>whnf);repeat(first|apply Cs|apply Hs|apply Hx);conv=>whnf
 refine makeFuncK rfl rfl ?_;(conv=>whnf);repeat(first|apply Hs|apply Hx);conv=>whnf
 apply Cs;conv=>whnf
 ((conv=>whnf);repeat(first|apply Hs|apply Hx);conv=>whnf)
 refine CodeS.joinWS hm (nn:=65) (σ:=(List (List Ln))×(List (Option Nat))) (fun s=>s.1) (fun (v3,a4) h=>RowsOk a4 v3∧Own vars h0 ([((some g1),.cells (rowVals 2 encLn a4 v3) false)]++(rowSlots encLn a4 v3)) h∧True) (fun (v3,a4)=>[(3,(.slice (some ⟨g1,0,none⟩) p0.nodes.length p0.nodes.length))]) rfl (fun hm'=>?_) ?_
 ·replace hm:=hm'
  apply Cs;(conv=>whnf);repeat(first|apply Cs|apply Hs|apply Hx);conv=>whnf
  refine⟨_,(rfl:aread _ _ _ _=some _),?_⟩;(conv=>whnf);repeat(first|apply Hs|apply Hx);conv=>whnf
  refine lenM (s:=4) (enc:=encNode) (l:=p0.nodes) rfl rfl ?_;(conv=>whnf);repeat(first|apply Cs|apply Hs|apply Hx);conv=>whnf
  refine loopWK hM (by kernel_rfl) (nn:=65) (S:=((List (List Ln))×Nat)) (σ:=((List (List Ln))×Nat)×(List (Option Nat))) (fun s=>s.1) (fun ((v7,v9),a8) h=>RowsOk a8 v7∧Own vars h0 ([((some g1),.cells (rowVals 2 encLn a8 v7) false)]++(rowSlots encLn a8 v7)) h∧True) (fun ((v7,v9),a8)=>[(3,(.slice (some ⟨g1,0,none⟩) p0.nodes.length p0.nodes.length)),(4,(.func (.func 101) ⟨[]⟩ ⟨[(FP (encCirc p0))]⟩)),(18,((encL 4 encNode) p0.nodes)),(19,(i64 p0.nodes.length)),(20,(i64 v9))]) rfl (((List.replicate p0.nodes.length ([]:List Ln)),0),(List.replicate p0.nodes.length none)) hm ⟨(RowsOk.start p0.nodes.length),O,trivial⟩ ⟨VLe.refl _ _,VLe.refl _ _,VLe.refl _ _,VLe.refl _ _,VLe.refl _ _,trivial⟩ ?_
  clear hm;rintro⟨⟨v7,v9⟩,a8⟩ nx11 base h hm ⟨hr10,O,_⟩
  ((conv=>whnf);repeat(first|apply Cs|apply Hs|apply Hx);conv=>whnf)
  refine⟨_,rfl,fun hc=>?_,fun hc=>?_⟩
  ·replace hm:=hm.1 hc
   apply Cs;conv=>whnf
   refine CodeS.joinWS hm (nn:=65) (σ:=(List (List Ln))×(List (Option Nat))) (fun s=>s.1) (fun (v12,a13) h=>RowsOk a13 v12∧Own vars h0 ([((some g1),.cells (rowVals 2 encLn a13 v12) false)]++(rowSlots encLn a13 v12)) h∧True) (fun (v12,a13)=>[(3,(.slice (some ⟨g1,0,none⟩) p0.nodes.length p0.nodes.length)),(4,(.func (.func 101) ⟨[]⟩ ⟨[(FP (encCirc p0))]⟩)),(18,((encL 4 encNode) p0.nodes)),(19,(i64 p0.nodes.length)),(20,(i64 v9))]) rfl (fun hm'=>?_) ?_
   ·replace hm:=hm'
    apply Cs;(conv=>whnf);repeat(first|apply Cs|apply Hs|apply Hx);conv=>whnf
    obtain⟨x16,hx16,hm⟩:=hm
    refine flAtM (s:=4) (enc:=encNode) (j:=v9) rfl rfl rfl rfl hx16 ?_;(conv=>whnf);repeat(first|apply Hs|apply Hx);conv=>whnf
    refine⟨_,(rfl:aread _ _ _ _=some _),?_⟩;(conv=>whnf);repeat(first|apply Hs|apply Hx);conv=>whnf
    refine O.new (anew_alloc (l:=[(n8 0),(.slice none 0 0),(i64 0),(i64 0)]) rfl rfl rfl) fun g17 h O=>?_;(conv=>whnf);repeat(first|apply Hs|apply Hx);conv=>whnf
    refine O.store (n:=4) (cs':=[(n8 x16.kind),((encL 1 i64) x16.ins),(i64 x16.mem),(i64 x16.bit)]) (.head _) rfl rfl rfl rfl (lbE rfl) rfl rfl fun h O=>?_;(conv=>whnf);repeat(first|apply Cs|apply Hs|apply Hx);conv=>whnf
    refine⟨_,loadK rfl (O.at (.head _)) rfl rfl,?_⟩;(conv=>whnf);repeat(first|apply Hs|apply Hx);conv=>whnf
    refine lenM (s:=1) (enc:=i64) (l:=x16.ins) rfl rfl ?_;(conv=>whnf);repeat(first|apply Cs|apply Hs|apply Hx);conv=>whnf
    refine loopWK hM (by kernel_rfl) (nn:=65) (S:=((List (List Ln))×Nat)) (σ:=((List (List Ln))×Nat)×(List (Option Nat))) (fun s=>s.1) (fun ((v19,v21),a20) h=>RowsOk a20 v19∧Own vars h0 ([((some g1),.cells (rowVals 2 encLn a20 v19) false)]++(rowSlots encLn a20 v19)) h∧True) (fun ((v19,v21),a20)=>[(3,(.slice (some ⟨g1,0,none⟩) p0.nodes.length p0.nodes.length)),(4,(.func (.func 101) ⟨[]⟩ ⟨[(FP (encCirc p0))]⟩)),(5,(i64 v9)),(18,((encL 4 encNode) p0.nodes)),(19,(i64 p0.nodes.length)),(20,(i64 v9)),(26,((encL 1 i64) x16.ins)),(27,(i64 x16.ins.length)),(28,(i64 v21))]) rfl ((v7,0),a8) hm ⟨hr10,(Own.selT [((some g17),.cells [(n8 x16.kind),((encL 1 i64) x16.ins),(i64 x16.mem),(i64 x16.bit)] false),((some g1),.cells (rowVals 2 encLn a8 v7) false)] (L:=(rowSlots encLn a8 v7)) O [1] (by decide)),trivial⟩ ⟨VLe.refl _ _,VLe.refl _ _,VLe.refl _ _,VLe.refl _ _,VLe.refl _ _,VLe.refl _ _,VLe.refl _ _,VLe.refl _ _,VLe.refl _ _,trivial⟩ ?_
    clear hm;rintro⟨⟨v19,v21⟩,a20⟩ nx23 base h hm ⟨hr22,O,_⟩
    ((conv=>whnf);repeat(first|apply Cs|apply Hs|apply Hx);conv=>whnf)
    refine⟨_,rfl,fun hc=>?_,fun hc=>?_⟩
    ·replace hm:=hm.1 hc
     apply Cs;conv=>whnf
     refine CodeS.joinWS hm (nn:=65) (σ:=(List (List Ln))×(List (Option Nat))) (fun s=>s.1) (fun (v24,a25) h=>RowsOk a25 v24∧Own vars h0 ([((some g1),.cells (rowVals 2 encLn a25 v24) false)]++(rowSlots encLn a25 v24)) h∧True) (fun (v24,a25)=>[(3,(.slice (some ⟨g1,0,none⟩) p0.nodes.length p0.nodes.length)),(4,(.func (.func 101) ⟨[]⟩ ⟨[(FP (encCirc p0))]⟩)),(5,(i64 v9)),(18,((encL 4 encNode) p0.nodes)),(19,(i64 p0.nodes.length)),(20,(i64 v9)),(26,((encL 1 i64) x16.ins)),(27,(i64 x16.ins.length)),(28,(i64 v21))]) rfl (fun hm'=>?_) ?_
     ·replace hm:=hm'
      apply Cs;(conv=>whnf);repeat(first|apply Cs|apply Hs|apply Hx);conv=>whnf
      obtain⟨x28,hx28,hm⟩:=hm
      refine flAtM (s:=1) (enc:=i64) (j:=v21) rfl rfl rfl rfl hx28 ?_;(conv=>whnf);repeat(first|apply Hs|apply Hx);conv=>whnf
      refine⟨_,(rfl:aread _ _ _ _=some _),?_⟩;(conv=>whnf);repeat(first|apply Cs|apply Hs|apply Hx);conv=>whnf
      refine fnG hM Tryz.func101 rfl (hP _ _ rfl Tryz.func101) (lbE rfl) ?_;(conv=>whnf);repeat(first|apply Cs|apply Hs|apply Hx);conv=>whnf
      refine⟨_,rfl,fun hc=>?_,fun hc=>?_⟩
      ·replace hm:=hm.1 hc;(conv=>whnf);repeat(first|apply Cs|apply Hs|apply Hx);conv=>whnf
       refine⟨false,rfl,(fun hc=>nomatch hc),fun _=>?_⟩
       apply Cs;(conv=>whnf);repeat(first|apply Cs|apply Hs|apply Hx);conv=>whnf
       exact⟨(v19,a20),hm,⟨hr22,O,trivial⟩,VLe.refl _ _,VLe.refl _ _,VLe.refl _ _,VLe.refl _ _,VLe.refl _ _,VLe.refl _ _,VLe.refl _ _,VLe.refl _ _,VLe.refl _ _,trivial⟩
      ·replace hm:=hm.2 hc;(conv=>whnf);repeat(first|apply Hs|apply Hx);conv=>whnf
       refine⟨_,(rfl:aread _ _ _ _=some _),?_⟩;(conv=>whnf);repeat(first|apply Hs|apply Hx);conv=>whnf
       refine lenM (s:=4) (enc:=encNode) (l:=p0.nodes) rfl rfl ?_;(conv=>whnf);repeat(first|apply Cs|apply Hs|apply Hx);conv=>whnf
       refine⟨_,rfl,fun hc=>?_,fun hc=>?_⟩
       ·replace hm:=hm.1 hc
        apply Cs;(conv=>whnf);repeat(first|apply Cs|apply Hs|apply Hx);conv=>whnf
        refine indexK (s:=1) (j:=x28) rfl rfl rfl rfl hm.1 ?_;(conv=>whnf);repeat(first|apply Hs|apply Hx);conv=>whnf
        replace hm:=hm.2
        obtain⟨x29,hx29,hm⟩:=hm
        obtain⟨a30,hA32,ha31,O⟩:=Own.focus (S:=[((some g1),.cells (rowVals 2 encLn a20 v19) false)]) hr22 O hx29
        refine⟨_,rowLoad (O.at (.tail _ (.head _))) hA32 hx29 rfl rfl,?_⟩;(conv=>whnf);repeat(first|apply Hs|apply Hx);conv=>whnf
        refine NewG.frz rfl ?_;(conv=>whnf);repeat(first|apply Hs|apply Hx);conv=>whnf
        refine O.appendL (enc:=encLn) (l:=x29) (new:=([(⟨v9,v21⟩:Ln)]:(List Ln))) (s:=2) (b:=16) (.head _) ha31.1 rfl rfl rfl rfl rfl rfl rfl rfl (YOk.fl rfl) (fun _=>rfl) (fun _=>rfl) (by decide) hm.1 fun a34 h ha35 O=>?_;(conv=>whnf);repeat(first|apply Hs|apply Hx);conv=>whnf
        replace hm:=hm.2
        refine indexK (s:=1) (j:=x28) rfl rfl rfl rfl hm.1 ?_;(conv=>whnf);repeat(first|apply Hs|apply Hx);conv=>whnf
        replace hm:=hm.2
        refine O.rowStore (s:=2) (enc:=encLn) (j:=x28) (v:=(growV 2 a34 ((x29++([(⟨v9,v21⟩:Ln)]:(List Ln))).map encLn))) (.tail _ (.head _)) hr22 hx29 rfl rfl rfl rfl rfl fun h O=>?_;(conv=>whnf);repeat(first|apply Hs|apply Hx);conv=>whnf
        rw[← rowVals_set] at O
        have hr36:RowsOk (a20.set x28 a34) (v19.set x28 (x29++([(⟨v9,v21⟩:Ln)]:(List Ln)))):=RowsOk.set hr22 ⟨ha35,fun e=>absurd e (by simp)⟩
        replace O:=Own.unfocus (S:=[(some g1,.cells (rowVals 2 encLn (a20.set x28 a34) (v19.set x28 (x29++([(⟨v9,v21⟩:Ln)]:(List Ln))))) false)]) O hx29 hr22
        exact⟨((v19.set x28 (x29++([(⟨v9,v21⟩:Ln)]:(List Ln)))),(a20.set x28 a34)),hm,⟨hr36,O,trivial⟩,VLe.refl _ _,VLe.refl _ _,VLe.refl _ _,VLe.refl _ _,VLe.refl _ _,VLe.refl _ _,VLe.refl _ _,VLe.refl _ _,VLe.refl _ _,trivial⟩
       ·replace hm:=hm.2 hc
        apply Cs;(conv=>whnf);repeat(first|apply Cs|apply Hs|apply Hx);conv=>whnf
        exact⟨(v19,a20),hm,⟨hr22,O,trivial⟩,VLe.refl _ _,VLe.refl _ _,VLe.refl _ _,VLe.refl _ _,VLe.refl _ _,VLe.refl _ _,VLe.refl _ _,VLe.refl _ _,VLe.refl _ _,trivial⟩
     ·clear hm;rintro⟨v24,a25⟩ base h hm ⟨hr26,O,_⟩
      ((conv=>whnf);repeat(first|apply Cs|apply Hs|apply Hx);conv=>whnf)
      refine⟨_,addK (a:=v21) (b:=1) rfl rfl hm.1,?_⟩;(conv=>whnf);repeat(first|apply Hs|apply Hx);conv=>whnf
      replace hm:=hm.2
      exact⟨((v24,(v21+1)),a25),hm,⟨hr26,O,trivial⟩,VLe.refl _ _,VLe.refl _ _,VLe.refl _ _,VLe.refl _ _,VLe.refl _ _,VLe.refl _ _,VLe.refl _ _,VLe.refl _ _,VLe.refl _ _,trivial⟩
    ·replace hm:=hm.2 hc
     apply Cs;(conv=>whnf);repeat(first|apply Cs|apply Hs|apply Hx);conv=>whnf
     exact⟨(v19,a20),hm,⟨hr22,O,trivial⟩,VLe.refl _ _,VLe.refl _ _,VLe.refl _ _,VLe.refl _ _,VLe.refl _ _,trivial⟩
   ·clear hm;rintro⟨v12,a13⟩ base h hm ⟨hr14,O,_⟩
    ((conv=>whnf);repeat(first|apply Cs|apply Hs|apply Hx);conv=>whnf)
    refine⟨_,addK (a:=v9) (b:=1) rfl rfl hm.1,?_⟩;(conv=>whnf);repeat(first|apply Hs|apply Hx);conv=>whnf
    replace hm:=hm.2
    exact⟨((v12,(v9+1)),a13),hm,⟨hr14,O,trivial⟩,VLe.refl _ _,VLe.refl _ _,VLe.refl _ _,VLe.refl _ _,VLe.refl _ _,trivial⟩
  ·replace hm:=hm.2 hc
   apply Cs;(conv=>whnf);repeat(first|apply Cs|apply Hs|apply Hx);conv=>whnf
   exact⟨(v7,a8),hm,⟨hr10,O,trivial⟩,VLe.refl _ _,trivial⟩
 ·clear hm;rintro⟨v3,a4⟩ base h hm ⟨hr5,O,_⟩
  conv=>whnf
  refine CodeS.joinWS hm (nn:=65) (σ:=(List (List Ln))×(List (Option Nat))) (fun s=>s.1) (fun (v37,a38) h=>RowsOk a38 v37∧Own vars h0 ([((some g1),.cells (rowVals 2 encLn a38 v37) false)]++(rowSlots encLn a38 v37)) h∧True) (fun (v37,a38)=>[(3,(.slice (some ⟨g1,0,none⟩) p0.nodes.length p0.nodes.length))]) rfl (fun hm'=>?_) ?_
  ·replace hm:=hm'
   apply Cs;(conv=>whnf);repeat(first|apply Cs|apply Hs|apply Hx);conv=>whnf
   refine lenS (n:=p0.nodes.length) rfl rfl ?_;(conv=>whnf);repeat(first|apply Cs|apply Hs|apply Hx);conv=>whnf
   refine loopWK hM (by kernel_rfl) (nn:=65) (S:=((List (List Ln))×Nat)) (σ:=((List (List Ln))×Nat)×(List (Option Nat))) (fun s=>s.1) (fun ((v41,v43),a42) h=>RowsOk a42 v41∧Own vars h0 ([((some g1),.cells (rowVals 2 encLn a42 v41) false)]++(rowSlots encLn a42 v41)) h∧True) (fun ((v41,v43),a42)=>[(3,(.slice (some ⟨g1,0,none⟩) p0.nodes.length p0.nodes.length)),(51,(.slice (some ⟨g1,0,none⟩) p0.nodes.length p0.nodes.length)),(52,(i64 p0.nodes.length)),(53,(i64 v43))]) rfl ((v3,0),a4) hm ⟨hr5,O,trivial⟩ ⟨VLe.refl _ _,VLe.refl _ _,VLe.refl _ _,VLe.refl _ _,trivial⟩ ?_
   clear hm;rintro⟨⟨v41,v43⟩,a42⟩ nx45 base h hm ⟨hr44,O,_⟩
   ((conv=>whnf);repeat(first|apply Cs|apply Hs|apply Hx);conv=>whnf)
   refine⟨_,rfl,fun hc=>?_,fun hc=>?_⟩
   ·replace hm:=hm.1 hc
    apply Cs;(conv=>whnf);repeat(first|apply Cs|apply Hs|apply Hx);conv=>whnf
    refine indexK (s:=1) (j:=v43) rfl rfl rfl rfl hm.1 ?_;(conv=>whnf);repeat(first|apply Hs|apply Hx);conv=>whnf
    replace hm:=hm.2
    obtain⟨x46,hx46,hm⟩:=hm
    obtain⟨a47,hA49,ha48,O⟩:=Own.focus (S:=[((some g1),.cells (rowVals 2 encLn a42 v41) false)]) hr44 O hx46
    refine⟨_,rowLoad (O.at (.tail _ (.head _))) hA49 hx46 rfl rfl,?_⟩;(conv=>whnf);repeat(first|apply Cs|apply Hs|apply Hx);conv=>whnf
    refine fnG hM Tryz.func74 rfl (hP _ _ rfl Tryz.func74) (lbE rfl) ?_;(conv=>whnf);repeat(first|apply Cs|apply Hs|apply Hx);conv=>whnf
    refine lenG (enc:=encLn) (l:=x46) rfl rfl ?_;(conv=>whnf);repeat(first|apply Hs|apply Hx);conv=>whnf
    refine lenG (enc:=encLn) (l:=x46) rfl rfl ?_;(conv=>whnf);repeat(first|apply Hs|apply Hx);conv=>whnf
    refine clipK (s:=2) (enc:=encLn) (l:=x46) (n:=x46.length) (m:=x46.length) rfl rfl rfl rfl rfl rfl rfl ?_;(conv=>whnf);repeat(first|apply Cs|apply Hs|apply Hx);conv=>whnf
    refine indexK (s:=1) (j:=v43) rfl rfl rfl rfl hm.1 ?_;(conv=>whnf);repeat(first|apply Hs|apply Hx);conv=>whnf
    replace hm:=hm.2
    refine O.rowStore (s:=2) (enc:=encLn) (j:=v43) (v:=(clipV a47 (x46.map encLn))) (.tail _ (.head _)) hr44 hx46 rfl rfl rfl rfl rfl fun h O=>?_;(conv=>whnf);repeat(first|apply Hs|apply Hx);conv=>whnf
    refine CodeS.ghostLe (cs':=(rowVals 2 encLn a42 v41).set v43 (growV 2 a47 (x46.map encLn))) O (.tail _ (.head _)) (t2:=3) rfl rfl (LLe.set (O.clipGrow (.head _) (fun _=>rfl) ha48)) fun h O=>?_
    rw[← rowVals_set] at O
    have hr51:RowsOk (a42.set v43 a47) (v41.set v43 x46):=RowsOk.set hr44 ha48
    replace O:=Own.unfocus (S:=[(some g1,.cells (rowVals 2 encLn (a42.set v43 a47) (v41.set v43 x46)) false)]) O hx46 hr44
    apply Cs;(conv=>whnf);repeat(first|apply Cs|apply Hs|apply Hx);conv=>whnf
    refine⟨_,addK (a:=v43) (b:=1) rfl rfl hm.1,?_⟩;(conv=>whnf);repeat(first|apply Hs|apply Hx);conv=>whnf
    replace hm:=hm.2
    exact⟨(((v41.set v43 x46),(v43+1)),(a42.set v43 a47)),hm,⟨hr51,O,trivial⟩,VLe.refl _ _,VLe.refl _ _,VLe.refl _ _,VLe.refl _ _,trivial⟩
   ·replace hm:=hm.2 hc
    apply Cs;(conv=>whnf);repeat(first|apply Cs|apply Hs|apply Hx);conv=>whnf
    exact⟨(v41,a42),hm,⟨hr44,O,trivial⟩,VLe.refl _ _,trivial⟩
  ·clear hm;rintro⟨v37,a38⟩ base h hm ⟨hr39,O,_⟩
   ((conv=>whnf);repeat(first|apply Cs|apply Hs|apply Hx);conv=>whnf)
   obtain⟨hn52,hm⟩:=hm
   exact⟨v37,hm,O.ext,fun h2 F=>Own.rowsFL (L:=[((some g1),.cells (rowVals 2 encLn a38 v37) false)]) O F (Nat.le_refl _) (.head _) hr39 (fun _=>rfl) hn52⟩
set_option maxHeartbeats 8000000
def names_all_wp (p0:Circ) (K:Nat→Prop):Prop :=
 joinW (α:=Unit) (fun k3=>loopW (S:=((List (ByteArray×Bool))×Nat)) (fun (v4,v5) nx6=>((ltN v5 p0.names.length)=true→∃ x7,p0.names[v5]?=some x7∧joinW (α:=Bool) (fun k9=>netlists_IsName_wp x7 (fun r10=>((!r10)=true→k9 true)∧((!r10)=false→k9 ((mget v4 x7).getD false)))) (fun v8=>(v8=true→K 5)∧(v8=false→v5+1<2 ^ 63∧nx6 ((mset v4 x7 true),(v5+1)))))∧((ltN v5 p0.names.length)=false→k3 ())) (([]:List (ByteArray×Bool)),0)) (fun _=>K 0)
theorem names_all_walk {p0:Circ}{K:Nat→Prop} (hm:names_all_wp p0 K) {h0:Heap} (hB:HasB vars h0):∃ r,K r∧CallD Tryz.prog NG 129 ⟨[encCirc p0]⟩ h0 (i64 r) h0:=by
 unfold names_all_wp at hm
 refine fnW hM Tryz.func129 rfl (hP _ _ rfl Tryz.func129) (lbE rfl) hB (enc:=i64) (fun r=>PureV.flat rfl) fun O=>?_;conv=>whnf
 apply Cs;(conv=>whnf);repeat(first|apply Cs|apply Hs|apply Hx);conv=>whnf
 refine NewG.frz rfl ?_;(conv=>whnf);repeat(first|apply Cs|apply Hs|apply Hx);conv=>whnf
 refine O.new ((rfl:anew _ _ _=some (.map (encM Value.string Value.bool ([]:List (ByteArray×Bool))),fun g=>.map (some g)))) fun g1 h O=>?_;(conv=>whnf);repeat(first|apply Hs|apply Hx);conv=>whnf
 refine CodeS.joinWS hm (nn:=25) (σ:=Unit×Unit) (fun s=>s.1) (fun (_,_) h=>Own vars h0 [] h∧True) (fun (_,_)=>[]) rfl (fun hm'=>?_) ?_
 ·replace hm:=hm'
  apply Cs;(conv=>whnf);repeat(first|apply Cs|apply Hs|apply Hx);conv=>whnf
  refine⟨_,(rfl:aread _ _ _ _=some _),?_⟩;(conv=>whnf);repeat(first|apply Hs|apply Hx);conv=>whnf
  refine lenM (s:=1) (enc:=Value.string) (l:=p0.names) rfl rfl ?_;(conv=>whnf);repeat(first|apply Cs|apply Hs|apply Hx);conv=>whnf
  refine loopWK hM (by kernel_rfl) (nn:=25) (S:=((List (ByteArray×Bool))×Nat)) (σ:=((List (ByteArray×Bool))×Nat)×Unit) (fun s=>s.1) (fun ((v4,v5),_) h=>Own vars h0 [((some g1),.map (encM Value.string Value.bool v4))] h∧True) (fun ((v4,v5),_)=>[(3,(.map (some g1))),(8,((encL 1 Value.string) p0.names)),(9,(i64 p0.names.length)),(10,(i64 v5))]) rfl ((([]:List (ByteArray×Bool)),0),()) hm ⟨O,trivial⟩ ⟨VLe.refl _ _,VLe.refl _ _,VLe.refl _ _,VLe.refl _ _,trivial⟩ ?_
  clear hm;rintro⟨⟨v4,v5⟩,_⟩ nx6 base h hm ⟨O,_⟩
  ((conv=>whnf);repeat(first|apply Cs|apply Hs|apply Hx);conv=>whnf)
  refine⟨_,rfl,fun hc=>?_,fun hc=>?_⟩
  ·replace hm:=hm.1 hc
   apply Cs;(conv=>whnf);repeat(first|apply Cs|apply Hs|apply Hx);conv=>whnf
   obtain⟨x7,hx7,hm⟩:=hm
   refine flAtM (s:=1) (enc:=Value.string) (j:=v5) rfl rfl rfl rfl hx7 ?_;(conv=>whnf);repeat(first|apply Hs|apply Hx);conv=>whnf
   refine⟨_,(rfl:aread _ _ _ _=some _),?_⟩;(conv=>whnf);repeat(first|apply Hs|apply Hx);conv=>whnf
   apply Cs;conv=>whnf
   refine CodeS.joinWS hm (nn:=25) (σ:=Bool×Unit) (fun s=>s.1) (fun (v8,_) h=>Own vars h0 [((some g1),.map (encM Value.string Value.bool v4))] h∧True) (fun (v8,_)=>[(3,(.map (some g1))),(5,(.string x7)),(8,((encL 1 Value.string) p0.names)),(9,(i64 p0.names.length)),(10,(i64 v5)),(21,(.bool v8))]) rfl (fun hm'=>?_) ?_
   ·replace hm:=hm'
    apply Cs;(conv=>whnf);repeat(first|apply Cs|apply Hs|apply Hx);conv=>whnf
    obtain⟨r10,hm,hcall⟩:=netlists_IsName_walk hm O.has
    refine⟨_,_,hcall,?_⟩;(conv=>whnf);repeat(first|apply Hs|apply Hx);conv=>whnf
    refine⟨_,rfl,fun hc=>?_,fun hc=>?_⟩
    ·replace hm:=hm.1 hc;(conv=>whnf);repeat(first|apply Hs|apply Hx);conv=>whnf
     exact⟨(true,()),hm,⟨O,trivial⟩,VLe.refl _ _,VLe.refl _ _,VLe.refl _ _,VLe.refl _ _,VLe.refl _ _,VLe.refl _ _,trivial⟩
    ·replace hm:=hm.2 hc;(conv=>whnf);repeat(first|apply Hs|apply Hx);conv=>whnf
     refine⟨_,lookupK (ek:=Value.string) (ev:=Value.bool) (m:=v4) (k:=x7) (z:=false) rfl rfl rfl rfl (by kernel_rfl) sameStr (O.at (.head _)) rfl rfl,?_⟩;(conv=>whnf);repeat(first|apply Hs|apply Hx);conv=>whnf
     exact⟨(((mget v4 x7).getD false),()),hm,⟨O,trivial⟩,VLe.refl _ _,VLe.refl _ _,VLe.refl _ _,VLe.refl _ _,VLe.refl _ _,VLe.refl _ _,trivial⟩
   ·clear hm;rintro⟨v8,_⟩ base h hm ⟨O,_⟩
    ((conv=>whnf);repeat(first|apply Cs|apply Hs|apply Hx);conv=>whnf)
    refine⟨_,rfl,fun hc=>?_,fun hc=>?_⟩
    ·replace hm:=hm.1 hc
     apply Cs;(conv=>whnf);repeat(first|apply Cs|apply Hs|apply Hx);conv=>whnf
     exact⟨5,hm,O.ext,fun h2 F=>VLe.refl _ _⟩
    ·replace hm:=hm.2 hc
     apply Cs;(conv=>whnf);repeat(first|apply Cs|apply Hs|apply Hx);conv=>whnf
     refine O.mapSet (ek:=Value.string) (ev:=Value.bool) (m:=v4) (k:=x7) (v:=true) (.head _) rfl rfl rfl sameStr rfl rfl rfl fun h O=>?_;(conv=>whnf);repeat(first|apply Cs|apply Hs|apply Hx);conv=>whnf
     refine⟨_,addK (a:=v5) (b:=1) rfl rfl hm.1,?_⟩;(conv=>whnf);repeat(first|apply Hs|apply Hx);conv=>whnf
     replace hm:=hm.2
     exact⟨(((mset v4 x7 true),(v5+1)),()),hm,⟨O,trivial⟩,VLe.refl _ _,VLe.refl _ _,VLe.refl _ _,VLe.refl _ _,trivial⟩
  ·replace hm:=hm.2 hc
   apply Cs;(conv=>whnf);repeat(first|apply Cs|apply Hs|apply Hx);conv=>whnf
   exact⟨((),()),hm,⟨(O.sel [] (by decide)),trivial⟩,trivial⟩
 ·clear hm;rintro⟨_,_⟩ base h hm ⟨O,_⟩
  ((conv=>whnf);repeat(first|apply Cs|apply Hs|apply Hx);conv=>whnf)
  exact⟨0,hm,O.ext,fun h2 F=>VLe.refl _ _⟩
theorem nats_one (l:List Nat):∀ e∈l.map i64,(cl e).length=1:=by
 intro e m
 obtain⟨a,_,rfl⟩:=List.mem_map.1 m
 rfl
theorem flatC_nats:∀ l:List Nat,flatC (l.map i64)=l.map i64
 |[]=>rfl
 |a::l=>by rw[List.map_cons,flatC_cons,flatC_nats l];rfl
def trisK (ks:List Nat):Nat→List Nat
 |0=>[]
 |i+1=>if ks.getD i 0=12 then trisK ks i++[i] else trisK ks i
def gateK (bus:Bool) (g:GData) (ks:List Nat):Node :=
 if (if bus then g.kind%13 else g.kind%9)<6 then ⟨5+(if bus then g.kind%13 else g.kind%9),if 128≤g.kind then [g.a%ks.length,g.b%ks.length,g.d%ks.length] else [g.a%ks.length,g.b%ks.length],0,0⟩
 else if (if bus then g.kind%13 else g.kind%9)=6 then ⟨4,[g.a%ks.length],0,0⟩
 else if (if bus then g.kind%13 else g.kind%9)=7 then ⟨11,[g.a%ks.length,g.b%ks.length,g.d%ks.length],0,0⟩
 else if (if bus then g.kind%13 else g.kind%9)=9∨(if bus then g.kind%13 else g.kind%9)=10 then ⟨12,[g.a%ks.length,g.b%ks.length],0,0⟩
 else if 10<(if bus then g.kind%13 else g.kind%9)∧0<(trisK ks ks.length).length then
  ⟨13,if 1<(trisK ks ks.length).length then [(trisK ks ks.length).getD (g.a%(trisK ks ks.length).length) 0,(trisK ks ks.length).getD ((g.a%(trisK ks ks.length).length+1)%(trisK ks ks.length).length) 0] else [(trisK ks ks.length).getD (g.a%(trisK ks ks.length).length) 0],0,0⟩
 else if 240<g.kind then ⟨1+g.a%2,[],0,0⟩
 else ⟨3,[g.a%ks.length],0,0⟩
theorem trisK_le (ks:List Nat):∀ i,(trisK ks i).length≤i
 |0=>Nat.le_refl 0
 |i+1=>by
  have:=trisK_le ks i
  unfold trisK
  split
  ·simp;omega
  ·omega
set_option maxHeartbeats 8000000 in
theorem gate_ok' {x:CData}{g:GData} (hg:GOk g) {ks:List Nat} (hn:0<ks.length) (hn2:ks.length≤1000) {gn:Nat}{sp:Option Nat}{cap:Nat}{cs:List Value}{ro:Bool}{h0:Heap} (hB:HasB vars h0)
   (hgn:h0.get gn=some (.cells cs ro)) (hcs:∀ i,i<ks.length→cs[0+i*4]?=some (n8 (ks.getD i 0))) :
   CallD Tryz.prog NG 63 #[encC x,encG g,.slice (some ⟨gn,0,sp⟩) ks.length cap] h0 (encNode (gateK x.bus g ks)) h0:=by
 obtain⟨kind,a,b,d⟩:=g
 obtain⟨inp,dffs,data0,data1,bus,mem,p0,p1,p2,p3,gates,outs⟩:=x
 obtain⟨hk,ha,hb,hd⟩:=hg
 simp only at hk ha hb hd
 have hnode:∀ k ins,encNode ⟨k,ins,0,0⟩=encNode ⟨k,ins,0,0⟩:=fun _ _=>rfl
 unfold gateK
 simp only
 refine fnH hM Tryz.func63 rfl (hP _ _ rfl Tryz.func63) (lbE rfl) (hB) (pure_node _) fun O=>?_;(conv=>whnf);repeat(first|apply Cs|apply Rs|apply Rx);conv=>whnf
 refine NewG.frz rfl ?_;(conv=>whnf);repeat(first|apply Cs|apply Rs|apply Rx);conv=>whnf
 refine NewG.frz rfl ?_;(conv=>whnf);repeat(first|apply Cs|apply Rs|apply Rx);conv=>whnf
 refine O.new (anew_alloc (l:=[u8 0,.slice none 0 0,i64 0,i64 0]) rfl rfl rfl) fun g6 h O=>?_;(conv=>whnf);repeat(first|apply Cs|apply Rs|apply Rx);conv=>whnf
 ((conv=>whnf);repeat(first|apply Cs|apply Rs|apply Rx);conv=>whnf);repeat((first|refine⟨_,(rfl:aread _ _ _ _=some _),?_⟩|refine idxR rfl ?_|refine⟨_,convIntK rfl rfl rfl (u8_wide _ (by omega)),?_⟩|refine⟨_,remK rfl rfl (by omega),?_⟩|refine⟨.inl rfl,?_⟩);((conv=>whnf);repeat(first|apply Cs|apply Rs|apply Rx);conv=>whnf))
 refine countG hM (by kernel_rfl) (nn:=158) ks.length (fun i (a:Option Nat) h'=>(a=none→trisK ks i=[])∧Own vars h0 [(a,.cells (flatC ((trisK ks i).map i64)) false),(some g6,.cells [u8 0,.slice none 0 0,i64 0,i64 0] false)] h')
   (fun i t=>[(2,.slice (some ⟨gn,0,sp⟩) ks.length cap),(3,FP (encC ⟨inp,dffs,data0,data1,bus,mem,p0,p1,p2,p3,gates,outs⟩)),(4,FP (encG ⟨kind,a,b,d⟩)),(6,.pointer (some ⟨g6,0,none⟩)),(7,i64 ks.length),(8,i64 (a%ks.length)),(9,i64 (b%ks.length)),(10,i64 (d%ks.length)),(11,growV 1 t ((trisK ks i).map i64)),(12,i64 i)])
   rfl none ⟨fun _=>rfl,O.addNil _⟩ ⟨rfl,rfl,rfl,rfl,rfl,rfl,rfl,rfl,rfl,rfl,trivial⟩ ?_ ?_
 · rintro i t base h1 hi ⟨ht,O⟩
   have hle:=trisK_le ks i
   ((conv=>whnf);repeat(first|apply Cs|apply Rs|apply Rx);conv=>whnf)
   refine⟨_,rfl,fun _=>?_,(fun hx=>nomatch (hx.symm.trans (lt_nat hi)))⟩;(conv=>whnf);repeat(first|apply Cs|apply Rs|apply Rx);conv=>whnf
   refine indexK (s:=4) rfl rfl rfl rfl hi ?_;(conv=>whnf);repeat(first|apply Cs|apply Rs|apply Rx);conv=>whnf
   refine⟨_,loadK rfl (O.ext.get hgn) rfl (hcs i hi),?_⟩;(conv=>whnf);repeat(first|apply Cs|apply Rs|apply Rx);conv=>whnf
   refine⟨_,rfl,fun hc=>?_,fun hc=>?_⟩
   · have hk12:ks.getD i 0=12:=by have:=eq_of_beq hc;simp only[Int.ofNat_eq_natCast] at this;omega
     have hts:trisK ks (i+1)=trisK ks i++[i]:=by rw[trisK,if_pos hk12]
     have hv:(trisK ks i).map i64++[i64 i]=(trisK ks (i+1)).map i64:=by rw[hts,List.map_append];rfl
     ((conv=>whnf);repeat(first|apply Cs|apply Rs|apply Rx);conv=>whnf)
     refine NewG.frz rfl ?_;(conv=>whnf);repeat(first|apply Cs|apply Rs|apply Rx);conv=>whnf
     refine O.append (s:=1) (b:=8) (m:=1) (new:=[i64 i]) (.head _) (fun e=>by rw[ht e];rfl) rfl rfl rfl rfl rfl rfl rfl rfl rfl rfl rfl (by rw[hv];exact nats_one _) rfl (by decide) (by rw[List.length_map];omega) (hv) fun t' h ha O=>?_;(conv=>whnf);repeat(first|apply Cs|apply Rs|apply Rx);conv=>whnf
     refine⟨_,addK (b:=1) rfl rfl (by omega),?_⟩;(conv=>whnf);repeat(first|apply Cs|apply Rs|apply Rx);conv=>whnf
     exact⟨t',⟨fun e=>by have:=ha e;simpa using this,O⟩,rfl,rfl,rfl,rfl,rfl,rfl,rfl,rfl,rfl,rfl,trivial⟩
   · have hk12:¬ ks.getD i 0=12:=fun e=>by rw[e] at hc;cases hc
     have hts:trisK ks (i+1)=trisK ks i:=by rw[trisK,if_neg hk12]
     ((conv=>whnf);repeat(first|apply Cs|apply Rs|apply Rx);conv=>whnf)
     refine⟨_,addK (b:=1) rfl rfl (by omega),?_⟩;(conv=>whnf);repeat(first|apply Cs|apply Rs|apply Rx);conv=>whnf
     exact⟨t,by rw[hts];exact⟨ht,O⟩,rfl,rfl,rfl,rfl,rfl,rfl,rfl,rfl,by rw[hts];rfl,rfl,trivial⟩
 · rintro t base h1 ⟨ht,O⟩
   have hle:=trisK_le ks ks.length
   generalize trisK ks ks.length=T at ht O hle
   ((conv=>whnf);repeat(first|apply Cs|apply Rs|apply Rx);conv=>whnf)
   refine⟨_,rfl,(fun hx=>nomatch (hx.symm.trans (lt_end ks.length))),fun _=>?_⟩;(conv=>whnf);repeat(first|apply Cs|apply Rs|apply Rx);conv=>whnf
   have hU8:∀ n:Nat,n<256→IntKind.u8.wrap (Int.ofNat n)=Int.ofNat n:=fun n hn=>IntWalk.u8_in _ (by simp only[Int.ofNat_eq_natCast];omega)
   cases bus with
   | true =>
     ((conv=>whnf);repeat(first|apply Cs|apply Rs|apply Rx);conv=>whnf);repeat((first|refine⟨true,rfl,fun _=>?_,(fun hc=>nomatch hc)⟩|refine⟨_,(rfl:aread _ _ _ _=some _),?_⟩|refine⟨_,convIntK rfl rfl rfl (u8_wide _ (by omega)),?_⟩|refine⟨_,remK (b:=9) rfl rfl (by decide),?_⟩|refine⟨_,remK (b:=13) rfl rfl (by decide),?_⟩);((conv=>whnf);repeat(first|apply Cs|apply Rs|apply Rx);conv=>whnf))
     simp only[if_true]
     generalize hkk:kind%13=kk
     have hk13:kk<13:=by omega
     refine⟨_,rfl,fun hc=>?_,fun hc=>?_⟩
     · have h6:kk<6:=(by have:=lt_of_ltI' (hc);first|omega | (simp only[Int.ofNat_eq_natCast] at this;omega))
       rw[if_pos h6]
       ((conv=>whnf);repeat(first|apply Cs|apply Rs|apply Rx);conv=>whnf)
       refine⟨_,convIntK rfl rfl rfl (hU8 kk (by omega)),?_⟩;(conv=>whnf);repeat(first|apply Cs|apply Rs|apply Rx);conv=>whnf
       refine⟨_,addU8K (a:=5) rfl rfl (by omega),?_⟩;(conv=>whnf);repeat(first|apply Cs|apply Rs|apply Rx);conv=>whnf
       refine O.new (buildK (vs:=[i64 (a%ks.length),i64 (b%ks.length)]) (s:=1) (z:=i64 0) rfl rfl (by kernel_rfl) (by kernel_rfl) rfl rfl rfl rfl (nats_one [a%ks.length,b%ks.length])) fun gi h O=>?_;(conv=>whnf);repeat(first|apply Cs|apply Rs|apply Rx);conv=>whnf
       refine O.new (anew_alloc (l:=[u8 0,.slice none 0 0,i64 0,i64 0]) rfl rfl rfl) fun gv h O=>?_;(conv=>whnf);repeat(first|apply Cs|apply Rs|apply Rx);conv=>whnf
       ((conv=>whnf);repeat(first|apply Cs|apply Rs|apply Rx);conv=>whnf);repeat((first|refine⟨_,(rfl:aread _ _ _ _=some _),?_⟩|refine O.store (.head _) rfl rfl rfl rfl (lbE rfl) rfl rfl fun h O=>?_);((conv=>whnf);repeat(first|apply Cs|apply Rs|apply Rx);conv=>whnf))
       refine⟨_,rfl,fun hc=>?_,fun hc=>?_⟩
       · have h128:128≤kind:=by
           have hc:(!ltI (Int.ofNat kind) 128)=true:=hc
           rw[ltI_eq] at hc
           simp at hc
           omega
         rw[if_pos h128]
         ((conv=>whnf);repeat(first|apply Cs|apply Rs|apply Rx);conv=>whnf);repeat(refine⟨_,loadK rfl (O.at (.head _)) rfl rfl,?_⟩;((conv=>whnf);repeat(first|apply Cs|apply Rs|apply Rx);conv=>whnf))
         refine NewG.frz rfl ?_;(conv=>whnf);repeat(first|apply Cs|apply Rs|apply Rx);conv=>whnf
         refine O.appendX (s:=1) (b:=8) (m:=1) (n:=2) (new:=[i64 (d%ks.length)]) (O.at (.tail _ (.head _))) rfl rfl rfl rfl rfl rfl rfl rfl rfl rfl rfl rfl (by decide) rfl (by decide) (by decide) rfl fun gj h O=>?_;(conv=>whnf);repeat(first|apply Cs|apply Rs|apply Rx);conv=>whnf
         ((conv=>whnf);repeat(first|apply Cs|apply Rs|apply Rx);conv=>whnf);repeat((first|refine⟨_,loadAggK rfl (O.at (.tail _ (.head _))) rfl rfl (lbE rfl) rfl,?_⟩|refine O.store (.tail _ (.head _)) rfl rfl rfl rfl (lbE rfl) rfl rfl fun h O=>?_|refine O.store (.tail _ (.tail _ (.tail _ (.tail _ (.head _))))) rfl rfl rfl rfl (lbE rfl) rfl rfl fun h O=>?_);((conv=>whnf);repeat(first|apply Cs|apply Rs|apply Rx);conv=>whnf))
         refine⟨_,resAggK rfl rfl (O.at (.tail _ (.tail _ (.tail _ (.tail _ (.head _)))))) rfl rfl (lbE rfl) rfl,?_⟩;(conv=>whnf);repeat(first|apply Cs|apply Rs|apply Rx);conv=>whnf
         refine⟨O.ext,fun h2 F=>VLe.agg (LLe.cons (VLe.refl _ _) (LLe.cons (O.flat (es:=[a%ks.length,b%ks.length,d%ks.length].map i64) F (Nat.le_refl _) (.head _) rfl rfl (nats_one _)) (LLe.refl _ _)))⟩
       · have h128:¬ 128≤kind:=by
           have hc:(!ltI (Int.ofNat kind) 128)=false:=hc
           rw[ltI_eq] at hc
           simp at hc
           omega
         rw[if_neg h128]
         ((conv=>whnf);repeat(first|apply Cs|apply Rs|apply Rx);conv=>whnf);repeat((first|refine⟨_,loadAggK rfl (O.at (.head _)) rfl rfl (lbE rfl) rfl,?_⟩|refine O.store (.tail _ (.tail _ (.tail _ (.head _)))) rfl rfl rfl rfl (lbE rfl) rfl rfl fun h O=>?_);((conv=>whnf);repeat(first|apply Cs|apply Rs|apply Rx);conv=>whnf))
         refine⟨_,resAggK rfl rfl (O.at (.tail _ (.tail _ (.tail _ (.head _))))) rfl rfl (lbE rfl) rfl,?_⟩;(conv=>whnf);repeat(first|apply Cs|apply Rs|apply Rx);conv=>whnf
         refine⟨O.ext,fun h2 F=>VLe.agg (LLe.cons (VLe.refl _ _) (LLe.cons (O.flat (es:=[a%ks.length,b%ks.length].map i64) F (Nat.le_refl _) (.tail _ (.head _)) rfl rfl (nats_one _)) (LLe.refl _ _)))⟩
     · have h6:¬ kk<6:=(by have:=ge_of_ltI' (hc);first|omega | (simp only[Int.ofNat_eq_natCast] at this;omega))
       have eqN:∀ c:Nat,(Int.ofNat kk==(Int.ofNat c))=decide (kk=c):=fun c=>by
         rw[Bool.eq_iff_iff];simp only[Int.ofNat_eq_natCast,beq_iff_eq,decide_eq_true_eq];omega
       rw[if_neg h6]
       ((conv=>whnf);repeat(first|apply Cs|apply Rs|apply Rx);conv=>whnf)
       refine⟨_,rfl,fun hc=>?_,fun hc=>?_⟩
       · rw[if_pos (of_decide_eq_true ((eqN 6).symm.trans hc))]
         ((conv=>whnf);repeat(first|apply Cs|apply Rs|apply Rx);conv=>whnf);repeat((first|refine O.store (.tail _ (.head _)) rfl rfl rfl rfl (lbE rfl) rfl rfl fun h O=>?_|refine NewG.frz rfl ?_);((conv=>whnf);repeat(first|apply Cs|apply Rs|apply Rx);conv=>whnf))
         refine⟨_,resAggK rfl rfl (O.at (.tail _ (.head _))) rfl rfl (lbE rfl) rfl,?_⟩;(conv=>whnf);repeat(first|apply Cs|apply Rs|apply Rx);conv=>whnf
         exact O.ret
       rw[if_neg (of_decide_eq_false ((eqN 6).symm.trans hc))]
       ((conv=>whnf);repeat(first|apply Cs|apply Rs|apply Rx);conv=>whnf)
       refine⟨_,rfl,fun hc=>?_,fun hc=>?_⟩
       · rw[if_pos (of_decide_eq_true ((eqN 7).symm.trans hc))]
         ((conv=>whnf);repeat(first|apply Cs|apply Rs|apply Rx);conv=>whnf);repeat((first|refine O.store (.tail _ (.head _)) rfl rfl rfl rfl (lbE rfl) rfl rfl fun h O=>?_|refine NewG.frz rfl ?_);((conv=>whnf);repeat(first|apply Cs|apply Rs|apply Rx);conv=>whnf))
         refine⟨_,resAggK rfl rfl (O.at (.tail _ (.head _))) rfl rfl (lbE rfl) rfl,?_⟩;(conv=>whnf);repeat(first|apply Cs|apply Rs|apply Rx);conv=>whnf
         exact O.ret
       rw[if_neg (of_decide_eq_false ((eqN 7).symm.trans hc))]
       ((conv=>whnf);repeat(first|apply Cs|apply Rs|apply Rx);conv=>whnf)
       refine⟨_,rfl,fun hc=>?_,fun hc=>?_⟩
       · rw[if_pos (.inl (of_decide_eq_true ((eqN 9).symm.trans hc)))]
         rw[hc]
         ((conv=>whnf);repeat(first|apply Cs|apply Rs|apply Rx);conv=>whnf);repeat((first|refine⟨true,rfl,fun _=>?_,(fun hc=>nomatch hc)⟩|refine O.store (.tail _ (.head _)) rfl rfl rfl rfl (lbE rfl) rfl rfl fun h O=>?_|refine NewG.frz rfl ?_);((conv=>whnf);repeat(first|apply Cs|apply Rs|apply Rx);conv=>whnf))
         refine⟨_,resAggK rfl rfl (O.at (.tail _ (.head _))) rfl rfl (lbE rfl) rfl,?_⟩;(conv=>whnf);repeat(first|apply Cs|apply Rs|apply Rx);conv=>whnf
         exact O.ret
       have h9:¬ kk=9:=of_decide_eq_false ((eqN 9).symm.trans hc)
       rw[hc]
       ((conv=>whnf);repeat(first|apply Cs|apply Rs|apply Rx);conv=>whnf)
       refine⟨_,rfl,fun hc=>?_,fun hc=>?_⟩
       · rw[if_pos (.inr (of_decide_eq_true ((eqN 10).symm.trans hc)))]
         ((conv=>whnf);repeat(first|apply Cs|apply Rs|apply Rx);conv=>whnf);repeat((first|refine O.store (.tail _ (.head _)) rfl rfl rfl rfl (lbE rfl) rfl rfl fun h O=>?_|refine NewG.frz rfl ?_);((conv=>whnf);repeat(first|apply Cs|apply Rs|apply Rx);conv=>whnf))
         refine⟨_,resAggK rfl rfl (O.at (.tail _ (.head _))) rfl rfl (lbE rfl) rfl,?_⟩;(conv=>whnf);repeat(first|apply Cs|apply Rs|apply Rx);conv=>whnf
         exact O.ret
       rw[if_neg (fun h=>h.elim h9 (of_decide_eq_false ((eqN 10).symm.trans hc)))]
       ((conv=>whnf);repeat(first|apply Cs|apply Rs|apply Rx);conv=>whnf)
       refine⟨_,rfl,fun hc=>?_,fun hc=>?_⟩
       · have h10:10<kk:=(by have:=lt_of_ltI' (hc);first|omega | (simp only[Int.ofNat_eq_natCast] at this;omega))
         rw[hc]
         ((conv=>whnf);repeat(first|apply Cs|apply Rs|apply Rx);conv=>whnf)
         rw[List.length_map]
         refine⟨_,rfl,fun hc=>?_,fun hc=>?_⟩
         · have hT:0<T.length:=(by have:=lt_of_ltI' (hc);first|omega | (simp only[Int.ofNat_eq_natCast] at this;omega))
           rw[if_pos ⟨h10,hT⟩]
           obtain⟨gt,rfl⟩:∃ gt,t=some gt:=by
             cases t with
             |none=>rw[ht rfl] at hT;simp at hT
             |some g=>exact⟨g,rfl⟩
           rw[flatC_nats] at O
           have hTg:∀ i,i<T.length→(T.map i64)[0+i*1]?=some (i64 (T.getD i 0)):=fun i hi=>by
             rw[Nat.zero_add,Nat.mul_one,List.getElem?_map,List.getElem?_eq_getElem hi,List.getD,List.getElem?_eq_getElem hi];rfl
           ((conv=>whnf);repeat(first|apply Cs|apply Rs|apply Rx);conv=>whnf);repeat((first|refine⟨_,(rfl:aread _ _ _ _=some _),?_⟩|refine idxR rfl ?_|refine⟨_,convIntK rfl rfl rfl (u8_wide _ (by omega)),?_⟩);((conv=>whnf);repeat(first|apply Cs|apply Rs|apply Rx);conv=>whnf))
           rw[List.length_map]
           refine⟨_,remK (b:=T.length) rfl rfl hT,?_⟩;(conv=>whnf);repeat(first|apply Cs|apply Rs|apply Rx);conv=>whnf
           have hmod:=Nat.mod_lt a hT
           refine indexK (s:=1) rfl rfl rfl rfl (by rw[List.length_map];exact hmod) ?_;(conv=>whnf);repeat(first|apply Cs|apply Rs|apply Rx);conv=>whnf
           refine⟨_,loadK rfl (O.at (.head _)) rfl (hTg _ hmod),?_⟩;(conv=>whnf);repeat(first|apply Cs|apply Rs|apply Rx);conv=>whnf
           refine O.new (buildK (vs:=[i64 (T.getD (a%T.length) 0)]) (s:=1) (z:=i64 0) rfl rfl (by kernel_rfl) (by kernel_rfl) rfl rfl rfl rfl (nats_one [T.getD (a%T.length) 0])) fun gi h O=>?_;(conv=>whnf);repeat(first|apply Cs|apply Rs|apply Rx);conv=>whnf
           refine O.new (anew_alloc (l:=[u8 0,.slice none 0 0,i64 0,i64 0]) rfl rfl rfl) fun gv h O=>?_;(conv=>whnf);repeat(first|apply Cs|apply Rs|apply Rx);conv=>whnf
           ((conv=>whnf);repeat(first|apply Cs|apply Rs|apply Rx);conv=>whnf);repeat(refine O.store (.head _) rfl rfl rfl rfl (lbE rfl) rfl rfl fun h O=>?_;((conv=>whnf);repeat(first|apply Cs|apply Rs|apply Rx);conv=>whnf))
           rw[List.length_map]
           refine⟨_,rfl,fun hc=>?_,fun hc=>?_⟩
           · have hT1:1<T.length:=(by have:=lt_of_ltI' (hc);first|omega | (simp only[Int.ofNat_eq_natCast] at this;omega))
             rw[if_pos hT1]
             have hmod2:=Nat.mod_lt (a%T.length+1) hT
             have hk63:a%T.length+1<2 ^ 63:=by omega
             ((conv=>whnf);repeat(first|apply Cs|apply Rs|apply Rx);conv=>whnf);repeat((first|refine⟨_,loadK rfl (O.at (.head _)) rfl rfl,?_⟩|refine⟨_,addK (b:=1) rfl rfl (by omega),?_⟩|refine⟨.inr (.inr (loadK rfl (O.at (.head _)) rfl rfl)),?_⟩);((conv=>whnf);repeat(first|apply Cs|apply Rs|apply Rx);conv=>whnf))
             rw[List.length_map]
             refine⟨_,remK (b:=T.length) rfl rfl hT,?_⟩;(conv=>whnf);repeat(first|apply Cs|apply Rs|apply Rx);conv=>whnf
             refine indexK (s:=1) rfl rfl rfl rfl (hmod2) ?_;(conv=>whnf);repeat(first|apply Cs|apply Rs|apply Rx);conv=>whnf
             refine⟨_,loadK rfl (O.at (.tail _ (.tail _ (.head _)))) rfl (hTg _ hmod2),?_⟩;(conv=>whnf);repeat(first|apply Cs|apply Rs|apply Rx);conv=>whnf
             refine⟨.inl rfl,?_⟩;(conv=>whnf);repeat(first|apply Cs|apply Rs|apply Rx);conv=>whnf
             refine O.newX (buildK (vs:=[i64 (T.getD ((a%T.length+1)%T.length) 0)]) (s:=1) (z:=i64 0) rfl rfl (by kernel_rfl) (by kernel_rfl) rfl rfl rfl rfl (nats_one [T.getD ((a%T.length+1)%T.length) 0])) fun gy h O=>?_;(conv=>whnf);repeat(first|apply Cs|apply Rs|apply Rx);conv=>whnf
             refine O.appendX (s:=1) (b:=8) (m:=1) (n:=1) (new:=[i64 (T.getD ((a%T.length+1)%T.length) 0)]) (O.at (.tail _ (.tail _ (.head _)))) rfl rfl rfl rfl rfl rfl rfl rfl rfl rfl (firstOf_obj (O.at (.head _)) rfl) rfl (by decide) rfl (by decide) (by decide) rfl fun gj h O=>?_;(conv=>whnf);repeat(first|apply Cs|apply Rs|apply Rx);conv=>whnf
             ((conv=>whnf);repeat(first|apply Cs|apply Rs|apply Rx);conv=>whnf);repeat((first|refine⟨_,loadAggK rfl (O.at (.tail _ (.tail _ (.head _)))) rfl rfl (lbE rfl) rfl,?_⟩|refine⟨.inl rfl,?_⟩|refine O.store (.tail _ (.tail _ (.head _))) rfl rfl rfl rfl (lbE rfl) rfl rfl fun h O=>?_|refine O.store (.tail _ (.tail _ (.tail _ (.tail _ (.tail _ (.head _)))))) rfl rfl rfl rfl (lbE rfl) rfl rfl fun h O=>?_);((conv=>whnf);repeat(first|apply Cs|apply Rs|apply Rx);conv=>whnf))
             refine⟨_,resAggK rfl rfl (O.at (.tail _ (.tail _ (.tail _ (.tail _ (.tail _ (.head _))))))) rfl rfl (lbE rfl) rfl,?_⟩;(conv=>whnf);repeat(first|apply Cs|apply Rs|apply Rx);conv=>whnf
             refine⟨O.ext,fun h2 F=>VLe.agg (LLe.cons (VLe.refl _ _) (LLe.cons (O.flat (es:=[T.getD (a%T.length) 0,T.getD ((a%T.length+1)%T.length) 0].map i64) F (Nat.le_refl _) (.head _) rfl rfl (nats_one _)) (LLe.refl _ _)))⟩
           · have hT1:¬ 1<T.length:=(by have:=ge_of_ltI' (hc);first|omega | (simp only[Int.ofNat_eq_natCast] at this;omega))
             rw[if_neg hT1]
             ((conv=>whnf);repeat(first|apply Cs|apply Rs|apply Rx);conv=>whnf);repeat((first|refine⟨_,loadAggK rfl (O.at (.head _)) rfl rfl (lbE rfl) rfl,?_⟩|refine O.store (.tail _ (.tail _ (.tail _ (.head _)))) rfl rfl rfl rfl (lbE rfl) rfl rfl fun h O=>?_);((conv=>whnf);repeat(first|apply Cs|apply Rs|apply Rx);conv=>whnf))
             refine⟨_,resAggK rfl rfl (O.at (.tail _ (.tail _ (.tail _ (.head _))))) rfl rfl (lbE rfl) rfl,?_⟩;(conv=>whnf);repeat(first|apply Cs|apply Rs|apply Rx);conv=>whnf
             refine⟨O.ext,fun h2 F=>VLe.agg (LLe.cons (VLe.refl _ _) (LLe.cons (O.flat (es:=[T.getD (a%T.length) 0].map i64) F (Nat.le_refl _) (.tail _ (.head _)) rfl rfl (nats_one _)) (LLe.refl _ _)))⟩
         · have hno:¬ (10<kk∧0<T.length):=fun h=>absurd h.2 (by have:=ge_of_ltI' (hc);first|omega | (simp only[Int.ofNat_eq_natCast] at this;omega))
           rw[if_neg hno]
           ((conv=>whnf);repeat(first|apply Cs|apply Rs|apply Rx);conv=>whnf);repeat(refine⟨_,(rfl:aread _ _ _ _=some _),?_⟩;((conv=>whnf);repeat(first|apply Cs|apply Rs|apply Rx);conv=>whnf))
           refine⟨_,rfl,fun hc=>?_,fun hc=>?_⟩
           · have h240:240<kind:=(by have:=lt_of_ltI' (hc);first|omega | (simp only[Int.ofNat_eq_natCast] at this;omega))
             rw[if_pos h240]
             ((conv=>whnf);repeat(first|apply Cs|apply Rs|apply Rx);conv=>whnf);repeat((first|refine⟨_,(rfl:aread _ _ _ _=some _),?_⟩|refine idxR rfl ?_|refine⟨_,remK (b:=2) rfl rfl (by decide),?_⟩);((conv=>whnf);repeat(first|apply Cs|apply Rs|apply Rx);conv=>whnf))
             refine⟨_,addU8K (a:=1) rfl rfl (by omega),?_⟩;(conv=>whnf);repeat(first|apply Cs|apply Rs|apply Rx);conv=>whnf
             ((conv=>whnf);repeat(first|apply Cs|apply Rs|apply Rx);conv=>whnf);repeat(refine O.store (.tail _ (.head _)) rfl rfl rfl rfl (lbE rfl) rfl rfl fun h O=>?_;((conv=>whnf);repeat(first|apply Cs|apply Rs|apply Rx);conv=>whnf))
             refine⟨_,resAggK rfl rfl (O.at (.tail _ (.head _))) rfl rfl (lbE rfl) rfl,?_⟩;(conv=>whnf);repeat(first|apply Cs|apply Rs|apply Rx);conv=>whnf
             exact⟨O.ext,fun h2 F=>VLe.agg (LLe.cons (VLe.refl _ _) (LLe.cons (VLe.nil _ _) (LLe.refl _ _)))⟩
           · have h240:¬ 240<kind:=(by have:=ge_of_ltI' (hc);first|omega | (simp only[Int.ofNat_eq_natCast] at this;omega))
             rw[if_neg h240]
             ((conv=>whnf);repeat(first|apply Cs|apply Rs|apply Rx);conv=>whnf);repeat((first|refine O.store (.tail _ (.head _)) rfl rfl rfl rfl (lbE rfl) rfl rfl fun h O=>?_|refine NewG.frz rfl ?_);((conv=>whnf);repeat(first|apply Cs|apply Rs|apply Rx);conv=>whnf))
             refine⟨_,resAggK rfl rfl (O.at (.tail _ (.head _))) rfl rfl (lbE rfl) rfl,?_⟩;(conv=>whnf);repeat(first|apply Cs|apply Rs|apply Rx);conv=>whnf
             exact O.ret
       · have hno:¬ (10<kk∧0<T.length):=fun h=>absurd h.1 (by have:=ge_of_ltI' (hc);first|omega | (simp only[Int.ofNat_eq_natCast] at this;omega))
         rw[hc]
         ((conv=>whnf);repeat(first|apply Cs|apply Rs|apply Rx);conv=>whnf)
         refine⟨false,rfl,(fun hc=>nomatch hc),fun _=>?_⟩;(conv=>whnf);repeat(first|apply Cs|apply Rs|apply Rx);conv=>whnf
         rw[if_neg hno]
         ((conv=>whnf);repeat(first|apply Cs|apply Rs|apply Rx);conv=>whnf);repeat(refine⟨_,(rfl:aread _ _ _ _=some _),?_⟩;((conv=>whnf);repeat(first|apply Cs|apply Rs|apply Rx);conv=>whnf))
         refine⟨_,rfl,fun hc=>?_,fun hc=>?_⟩
         · have h240:240<kind:=(by have:=lt_of_ltI' (hc);first|omega | (simp only[Int.ofNat_eq_natCast] at this;omega))
           rw[if_pos h240]
           ((conv=>whnf);repeat(first|apply Cs|apply Rs|apply Rx);conv=>whnf);repeat((first|refine⟨_,(rfl:aread _ _ _ _=some _),?_⟩|refine idxR rfl ?_|refine⟨_,remK (b:=2) rfl rfl (by decide),?_⟩);((conv=>whnf);repeat(first|apply Cs|apply Rs|apply Rx);conv=>whnf))
           refine⟨_,addU8K (a:=1) rfl rfl (by omega),?_⟩;(conv=>whnf);repeat(first|apply Cs|apply Rs|apply Rx);conv=>whnf
           ((conv=>whnf);repeat(first|apply Cs|apply Rs|apply Rx);conv=>whnf);repeat(refine O.store (.tail _ (.head _)) rfl rfl rfl rfl (lbE rfl) rfl rfl fun h O=>?_;((conv=>whnf);repeat(first|apply Cs|apply Rs|apply Rx);conv=>whnf))
           refine⟨_,resAggK rfl rfl (O.at (.tail _ (.head _))) rfl rfl (lbE rfl) rfl,?_⟩;(conv=>whnf);repeat(first|apply Cs|apply Rs|apply Rx);conv=>whnf
           exact⟨O.ext,fun h2 F=>VLe.agg (LLe.cons (VLe.refl _ _) (LLe.cons (VLe.nil _ _) (LLe.refl _ _)))⟩
         · have h240:¬ 240<kind:=(by have:=ge_of_ltI' (hc);first|omega | (simp only[Int.ofNat_eq_natCast] at this;omega))
           rw[if_neg h240]
           ((conv=>whnf);repeat(first|apply Cs|apply Rs|apply Rx);conv=>whnf);repeat((first|refine O.store (.tail _ (.head _)) rfl rfl rfl rfl (lbE rfl) rfl rfl fun h O=>?_|refine NewG.frz rfl ?_);((conv=>whnf);repeat(first|apply Cs|apply Rs|apply Rx);conv=>whnf))
           refine⟨_,resAggK rfl rfl (O.at (.tail _ (.head _))) rfl rfl (lbE rfl) rfl,?_⟩;(conv=>whnf);repeat(first|apply Cs|apply Rs|apply Rx);conv=>whnf
           exact O.ret
   | false =>
     ((conv=>whnf);repeat(first|apply Cs|apply Rs|apply Rx);conv=>whnf);repeat((first|refine⟨false,rfl,(fun hc=>nomatch hc),fun _=>?_⟩|refine⟨_,(rfl:aread _ _ _ _=some _),?_⟩|refine⟨_,convIntK rfl rfl rfl (u8_wide _ (by omega)),?_⟩|refine⟨_,remK (b:=9) rfl rfl (by decide),?_⟩);((conv=>whnf);repeat(first|apply Cs|apply Rs|apply Rx);conv=>whnf))
     simp only[Bool.false_eq_true,if_false]
     generalize hkk:kind%9=kk
     have hk13:kk<9:=by omega
     refine⟨_,rfl,fun hc=>?_,fun hc=>?_⟩
     · have h6:kk<6:=(by have:=lt_of_ltI' (hc);first|omega | (simp only[Int.ofNat_eq_natCast] at this;omega))
       rw[if_pos h6]
       ((conv=>whnf);repeat(first|apply Cs|apply Rs|apply Rx);conv=>whnf)
       refine⟨_,convIntK rfl rfl rfl (hU8 kk (by omega)),?_⟩;(conv=>whnf);repeat(first|apply Cs|apply Rs|apply Rx);conv=>whnf
       refine⟨_,addU8K (a:=5) rfl rfl (by omega),?_⟩;(conv=>whnf);repeat(first|apply Cs|apply Rs|apply Rx);conv=>whnf
       refine O.new (buildK (vs:=[i64 (a%ks.length),i64 (b%ks.length)]) (s:=1) (z:=i64 0) rfl rfl (by kernel_rfl) (by kernel_rfl) rfl rfl rfl rfl (nats_one [a%ks.length,b%ks.length])) fun gi h O=>?_;(conv=>whnf);repeat(first|apply Cs|apply Rs|apply Rx);conv=>whnf
       refine O.new (anew_alloc (l:=[u8 0,.slice none 0 0,i64 0,i64 0]) rfl rfl rfl) fun gv h O=>?_;(conv=>whnf);repeat(first|apply Cs|apply Rs|apply Rx);conv=>whnf
       ((conv=>whnf);repeat(first|apply Cs|apply Rs|apply Rx);conv=>whnf);repeat((first|refine⟨_,(rfl:aread _ _ _ _=some _),?_⟩|refine O.store (.head _) rfl rfl rfl rfl (lbE rfl) rfl rfl fun h O=>?_);((conv=>whnf);repeat(first|apply Cs|apply Rs|apply Rx);conv=>whnf))
       refine⟨_,rfl,fun hc=>?_,fun hc=>?_⟩
       · have h128:128≤kind:=by
           have hc:(!ltI (Int.ofNat kind) 128)=true:=hc
           rw[ltI_eq] at hc
           simp at hc
           omega
         rw[if_pos h128]
         ((conv=>whnf);repeat(first|apply Cs|apply Rs|apply Rx);conv=>whnf);repeat(refine⟨_,loadK rfl (O.at (.head _)) rfl rfl,?_⟩;((conv=>whnf);repeat(first|apply Cs|apply Rs|apply Rx);conv=>whnf))
         refine NewG.frz rfl ?_;(conv=>whnf);repeat(first|apply Cs|apply Rs|apply Rx);conv=>whnf
         refine O.appendX (s:=1) (b:=8) (m:=1) (n:=2) (new:=[i64 (d%ks.length)]) (O.at (.tail _ (.head _))) rfl rfl rfl rfl rfl rfl rfl rfl rfl rfl rfl rfl (by decide) rfl (by decide) (by decide) rfl fun gj h O=>?_;(conv=>whnf);repeat(first|apply Cs|apply Rs|apply Rx);conv=>whnf
         ((conv=>whnf);repeat(first|apply Cs|apply Rs|apply Rx);conv=>whnf);repeat((first|refine⟨_,loadAggK rfl (O.at (.tail _ (.head _))) rfl rfl (lbE rfl) rfl,?_⟩|refine O.store (.tail _ (.head _)) rfl rfl rfl rfl (lbE rfl) rfl rfl fun h O=>?_|refine O.store (.tail _ (.tail _ (.tail _ (.tail _ (.head _))))) rfl rfl rfl rfl (lbE rfl) rfl rfl fun h O=>?_);((conv=>whnf);repeat(first|apply Cs|apply Rs|apply Rx);conv=>whnf))
         refine⟨_,resAggK rfl rfl (O.at (.tail _ (.tail _ (.tail _ (.tail _ (.head _)))))) rfl rfl (lbE rfl) rfl,?_⟩;(conv=>whnf);repeat(first|apply Cs|apply Rs|apply Rx);conv=>whnf
         refine⟨O.ext,fun h2 F=>VLe.agg (LLe.cons (VLe.refl _ _) (LLe.cons (O.flat (es:=[a%ks.length,b%ks.length,d%ks.length].map i64) F (Nat.le_refl _) (.head _) rfl rfl (nats_one _)) (LLe.refl _ _)))⟩
       · have h128:¬ 128≤kind:=by
           have hc:(!ltI (Int.ofNat kind) 128)=false:=hc
           rw[ltI_eq] at hc
           simp at hc
           omega
         rw[if_neg h128]
         ((conv=>whnf);repeat(first|apply Cs|apply Rs|apply Rx);conv=>whnf);repeat((first|refine⟨_,loadAggK rfl (O.at (.head _)) rfl rfl (lbE rfl) rfl,?_⟩|refine O.store (.tail _ (.tail _ (.tail _ (.head _)))) rfl rfl rfl rfl (lbE rfl) rfl rfl fun h O=>?_);((conv=>whnf);repeat(first|apply Cs|apply Rs|apply Rx);conv=>whnf))
         refine⟨_,resAggK rfl rfl (O.at (.tail _ (.tail _ (.tail _ (.head _))))) rfl rfl (lbE rfl) rfl,?_⟩;(conv=>whnf);repeat(first|apply Cs|apply Rs|apply Rx);conv=>whnf
         refine⟨O.ext,fun h2 F=>VLe.agg (LLe.cons (VLe.refl _ _) (LLe.cons (O.flat (es:=[a%ks.length,b%ks.length].map i64) F (Nat.le_refl _) (.tail _ (.head _)) rfl rfl (nats_one _)) (LLe.refl _ _)))⟩
     · have h6:¬ kk<6:=(by have:=ge_of_ltI' (hc);first|omega | (simp only[Int.ofNat_eq_natCast] at this;omega))
       have eqN:∀ c:Nat,(Int.ofNat kk==(Int.ofNat c))=decide (kk=c):=fun c=>by
         rw[Bool.eq_iff_iff];simp only[Int.ofNat_eq_natCast,beq_iff_eq,decide_eq_true_eq];omega
       rw[if_neg h6]
       ((conv=>whnf);repeat(first|apply Cs|apply Rs|apply Rx);conv=>whnf)
       refine⟨_,rfl,fun hc=>?_,fun hc=>?_⟩
       · rw[if_pos (of_decide_eq_true ((eqN 6).symm.trans hc))]
         ((conv=>whnf);repeat(first|apply Cs|apply Rs|apply Rx);conv=>whnf);repeat((first|refine O.store (.tail _ (.head _)) rfl rfl rfl rfl (lbE rfl) rfl rfl fun h O=>?_|refine NewG.frz rfl ?_);((conv=>whnf);repeat(first|apply Cs|apply Rs|apply Rx);conv=>whnf))
         refine⟨_,resAggK rfl rfl (O.at (.tail _ (.head _))) rfl rfl (lbE rfl) rfl,?_⟩;(conv=>whnf);repeat(first|apply Cs|apply Rs|apply Rx);conv=>whnf
         exact O.ret
       rw[if_neg (of_decide_eq_false ((eqN 6).symm.trans hc))]
       ((conv=>whnf);repeat(first|apply Cs|apply Rs|apply Rx);conv=>whnf)
       refine⟨_,rfl,fun hc=>?_,fun hc=>?_⟩
       · rw[if_pos (of_decide_eq_true ((eqN 7).symm.trans hc))]
         ((conv=>whnf);repeat(first|apply Cs|apply Rs|apply Rx);conv=>whnf);repeat((first|refine O.store (.tail _ (.head _)) rfl rfl rfl rfl (lbE rfl) rfl rfl fun h O=>?_|refine NewG.frz rfl ?_);((conv=>whnf);repeat(first|apply Cs|apply Rs|apply Rx);conv=>whnf))
         refine⟨_,resAggK rfl rfl (O.at (.tail _ (.head _))) rfl rfl (lbE rfl) rfl,?_⟩;(conv=>whnf);repeat(first|apply Cs|apply Rs|apply Rx);conv=>whnf
         exact O.ret
       rw[if_neg (of_decide_eq_false ((eqN 7).symm.trans hc))]
       ((conv=>whnf);repeat(first|apply Cs|apply Rs|apply Rx);conv=>whnf)
       refine⟨_,rfl,fun hc=>?_,fun hc=>?_⟩
       · rw[if_pos (.inl (of_decide_eq_true ((eqN 9).symm.trans hc)))]
         rw[hc]
         ((conv=>whnf);repeat(first|apply Cs|apply Rs|apply Rx);conv=>whnf);repeat((first|refine⟨true,rfl,fun _=>?_,(fun hc=>nomatch hc)⟩|refine O.store (.tail _ (.head _)) rfl rfl rfl rfl (lbE rfl) rfl rfl fun h O=>?_|refine NewG.frz rfl ?_);((conv=>whnf);repeat(first|apply Cs|apply Rs|apply Rx);conv=>whnf))
         refine⟨_,resAggK rfl rfl (O.at (.tail _ (.head _))) rfl rfl (lbE rfl) rfl,?_⟩;(conv=>whnf);repeat(first|apply Cs|apply Rs|apply Rx);conv=>whnf
         exact O.ret
       have h9:¬ kk=9:=of_decide_eq_false ((eqN 9).symm.trans hc)
       rw[hc]
       ((conv=>whnf);repeat(first|apply Cs|apply Rs|apply Rx);conv=>whnf)
       refine⟨_,rfl,fun hc=>?_,fun hc=>?_⟩
       · rw[if_pos (.inr (of_decide_eq_true ((eqN 10).symm.trans hc)))]
         ((conv=>whnf);repeat(first|apply Cs|apply Rs|apply Rx);conv=>whnf);repeat((first|refine O.store (.tail _ (.head _)) rfl rfl rfl rfl (lbE rfl) rfl rfl fun h O=>?_|refine NewG.frz rfl ?_);((conv=>whnf);repeat(first|apply Cs|apply Rs|apply Rx);conv=>whnf))
         refine⟨_,resAggK rfl rfl (O.at (.tail _ (.head _))) rfl rfl (lbE rfl) rfl,?_⟩;(conv=>whnf);repeat(first|apply Cs|apply Rs|apply Rx);conv=>whnf
         exact O.ret
       rw[if_neg (fun h=>h.elim h9 (of_decide_eq_false ((eqN 10).symm.trans hc)))]
       ((conv=>whnf);repeat(first|apply Cs|apply Rs|apply Rx);conv=>whnf)
       refine⟨_,rfl,fun hc=>?_,fun hc=>?_⟩
       · have h10:10<kk:=(by have:=lt_of_ltI' (hc);first|omega | (simp only[Int.ofNat_eq_natCast] at this;omega))
         exact absurd h10 (by omega)
       · have hno:¬ (10<kk∧0<T.length):=fun h=>absurd h.1 (by have:=ge_of_ltI' (hc);first|omega | (simp only[Int.ofNat_eq_natCast] at this;omega))
         rw[hc]
         ((conv=>whnf);repeat(first|apply Cs|apply Rs|apply Rx);conv=>whnf)
         refine⟨false,rfl,(fun hc=>nomatch hc),fun _=>?_⟩;(conv=>whnf);repeat(first|apply Cs|apply Rs|apply Rx);conv=>whnf
         rw[if_neg hno]
         ((conv=>whnf);repeat(first|apply Cs|apply Rs|apply Rx);conv=>whnf);repeat(refine⟨_,(rfl:aread _ _ _ _=some _),?_⟩;((conv=>whnf);repeat(first|apply Cs|apply Rs|apply Rx);conv=>whnf))
         refine⟨_,rfl,fun hc=>?_,fun hc=>?_⟩
         · have h240:240<kind:=(by have:=lt_of_ltI' (hc);first|omega | (simp only[Int.ofNat_eq_natCast] at this;omega))
           rw[if_pos h240]
           ((conv=>whnf);repeat(first|apply Cs|apply Rs|apply Rx);conv=>whnf);repeat((first|refine⟨_,(rfl:aread _ _ _ _=some _),?_⟩|refine idxR rfl ?_|refine⟨_,remK (b:=2) rfl rfl (by decide),?_⟩);((conv=>whnf);repeat(first|apply Cs|apply Rs|apply Rx);conv=>whnf))
           refine⟨_,addU8K (a:=1) rfl rfl (by omega),?_⟩;(conv=>whnf);repeat(first|apply Cs|apply Rs|apply Rx);conv=>whnf
           ((conv=>whnf);repeat(first|apply Cs|apply Rs|apply Rx);conv=>whnf);repeat(refine O.store (.tail _ (.head _)) rfl rfl rfl rfl (lbE rfl) rfl rfl fun h O=>?_;((conv=>whnf);repeat(first|apply Cs|apply Rs|apply Rx);conv=>whnf))
           refine⟨_,resAggK rfl rfl (O.at (.tail _ (.head _))) rfl rfl (lbE rfl) rfl,?_⟩;(conv=>whnf);repeat(first|apply Cs|apply Rs|apply Rx);conv=>whnf
           exact⟨O.ext,fun h2 F=>VLe.agg (LLe.cons (VLe.refl _ _) (LLe.cons (VLe.nil _ _) (LLe.refl _ _)))⟩
         · have h240:¬ 240<kind:=(by have:=ge_of_ltI' (hc);first|omega | (simp only[Int.ofNat_eq_natCast] at this;omega))
           rw[if_neg h240]
           ((conv=>whnf);repeat(first|apply Cs|apply Rs|apply Rx);conv=>whnf);repeat((first|refine O.store (.tail _ (.head _)) rfl rfl rfl rfl (lbE rfl) rfl rfl fun h O=>?_|refine NewG.frz rfl ?_);((conv=>whnf);repeat(first|apply Cs|apply Rs|apply Rx);conv=>whnf))
           refine⟨_,resAggK rfl rfl (O.at (.tail _ (.head _))) rfl rfl (lbE rfl) rfl,?_⟩;(conv=>whnf);repeat(first|apply Cs|apply Rs|apply Rx);conv=>whnf
           exact O.ret
def nameB (i:Nat):ByteArray:=⟨#[110,UInt8.ofNat (48+i/10),UInt8.ofNat (48+i%10)]⟩
theorem names_run:([0,1,2,3,4,5,6,7,8,9,10,11,12,13,14,15].all fun i=>match runAt bare 64 #[.int .i64 (Int.ofNat i)] with
 |some (.string s)=>decide (s=nameB i)
 |_=>false)=true:=by kernel_rfl
theorem name_fn {i:Nat} (hi:i<16):FnV Tryz.prog NG vars 64 #[i64 i] (.string (nameB i)):=by
 refine fn_of rfl fun h _=>?_
 have hm:i∈[0,1,2,3,4,5,6,7,8,9,10,11,12,13,14,15]:=by
  have:i=0∨i=1∨i=2∨i=3∨i=4∨i=5∨i=6∨i=7∨i=8∨i=9∨i=10∨i=11∨i=12∨i=13∨i=14∨i=15:=by omega
  simpa using this
 have:=List.all_eq_true.1 names_run i hm
 split at this
 ·rename_i s hs
  rw[of_decide_eq_true this] at hs
  exact of_bare hs (by kernel_rfl) rfl
 ·cases this
def inputN:Node:=⟨0,[],0,0⟩
def dffN (d:Nat):Node:=⟨14,[d],0,0⟩
def memN (b:Nat):Node:=⟨15,[],0,b⟩
def baseN (inp dffs:Nat) (mem:Bool):List Node:=List.replicate (inp%4+1) inputN++List.replicate (dffs%3) (dffN 0)++(if mem then [memN 0,memN 1] else [])
def gatesN (bus:Bool) (gs:List GData) (base:List Node):Nat→List Node
 |0=>base
 |i+1=>match gs[i]? with
  |some g=>gatesN bus gs base i++[gateK bus g ((gatesN bus gs base i).map Node.kind)]
  |none=>gatesN bus gs base i
def rawN (x:CData):List Node:=gatesN x.bus x.gates (baseN x.inp x.dffs x.mem) (min x.gates.length 8)
def updN (first:Nat) (d:Nat→Nat):Nat→List Node→List Node
 |0,ns=>ns
 |i+1,ns=>(updN first d i ns).set (first+i) (dffN (d i))
def dataN (x:CData) (n j:Nat):Nat:=(if j=0 then x.data0 else x.data1)%n
def circN (x:CData):Circ :=
 let n:=(rawN x).length
 ⟨updN (x.inp%4+1) (dataN x n) (x.dffs%3) (rawN x),(List.range n).map nameB,if x.mem then [⟨[x.port0%n],[x.port1%n,x.port2%n],x.port3%n⟩] else [],(x.outs.take 3).map (· % n)++[n-1]⟩
theorem encNode_four:∀ (l:List Node),∀ e∈l.map encNode,(cl e).length=4:=by
 intro l e m
 obtain⟨a,_,rfl⟩:=List.mem_map.1 m
 rfl
theorem kind_cell {l:List Node}{i:Nat} (hi:i<l.length):(flatC (l.map encNode))[0+i*4]?=some (n8 ((l.map Node.kind).getD i 0)):=by
 have hu:(l.map encNode)[i]?=some (encNode l[i]):=by rw[List.getElem?_map,List.getElem?_eq_getElem hi];rfl
 have:=flatC_at (encNode_four l) hu (i:=0) (by decide)
 rw[Nat.add_zero] at this
 rw[Nat.zero_add,this,List.getD,List.getElem?_map,List.getElem?_eq_getElem hi]
 rfl
theorem baseN_length (inp dffs:Nat) (mem:Bool):(baseN inp dffs mem).length=inp%4+1+dffs%3+(if mem then 2 else 0):=by
 unfold baseN
 cases mem <;> simp <;> omega
theorem gatesN_length (bus:Bool) (gs:List GData) (base:List Node):∀ i,i≤gs.length→(gatesN bus gs base i).length=base.length+i
 |0,_=>rfl
 |i+1,h=>by
  have hg:gs[i]?=some gs[i]:=List.getElem?_eq_getElem (by omega)
  simp only[gatesN,hg,List.length_append,gatesN_length bus gs base i (by omega),List.length_singleton]
  omega
theorem gatesN_succ {bus:Bool}{gs:List GData}{base:List Node}{i:Nat}{g:GData} (hg:gs[i]?=some g):gatesN bus gs base (i+1)=gatesN bus gs base i++[gateK bus g ((gatesN bus gs base i).map Node.kind)]:=by
 simp only[gatesN,hg]
theorem gatesN_get (bus:Bool) (gs:List GData) (base:List Node) {j:Nat} (hj:j<base.length):∀ i,i≤gs.length→(gatesN bus gs base i)[j]?=base[j]?
 |0,_=>rfl
 |i+1,h=>by
  have hg:gs[i]?=some gs[i]:=List.getElem?_eq_getElem (by omega)
  rw[gatesN_succ hg,List.getElem?_append_left (by rw[gatesN_length _ _ _ _ (by omega)];omega)]
  exact gatesN_get bus gs base hj i (by omega)
theorem rawN_length (x:CData):(rawN x).length=x.inp%4+1+x.dffs%3+(if x.mem then 2 else 0)+min x.gates.length 8:=by
 unfold rawN
 rw[gatesN_length _ _ _ _ (Nat.min_le_left _ _),baseN_length]
theorem rawN_le (x:CData):(rawN x).length≤16:=by
 rw[rawN_length]
 have h1:=Nat.mod_lt x.inp (show 0<4 by decide)
 have h2:=Nat.mod_lt x.dffs (show 0<3 by decide)
 split <;> omega
theorem rawN_pos (x:CData):0<(rawN x).length:=by rw[rawN_length];omega
theorem baseN_dff {inp dffs:Nat}{mem:Bool}{i:Nat} (hi:i<dffs%3):(baseN inp dffs mem)[inp%4+1+i]?=some (dffN 0):=by
 unfold baseN
 rw[List.append_assoc,List.getElem?_append_right (by simp),List.length_replicate,List.getElem?_append_left (by simp;omega),List.getElem?_replicate,if_pos (by omega)]
theorem rawN_dff {x:CData}{i:Nat} (hi:i<x.dffs%3):(rawN x)[x.inp%4+1+i]?=some (dffN 0):=by
 unfold rawN
 rw[gatesN_get _ _ _ (by rw[baseN_length];split <;> omega) _ (Nat.min_le_left _ _)]
 exact baseN_dff hi
inductive PL (h:Heap):List Value→List Value→Prop
 |nil:PL h [] []
 |cons {a b:Value} {l m:List Value}:LLe h (cl a) (cl b)→PL h l m→PL h (a::l) (b::m)
theorem PL.refl (h:Heap):∀ l:List Value,PL h l l
 |[]=>.nil
 |a::l=>.cons (LLe.refl h _) (PL.refl h l)
theorem PL.set {h:Heap}{l m:List Value} (p:PL h l m) {a b:Value} (ab:LLe h (cl a) (cl b)):∀ i,PL h (l.set i a) (m.set i b):=by
 induction p with
 |nil=>intro i;exact .nil
 |cons e _ ih =>
  intro i
  cases i with
  |zero=>exact .cons ab ‹_›
  |succ i=>exact .cons e (ih i)
theorem LLe.app {h:Heap}:∀ {a b:List Value}{c d:List Value},LLe h a b→LLe h c d→LLe h (a++c) (b++d)
 |[],[],_,_,_,q=>q
 |[],_::_,_,_,p,_=>by have:=p.1;simp at this
 |_::_,[],_,_,p,_=>by have:=p.1;simp at this
 |x::a,y::b,c,d,p,q=>by
  have h0:=p.get (i:=0) (x:=x) (y:=y) rfl rfl
  have h1:LLe h a b:=⟨by have:=p.1;simpa using this,fun i=>by have:=p.2 (i+1);simpa using this⟩
  exact LLe.cons h0 (LLe.app h1 q)
theorem PL.flat {h:Heap}{l m:List Value} (p:PL h l m):LLe h (flatC l) (flatC m):=by
 induction p with
 |nil=>exact LLe.refl _ _
 |cons e _ ih=>rw[flatC_cons,flatC_cons];exact LLe.app e ih
theorem gate_at {x:CData}{g:GData} (hg:GOk g) {N:List Node} (hn:0<N.length) (hn2:N.length≤1000) {gn:Nat}{sp:Option Nat}{cap:Nat}{ro:Bool}{h0:Heap} (hB:HasB vars h0) (hgn:h0.get gn=some (.cells (flatC (N.map encNode)) ro)) :
  CallD Tryz.prog NG 63 #[encC x,encG g,.slice (some ⟨gn,0,sp⟩) (N.map encNode).length cap] h0 (encNode (gateK x.bus g (N.map Node.kind))) h0:=by
 have:=gate_ok' (x:=x) hg (ks:=N.map Node.kind) (by rw[List.length_map];exact hn) (by rw[List.length_map];exact hn2) (sp:=sp) (cap:=cap) hB hgn fun i hi=>kind_cell (by rw[List.length_map] at hi;exact hi)
 rw[List.length_map] at this
 rw[List.length_map]
 exact this
def law03_name_wp (i:Nat) (K:ByteArray→Prop):Prop:=i<16∧K (nameB i)
theorem law03_name_walk {i:Nat}{K:ByteArray→Prop} (hm:law03_name_wp i K) {h0:Heap} (hB:HasB vars h0):∃ r,K r∧CallD Tryz.prog NG 64 ⟨[i64 i]⟩ h0 (Value.string r) h0:=FnV.walk (name_fn hm.1) hm.2 hB
def gateR (k o:Nat) (l:List Nat):Nat×List Nat×Bool:=match gateL (Int.ofNat k) (Int.ofNat o) (l.map Int.ofNat) with
 |none=>(0,[],false)
 |some (v,r)=>(v.toNat,r.map Int.toNat,true)
def GateOk (k o:Nat) (l:List Nat):Prop:=∀ v r,gateL (Int.ofNat k) (Int.ofNat o) (l.map Int.ofNat)=some (v,r)→0≤v∧∀ x∈r,0≤x
def implies_Gate_wp (k o:Nat) (l:List Nat) (K:Nat×List Nat×Bool→Prop):Prop:=k<256∧l.length≤16∧GateOk k o l∧K (gateR k o l)
theorem implies_Gate_walk {k o:Nat}{l:List Nat}{K:Nat×List Nat×Bool→Prop} (hm:implies_Gate_wp k o l K) {h0:Heap} (hB:HasB vars h0):∃ r,K r∧CallD Tryz.prog NG 36 ⟨[n8 k,n8 o,encL 1 n8 l]⟩ h0 ((fun r=>Value.tuple ⟨[n8 r.1,encL 1 n8 r.2.1,Value.bool r.2.2]⟩) r) h0:=by
 obtain⟨h1,h2,h3,hm⟩:=hm
 have F:=gate_fn (k:=Int.ofNat k) (o:=Int.ofNat o) (l:=l.map Int.ofNat) (Int.natCast_nonneg k) (by simp only[Int.ofNat_eq_natCast];omega) (Int.natCast_nonneg o) (by intro x m;obtain⟨a,_,rfl⟩:=List.mem_map.1 m;exact Int.natCast_nonneg a) (by rw[List.length_map];exact h2)
 have e1:FL 1 (vals (l.map Int.ofNat))=encL 1 n8 l:=by unfold vals encL;rw[List.map_map];rfl
 rw[e1] at F
 unfold GateOk at h3
 unfold gateR at hm
 generalize gateL (Int.ofNat k) (Int.ofNat o) (l.map Int.ofNat)=q at F h3 hm
 cases q with
 |none =>
  refine⟨_,hm,?_⟩
  have c:=F.call h0 hB
  exact c.values (Ext.refl _) (PureV.tup (AllPure.cons (PureV.flat rfl) (AllPure.cons (pureL fun _=>AllPure.cons (PureV.flat rfl) AllPure.nil) (AllPure.cons (PureV.flat rfl) AllPure.nil)))) (fun h2 _=>VLe.tup (LLe.cons (VLe.refl _ _) (LLe.cons (VLe.nil _ _) (LLe.cons (VLe.refl _ _) (LLe.nil _))))) (by kernel_rfl)
 |some q =>
  obtain⟨v,r⟩:=q
  obtain⟨g1,g2⟩:=h3 v r rfl
  refine⟨_,hm,?_⟩
  have c:=F.call h0 hB
  have e2:u8 v=n8 v.toNat:=by unfold u8 n8;rw[show Int.ofNat v.toNat=v from Int.toNat_of_nonneg g1]
  have e3:FL 1 (vals r)=encL 1 n8 (r.map Int.toNat):=by
   unfold vals encL
   rw[List.map_map]
   congr 1
   refine List.map_congr_left fun x m=>?_
   show Value.int .u8 x=Value.int .u8 (Int.ofNat x.toNat)
   rw[show Int.ofNat x.toNat=x from Int.toNat_of_nonneg (g2 x m)]
  simp only[gateVal,e2,e3] at c
  exact c
structure Asg where
 net:Nat
 value:Nat
def encAsg (x:Asg):Value:=.agg ⟨[i64 x.net,n8 x.value]⟩
theorem pure_asgC (x:Asg):AllPure (cl (encAsg x)):=AllPure.cons (PureV.flat rfl) (AllPure.cons (PureV.flat rfl) AllPure.nil)
structure U2 where
 a:Nat
 b:Nat
def encU2 (x:U2):Value:=.agg ⟨[n8 x.a,n8 x.b]⟩
def fanPre (c:Circ) (i x:Nat):List Ln:=(c.nodes.zipIdx.take i).flatMap fun p=>fanNode x p.2 p.1.ins
theorem fanNode_snoc (x i:Nat) (l:List Nat) (a:Nat):fanNode x i (l++[a])=fanNode x i l++(if a=x then [⟨i,l.length⟩] else []):=by
 unfold fanNode
 rw[List.zipIdx_append,List.filter_append,List.map_append]
 congr 1
 by_cases c:a=x
 ·simp[c]
 ·simp[c]
theorem fanPre_succ {c:Circ}{i x:Nat}{y:Node} (hy:c.nodes[i]?=some y):fanPre c (i+1) x=fanPre c i x++fanNode x i y.ins:=by
 have h:c.nodes.zipIdx[i]?=some (y,i):=by rw[List.getElem?_zipIdx,hy];simp
 unfold fanPre
 obtain⟨h1,h2⟩:=List.getElem?_eq_some_iff.1 h
 rw[List.take_succ_eq_append_getElem h1,h2,List.flatMap_append]
 simp
theorem fanNode_len (x i:Nat) (l:List Nat):(fanNode x i l).length≤l.length:=by
 unfold fanNode
 rw[List.length_map]
 refine Nat.le_trans (List.length_filter_le _ _) ?_
 simp
structure FanPre (c:Circ):Prop where
 len:c.nodes.length≤16
 ins:∀ (i:Nat) (x:Node),c.nodes[i]?=some x→(∀ k∈x.ins,k<c.nodes.length)∧x.ins.length≤16
theorem fanPre_len {c:Circ} (g:FanPre c) (x:Nat):∀ i,i≤c.nodes.length→(fanPre c i x).length≤i*16
 |0,_=>by simp[fanPre]
 |i+1,h=>by
  obtain⟨y,hy⟩:=get_lt (l:=c.nodes) (i:=i) h
  rw[fanPre_succ hy,List.length_append]
  have:=fanPre_len g x i (by omega)
  have:=fanNode_len x i y.ins
  have:=(g.ins i y hy).2
  omega
def rowsAt (c:Circ) (i t:Nat) (ins:List Nat):List (List Ln):=(List.range c.nodes.length).map fun x=>fanPre c i x++fanNode x i (ins.take t)
theorem rowsAt_get {c:Circ}{i t x:Nat}{ins:List Nat} (hx:x<c.nodes.length):(rowsAt c i t ins)[x]?=some (fanPre c i x++fanNode x i (ins.take t)):=by
 unfold rowsAt
 rw[List.getElem?_map,List.getElem?_range hx]
 rfl
theorem rowsAt_step {c:Circ}{i t y:Nat}{ins:List Nat} (hy:ins[t]?=some y):(rowsAt c i t ins).set y (fanPre c i y++fanNode y i (ins.take t)++[⟨i,t⟩])=rowsAt c i (t+1) ins:=by
 have ht:=lt_of_get hy
 obtain⟨h1,h2⟩:=List.getElem?_eq_some_iff.1 hy
 have hs:∀ x,fanNode x i (ins.take (t+1))=fanNode x i (ins.take t)++(if y=x then [⟨i,t⟩] else []):=fun x=>by
  rw[List.take_succ_eq_append_getElem h1,h2,fanNode_snoc,List.length_take,Nat.min_eq_left (Nat.le_of_lt ht)]
 apply List.ext_getElem?
 intro x
 rw[List.getElem?_set]
 have hl:(rowsAt c i t ins).length=c.nodes.length:=by unfold rowsAt;simp
 by_cases c1:x<c.nodes.length
 ·rw[rowsAt_get c1,rowsAt_get c1,hs x]
  by_cases e:y=x
  ·subst e
   rw[if_pos rfl,if_pos (by omega),if_pos rfl,List.append_assoc]
  ·rw[if_neg e,if_neg e,List.append_nil]
 ·have hn:∀ k,(rowsAt c i k ins)[x]?=none:=fun k=>by
   refine List.getElem?_eq_none ?_
   unfold rowsAt;simp;omega
  rw[hn,hn]
  by_cases e:y=x
  ·rw[if_pos e,if_neg (by omega)]
  ·rw[if_neg e]
theorem fanout_all_vc {c:Circ}{K:List (List Ln)→Prop} (g:FanPre c) (h:K (fanL c)):fanout_all_wp c K:=by
 have hlen:=g.len
 unfold fanout_all_wp
 refine⟨by omega,by omega,?_⟩
 refine joinLoop (fun s=>s.2≤c.nodes.length∧s.1=rowsAt c s.2 0 []) (fun s=>c.nodes.length-s.2) (fun a=>a=fanL c) ?_ ?_ ?_
 ·rintro k ⟨R,i⟩ nx ⟨hi,hR⟩ hnx hk
  dsimp only at hi hR
  subst hR
  refine⟨fun q=>?_,fun q=>?_⟩
  ·have q:=lt_t.1 q
   try dsimp only at q
   obtain⟨y,hy⟩:=get_lt q
   obtain⟨g1,g2⟩:=g.ins i y hy
   refine joinI ⟨y,hy,?_⟩
   refine loopW_intro (fun s=>s.2≤y.ins.length∧s.1=rowsAt c i s.2 y.ins) (fun s=>y.ins.length-s.2) ?_ ⟨Nat.zero_le _,by unfold rowsAt;simp⟩
   rintro⟨R1,t⟩ nx1 ⟨ht,hR⟩ hnx1
   dsimp only at ht hR
   subst hR
   refine⟨fun q1=>?_,fun q1=>?_⟩
   ·have q1:=lt_t.1 q1
    try dsimp only at q1
    obtain⟨z,hz⟩:=get_lt q1
    have hzn:=g1 z (List.mem_of_getElem? hz)
    have hb:=fanPre_len g z i hi
    have hb2:=fanNode_len z i (y.ins.take t)
    have hb3:(y.ins.take t).length≤16:=by rw[List.length_take];omega
    refine joinI ⟨z,hz,fun e=>absurd (lt_t.1 e) (Nat.not_lt_zero _),fun _=>⟨fun _=>?_,fun e=>?_⟩⟩
    ·refine⟨hzn,_,rowsAt_get hzn,by simp only[List.length_append,List.length_singleton];omega,hzn,by omega,?_⟩
     rw[rowsAt_step hz]
     exact hnx1 (rowsAt c i (t+1) y.ins,t+1) ⟨q1,rfl⟩ (by dsimp only;omega)
    ·have e2:ltN z c.nodes.length=true:=lt_t.2 hzn
     rw[e2] at e
     cases e
   ·have q1:=lt_f.1 q1
    try dsimp only at q1
    refine⟨by omega,hnx (rowsAt c i t y.ins,i+1) ⟨q,?_⟩ (by dsimp only;omega)⟩
    unfold rowsAt
    refine List.map_congr_left fun x _=>?_
    rw[List.take_of_length_le q1,fanPre_succ hy]
    simp[fanNode]
  ·have q:=lt_f.1 q
   try dsimp only at q
   have:i=c.nodes.length:=by omega
   subst this
   refine hk _ ?_
   unfold rowsAt fanL
   refine List.map_congr_left fun x _=>?_
   unfold fanPre
   rw[List.take_of_length_le (by simp)]
   simp[fanNode]
 ·refine⟨Nat.zero_le _,?_⟩
  unfold rowsAt
  apply List.ext_getElem?
  intro x
  rw[List.getElem?_replicate,List.getElem?_map]
  by_cases q:x<c.nodes.length
  ·rw[if_pos q,List.getElem?_range q]
   simp[fanPre,fanNode]
  ·rw[if_neg q,List.getElem?_eq_none (by simp;omega)]
   rfl
 ·rintro a rfl
  have hl:(fanL c).length=c.nodes.length:=by unfold fanL;simp
  refine joinLoop (fun s=>s.2≤c.nodes.length∧s.1=fanL c) (fun s=>c.nodes.length-s.2) (fun a=>a=fanL c) ?_ ⟨Nat.zero_le _,rfl⟩ ?_
  ·rintro k ⟨R,i⟩ nx ⟨hi,hR⟩ hnx hk
   dsimp only at hi hR
   subst hR
   refine⟨fun q=>?_,fun _=>hk _ rfl⟩
   have q:=lt_t.1 q
   try dsimp only at q
   obtain⟨y,hy⟩:=get_lt (l:=fanL c) (i:=i) (by omega)
   refine⟨q,y,hy,q,by omega,hnx _ ⟨q,?_⟩ (by dsimp only;omega)⟩
   obtain⟨h1,rfl⟩:=List.getElem?_eq_some_iff.1 hy
   exact List.set_getElem_self h1
  ·rintro a rfl
   exact⟨hl.symm,h⟩
theorem fan_ok {c:Circ} (g:FanPre c):FanOk c:=by
 refine FnV.of_walk (enc:=encL 1 (encL 2 encLn)) (pureL fun r=>AllPure.cons (pureL fun l=>pure_lnC l) AllPure.nil) fun h hB=>?_
 exact fanout_all_walk (K:=fun r=>r=fanL c) (fanout_all_vc g rfl) hB
theorem isname_run:([0,1,2,3,4,5,6,7,8,9,10,11,12,13,14,15].all fun i=>isTrue (runFn Tryz.prog [] (orcExt Tryz.prog) 60 142 #[.string (nameB i)] (heapOf vars)))=true:=by kernel_rfl
theorem isNm {i:Nat} (hi:i<16):IsNm (nameB i):=by
 have hm:i∈[0,1,2,3,4,5,6,7,8,9,10,11,12,13,14,15]:=by
  have:i=0∨i=1∨i=2∨i=3∨i=4∨i=5∨i=6∨i=7∨i=8∨i=9∨i=10∨i=11∨i=12∨i=13∨i=14∨i=15:=by omega
  simpa using this
 obtain⟨h',e⟩:=isTrue_iff (List.all_eq_true.1 isname_run i hm)
 have c:=(runFn_sound hM hP (fun f vs h v e=>orcExt_sound f vs h v e) 60 _ _ _ _ _ e).1
 exact⟨PureV.flatB rfl,fun h b=>c.lift (by kernel_rfl) rfl (bears_vars (hasSize b) (hasVars b))⟩
theorem nameB_inj:∀ i,i<16→∀ j,j<16→nameB i=nameB j→i=j:=by decide +kernel
theorem mget_none {l:List ByteArray}{x:ByteArray} (h:x ∉ l):mget (l.map fun s=>(s,true)) x=none:=by
 induction l with
 |nil=>rfl
 |cons a l ih =>
  simp only[List.mem_cons,not_or] at h
  rw[List.map_cons,mget,if_neg h.1]
  exact ih h.2
theorem mset_new {l:List ByteArray}{x:ByteArray} (h:x ∉ l):mset (l.map fun s=>(s,true)) x true=(l++[x]).map fun s=>(s,true):=by
 induction l with
 |nil=>rfl
 |cons a l ih =>
  simp only[List.mem_cons,not_or] at h
  rw[List.map_cons,mset,if_neg h.1,ih h.2]
  rfl
theorem names_all_vc {c:Circ}{K:Nat→Prop} (h1:∀ s∈c.names,IsNm s) (h2:c.names.Nodup) (h3:c.names.length<2 ^ 60) (h:K 0):names_all_wp c K:=by
 unfold names_all_wp
 refine joinLoop (fun s=>s.2≤c.names.length∧s.1=(c.names.take s.2).map fun s=>(s,true)) (fun s=>c.names.length-s.2) (fun _=>True) ?_ ⟨Nat.zero_le _,by simp⟩ (fun _ _=>h)
 rintro k ⟨m,i⟩ nx ⟨hi,hR⟩ hnx hk
 dsimp only at hi hR
 subst hR
 refine⟨fun q=>?_,fun _=>hk () trivial⟩
 have q:=lt_t.1 q
 try dsimp only at q
 obtain⟨x,hx⟩:=get_lt q
 obtain⟨l1,l2⟩:=List.getElem?_eq_some_iff.1 hx
 have hnot:x ∉ c.names.take i:=fun mm=>by
  obtain⟨j,hj,e⟩:=List.getElem_of_mem mm
  rw[List.length_take] at hj
  rw[List.getElem_take] at e
  exact List.pairwise_iff_getElem.1 h2 j i (by omega) l1 (by omega) (e.trans l2.symm)
 refine⟨x,hx,joinI ⟨h1 x (List.mem_of_getElem? hx),(fun e=>by cases e),fun _=>?_⟩⟩
 rw[mget_none hnot]
 refine⟨(fun e=>by cases e),fun _=>⟨by omega,hnx _ ⟨q,?_⟩ (by dsimp only;omega)⟩⟩
 dsimp only
 rw[mset_new hnot,List.take_succ_eq_append_getElem l1,l2]
theorem names_ok {c:Circ}{n:Nat} (hn:n≤16) (hc:c.names=(List.range n).map nameB):NamesOk c:=by
 refine FnV.of_walk (enc:=i64) (PureV.flat rfl) fun h hB=>?_
 refine names_all_walk (K:=fun r=>r=0) (names_all_vc ?_ ?_ ?_ rfl) hB
 ·intro s m
  rw[hc] at m
  obtain⟨i,hi,rfl⟩:=List.mem_map.1 m
  exact isNm (by have:=List.mem_range.1 hi;omega)
 ·rw[hc]
  unfold List.Nodup
  rw[List.pairwise_map]
  refine List.Pairwise.imp_of_mem ?_ (List.nodup_range (n:=n))
  intro a b ha hb hne e
  exact hne (nameB_inj a (by have:=List.mem_range.1 ha;omega) b (by have:=List.mem_range.1 hb;omega) e)
 ·rw[hc];simp;omega
end Go.Proofs.YtfhldkgelipnaaaGreatDoor
