/-
  I1, P9, Pa, Pb, Pc, Pd, Pe, Pf: parts of the proof.
-/
import Derived.Test.YtfhldkgelipnaaaGreatDoorIc42
namespace Go.Proofs.YtfhldkgelipnaaaGreatDoor
open Go.Abs
set_option maxRecDepth 100000
set_option maxHeartbeats 8000000
def implies_Plain_wp (p0:Circ) (K:Nat→Prop):Prop :=
 netlists_Check_wp p0 (fun r1=>((neN r1 0)=true→K r1)∧((neN r1 0)=false→joinW (α:=Bool) (fun k3=>((ltN 0 p0.mems.length)=true→k3 true)∧((ltN 0 p0.mems.length)=false→netlists_Of_wp p0 ([12,13,15]:(List Nat)) (fun r4=>k3 (ltN 0 r4.length)))) (fun v2=>(v2=true→K 7)∧(v2=false→K 0))))
theorem implies_Plain_walk {p0:Circ}{K:Nat→Prop} (hm:implies_Plain_wp p0 K) {h0:Heap} (hB:HasB vars h0):∃ r,K r∧CallD Tryz.prog NG 31 ⟨[encCirc p0]⟩ h0 (i64 r) h0:=by
 unfold implies_Plain_wp at hm
 refine fnW hM Tryz.func31 rfl (hP _ _ rfl Tryz.func31) (lbE rfl) hB (enc:=i64) (fun r=>PureV.flat rfl) fun O=>?_;conv=>whnf
 apply Cs;(conv=>whnf);repeat(first|apply Cs|apply Hs|apply Hx);conv=>whnf
 refine NewG.frz rfl ?_;(conv=>whnf);repeat(first|apply Cs|apply Hs|apply Hx);conv=>whnf
 refine⟨_,(rfl:aread _ _ _ _=some _),?_⟩;(conv=>whnf);repeat(first|apply Hs|apply Hx);conv=>whnf
 obtain⟨r1,hm,hcall⟩:=netlists_Check_walk hm O.has
 refine⟨_,_,hcall,?_⟩;(conv=>whnf);repeat(first|apply Cs|apply Hs|apply Hx);conv=>whnf
 refine⟨_,rfl,fun hc=>?_,fun hc=>?_⟩
 ·replace hm:=hm.1 hc
  apply Cs;(conv=>whnf);repeat(first|apply Cs|apply Hs|apply Hx);conv=>whnf
  exact⟨r1,hm,O.ext,fun h2 F=>VLe.refl _ _⟩
 ·replace hm:=hm.2 hc
  apply Cs;conv=>whnf
  apply Cs;conv=>whnf
  refine CodeS.joinWS hm (nn:=20) (σ:=Bool×Unit) (fun s=>s.1) (fun (v2,_) h=>Own vars h0 [] h∧True) (fun (v2,_)=>[(19,(.bool v2))]) rfl (fun hm'=>?_) ?_
  ·replace hm:=hm'
   apply Cs;(conv=>whnf);repeat(first|apply Cs|apply Hs|apply Hx);conv=>whnf
   refine⟨_,(rfl:aread _ _ _ _=some _),?_⟩;(conv=>whnf);repeat(first|apply Hs|apply Hx);conv=>whnf
   refine lenM (s:=3) (enc:=encMem) (l:=p0.mems) rfl rfl ?_;(conv=>whnf);repeat(first|apply Hs|apply Hx);conv=>whnf
   refine⟨_,rfl,fun hc=>?_,fun hc=>?_⟩
   ·replace hm:=hm.1 hc;(conv=>whnf);repeat(first|apply Hs|apply Hx);conv=>whnf
    exact⟨(true,()),hm,⟨O,trivial⟩,VLe.refl _ _,trivial⟩
   ·replace hm:=hm.2 hc;(conv=>whnf);repeat(first|apply Hs|apply Hx);conv=>whnf
    refine⟨_,(rfl:aread _ _ _ _=some _),?_⟩;(conv=>whnf);repeat(first|apply Hs|apply Hx);conv=>whnf
    refine NewG.frz rfl ?_;(conv=>whnf);repeat(first|apply Hs|apply Hx);conv=>whnf
    obtain⟨r4,hm,hcall⟩:=netlists_Of_walk hm O.has
    refine⟨_,_,hcall,?_⟩;(conv=>whnf);repeat(first|apply Hs|apply Hx);conv=>whnf
    refine lenM (s:=1) (enc:=i64) (l:=r4) rfl rfl ?_;(conv=>whnf);repeat(first|apply Hs|apply Hx);conv=>whnf
    exact⟨((ltN 0 r4.length),()),hm,⟨O,trivial⟩,VLe.refl _ _,trivial⟩
  ·clear hm;rintro⟨v2,_⟩ base h hm ⟨O,_⟩
   ((conv=>whnf);repeat(first|apply Cs|apply Hs|apply Hx);conv=>whnf)
   refine⟨_,rfl,fun hc=>?_,fun hc=>?_⟩
   ·replace hm:=hm.1 hc
    apply Cs;(conv=>whnf);repeat(first|apply Cs|apply Hs|apply Hx);conv=>whnf
    exact⟨7,hm,O.ext,fun h2 F=>VLe.refl _ _⟩
   ·replace hm:=hm.2 hc
    apply Cs;(conv=>whnf);repeat(first|apply Cs|apply Hs|apply Hx);conv=>whnf
    exact⟨0,hm,O.ext,fun h2 F=>VLe.refl _ _⟩
def implies_free_wp (p0:Nat) (K:Bool→Prop):Prop :=
 ((eqN p0 0)=true→K true)∧((eqN p0 0)=false→K (eqN p0 14))
theorem implies_free_walk {p0:Nat}{K:Bool→Prop} (hm:implies_free_wp p0 K) {h0:Heap} (hB:HasB vars h0):∃ r,K r∧CallD Tryz.prog NG 43 ⟨[n8 p0]⟩ h0 (Value.bool r) h0:=by
 unfold implies_free_wp at hm
 refine fnW hM Tryz.func43 rfl (hP _ _ rfl Tryz.func43) (lbE rfl) hB (enc:=Value.bool) (fun r=>PureV.flat rfl) fun O=>?_;conv=>whnf
 apply Cs;(conv=>whnf);repeat(first|apply Cs|apply Hs|apply Hx);conv=>whnf
 refine⟨_,rfl,fun hc=>?_,fun hc=>?_⟩
 ·replace hm:=hm.1 hc;(conv=>whnf);repeat(first|apply Cs|apply Hs|apply Hx);conv=>whnf
  exact⟨true,hm,O.ext,fun h2 F=>VLe.refl _ _⟩
 ·replace hm:=hm.2 hc;(conv=>whnf);repeat(first|apply Cs|apply Hs|apply Hx);conv=>whnf
  exact⟨(eqN p0 14),hm,O.ext,fun h2 F=>VLe.refl _ _⟩
def work_put_wp (nodes:List Node) (names:List ByteArray) (mems:List Memo) (outs:List Nat) (fan:List (List Ln)) (nv:Nat) (vals:List Nat) (wait:List Nat) (n:Nat) (x:Nat) (K:(Bool×(List Nat)×(List Nat))→Prop):Prop :=
 joinW (α:=Bool) (fun k4=>((eqN x 2)=true→k4 true)∧((eqN x 2)=false→n<nv∧∃ x5,vals[n]?=some x5∧k4 (eqN x5 x))) (fun v1=>(v1=true→K (true,vals,wait))∧(v1=false→n<nv∧∃ x6,vals[n]?=some x6∧joinW (α:=(List Nat)) (fun k10=>((eqN x6 2)=true→k10 (vals.set n x))∧((eqN x6 2)=false→k10 vals)) (fun v7=>∃ x11,v7[n]?=some x11∧((!(eqN x11 x))=true→K (false,v7,wait))∧((!(eqN x11 x))=false→(wait.length+([n]:(List Nat)).length)*8≤2 ^ 47∧joinW (α:=(List Nat)) (fun k23=>∃ x24,fan[n]?=some x24∧loopW (S:=((List Nat)×Nat)) (fun (v28,v29) nx32=>((ltN v29 x24.length)=true→∃ x33,x24[v29]?=some x33∧(v28.length+([x33.node]:(List Nat)).length)*8≤2 ^ 47∧v29+1<2 ^ 63∧nx32 ((v28++([x33.node]:(List Nat))),(v29+1)))∧((ltN v29 x24.length)=false→k23 v28)) ((wait++([n]:(List Nat))),0)) (fun v20=>K (true,v7,v20))))))
theorem work_put_walk {nodes:List Node}{names:List ByteArray}{mems:List Memo}{outs:List Nat}{fan:List (List Ln)}{nv:Nat}{vals:List Nat}{wait:List Nat}{n:Nat}{x:Nat}{gw:Nat}{gv:Nat}{a:Option Nat}{pre:List Value}{off:Nat}{L:List Slot}{K:(Bool×(List Nat)×(List Nat))→Prop} (hm:work_put_wp nodes names mems outs fan nv vals wait n x K) {h0 h:Heap} (ha:a=none→wait=[]) (hp:pre.length=off) (O:Own vars h0 (((some gw),.cells [((encL 4 encNode) nodes),((encL 1 Value.string) names),((encL 3 encMem) mems),((encL 1 i64) outs),((encL 1 (encL 2 encLn)) fan),(.slice (some ⟨gv,0,none⟩) nv nv),(tailV 1 a off (wait.map i64))] false)::((some gv),.cells (flatC (vals.map n8)) false)::(a,.cells (pre++flatC (wait.map i64)) false)::L) h):∃ v h',CallD Tryz.prog NG 42 ⟨[(.pointer (some ⟨gw,0,none⟩)),(i64 n),(n8 x)]⟩ h v h'∧∃ (u0:Bool) (w0:(List Nat)) (w4:(List Nat)) (b1:Option Nat) (b2:(List Value)) (b3:Nat),K (u0,w0,w4)∧v=(Value.bool u0)∧(b1=none→w4=[])∧(b2.length=b3)∧Own vars h0 (((some gw),.cells [((encL 4 encNode) nodes),((encL 1 Value.string) names),((encL 3 encMem) mems),((encL 1 i64) outs),((encL 1 (encL 2 encLn)) fan),(.slice (some ⟨gv,0,none⟩) nv nv),(tailV 1 b1 b3 (w4.map i64))] false)::((some gv),.cells (flatC (w0.map n8)) false)::(b1,.cells (b2++flatC (w4.map i64)) false)::L) h'∧True:=by
 unfold work_put_wp at hm
 refine fnG hM Tryz.func42 rfl (hP _ _ rfl Tryz.func42) (lbE rfl) (Q:=fun v h'=>∃ (u0:Bool) (w0:(List Nat)) (w4:(List Nat)) (b1:Option Nat) (b2:(List Value)) (b3:Nat),K (u0,w0,w4)∧v=(Value.bool u0)∧(b1=none→w4=[])∧(b2.length=b3)∧Own vars h0 (((some gw),.cells [((encL 4 encNode) nodes),((encL 1 Value.string) names),((encL 3 encMem) mems),((encL 1 i64) outs),((encL 1 (encL 2 encLn)) fan),(.slice (some ⟨gv,0,none⟩) nv nv),(tailV 1 b1 b3 (w4.map i64))] false)::((some gv),.cells (flatC (w0.map n8)) false)::(b1,.cells (b2++flatC (w4.map i64)) false)::L) h'∧True) ?_;conv=>whnf
 apply Cs;conv=>whnf
 apply Cs;(conv=>whnf);repeat(first|apply Hs|apply Hx);conv=>whnf
 apply Cs;conv=>whnf
 refine CodeS.joinWS hm (nn:=65) (σ:=Bool×Unit) (fun s=>s.1) (fun (v1,_) h=>(a=none→wait=[])∧(pre.length=off)∧Own vars h0 (((some gw),.cells [((encL 4 encNode) nodes),((encL 1 Value.string) names),((encL 3 encMem) mems),((encL 1 i64) outs),((encL 1 (encL 2 encLn)) fan),(.slice (some ⟨gv,0,none⟩) nv nv),(tailV 1 a off (wait.map i64))] false)::((some gv),.cells (flatC (vals.map n8)) false)::(a,.cells (pre++flatC (wait.map i64)) false)::L) h∧True) (fun (v1,_)=>[(0,(.pointer (some ⟨gw,0,none⟩))),(1,(i64 n)),(2,(n8 x)),(21,(.bool v1))]) rfl (fun hm'=>?_) ?_
 ·replace hm:=hm'
  apply Cs;(conv=>whnf);repeat(first|apply Cs|apply Hs|apply Hx);conv=>whnf
  refine⟨_,rfl,fun hc=>?_,fun hc=>?_⟩
  ·replace hm:=hm.1 hc;(conv=>whnf);repeat(first|apply Hs|apply Hx);conv=>whnf
   exact⟨(true,()),hm,⟨ha,hp,O,trivial⟩,VLe.refl _ _,VLe.refl _ _,VLe.refl _ _,VLe.refl _ _,trivial⟩
  ·replace hm:=hm.2 hc;(conv=>whnf);repeat(first|apply Hs|apply Hx);conv=>whnf
   refine⟨_,loadK rfl (O.at (.head _)) rfl rfl,?_⟩;(conv=>whnf);repeat(first|apply Hs|apply Hx);conv=>whnf
   obtain⟨hj,x5,hx5,hm⟩:=hm
   refine indexK (s:=1) (j:=n) rfl rfl rfl rfl hj ?_;(conv=>whnf);repeat(first|apply Hs|apply Hx);conv=>whnf
   refine⟨_,loadK rfl (O.at (.tail _ (.head _))) rfl (cell_map (enc:=n8) (s:=1) (k:=0) (fun _=>rfl) hx5 rfl),?_⟩;(conv=>whnf);repeat(first|apply Hs|apply Hx);conv=>whnf
   exact⟨((eqN x5 x),()),hm,⟨ha,hp,O,trivial⟩,VLe.refl _ _,VLe.refl _ _,VLe.refl _ _,VLe.refl _ _,trivial⟩
 ·clear hm;rintro⟨v1,_⟩ base h hm ⟨ha2,hp3,O,_⟩
  ((conv=>whnf);repeat(first|apply Cs|apply Hs|apply Hx);conv=>whnf)
  refine⟨_,rfl,fun hc=>?_,fun hc=>?_⟩
  ·replace hm:=hm.1 hc
   apply Cs;(conv=>whnf);repeat(first|apply Cs|apply Hs|apply Hx);conv=>whnf
   exact⟨true,vals,wait,a,pre,off,hm,rfl,ha2,hp3,O,trivial⟩
  ·replace hm:=hm.2 hc
   apply Cs;(conv=>whnf);repeat(first|apply Cs|apply Hs|apply Hx);conv=>whnf
   refine⟨_,loadK rfl (O.at (.head _)) rfl rfl,?_⟩;(conv=>whnf);repeat(first|apply Hs|apply Hx);conv=>whnf
   obtain⟨hj,x6,hx6,hm⟩:=hm
   refine indexK (s:=1) (j:=n) rfl rfl rfl rfl hj ?_;(conv=>whnf);repeat(first|apply Hs|apply Hx);conv=>whnf
   refine fnG hM Tryz.func75 rfl (hP _ _ rfl Tryz.func75) (lbE rfl) ?_;conv=>whnf
   apply Cs;conv=>whnf
   apply Cs;(conv=>whnf);repeat(first|apply Hs|apply Hx);conv=>whnf
   refine CodeS.joinWS hm (nn:=17) (σ:=(List Nat)×Unit) (fun s=>s.1) (fun (v7,_) h=>(a=none→wait=[])∧(pre.length=off)∧Own vars h0 (((some gv),.cells (flatC (v7.map n8)) false)::((some gw),.cells [((encL 4 encNode) nodes),((encL 1 Value.string) names),((encL 3 encMem) mems),((encL 1 i64) outs),((encL 1 (encL 2 encLn)) fan),(.slice (some ⟨gv,0,none⟩) nv nv),(tailV 1 a off (wait.map i64))] false)::(a,.cells (pre++flatC (wait.map i64)) false)::L) h∧True) (fun (v7,_)=>[(0,(.pointer (some ⟨gv,0+n*1+0,none⟩))),(1,(n8 x))]) rfl (fun hm'=>?_) ?_
   ·replace hm:=hm'
    apply Cs;(conv=>whnf);repeat(first|apply Cs|apply Hs|apply Hx);conv=>whnf
    refine⟨_,loadK rfl (O.at (.tail _ (.head _))) rfl (cell_map (enc:=n8) (s:=1) (k:=0) (fun _=>rfl) hx6 rfl),?_⟩;(conv=>whnf);repeat(first|apply Cs|apply Hs|apply Hx);conv=>whnf
    refine⟨_,rfl,fun hc=>?_,fun hc=>?_⟩
    ·replace hm:=hm.1 hc
     apply Cs;(conv=>whnf);repeat(first|apply Cs|apply Hs|apply Hx);conv=>whnf
     refine O.store (n:=1) (.tail _ (.head _)) rfl rfl rfl rfl (el_le (enc:=n8) (s:=1) (k:=0) (n:=1) (fun _=>rfl) (lt_of_get hx6) (lbE rfl)) rfl (splice_all (enc:=n8) (s:=1) (fun _=>rfl) (lt_of_get hx6) (x:=x) rfl) fun h O=>?_;(conv=>whnf);repeat(first|apply Hs|apply Hx);conv=>whnf
     exact⟨((vals.set n x),()),hm,⟨ha2,hp3,(Own.selT [((some gw),.cells [((encL 4 encNode) nodes),((encL 1 Value.string) names),((encL 3 encMem) mems),((encL 1 i64) outs),((encL 1 (encL 2 encLn)) fan),(.slice (some ⟨gv,0,none⟩) nv nv),(tailV 1 a off (wait.map i64))] false),((some gv),.cells (flatC ((vals.set n x).map n8)) false),(a,.cells (pre++flatC (wait.map i64)) false)] O [1,0,2] (by decide)),trivial⟩,VLe.refl _ _,VLe.refl _ _,trivial⟩
    ·replace hm:=hm.2 hc
     apply Cs;(conv=>whnf);repeat(first|apply Cs|apply Hs|apply Hx);conv=>whnf
     exact⟨(vals,()),hm,⟨ha2,hp3,(Own.selT [((some gw),.cells [((encL 4 encNode) nodes),((encL 1 Value.string) names),((encL 3 encMem) mems),((encL 1 i64) outs),((encL 1 (encL 2 encLn)) fan),(.slice (some ⟨gv,0,none⟩) nv nv),(tailV 1 a off (wait.map i64))] false),((some gv),.cells (flatC (vals.map n8)) false),(a,.cells (pre++flatC (wait.map i64)) false)] O [1,0,2] (by decide)),trivial⟩,VLe.refl _ _,VLe.refl _ _,trivial⟩
   ·clear hm;rintro⟨v7,_⟩ base h hm ⟨ha8,hp9,O,_⟩
    ((conv=>whnf);repeat(first|apply Cs|apply Hs|apply Hx);conv=>whnf)
    obtain⟨x11,hx11,hm⟩:=hm
    refine⟨_,loadK rfl (O.at (.head _)) rfl (cell_map (enc:=n8) (s:=1) (k:=0) (fun _=>rfl) hx11 rfl),?_⟩;(conv=>whnf);repeat(first|apply Cs|apply Hs|apply Hx);conv=>whnf
    refine⟨_,rfl,fun hc=>?_,fun hc=>?_⟩
    ·replace hm:=hm.1 hc
     apply Cs;(conv=>whnf);repeat(first|apply Cs|apply Hs|apply Hx);conv=>whnf
     exact⟨false,v7,wait,a,pre,off,hm,rfl,ha8,hp9,(Own.selT [((some gv),.cells (flatC (v7.map n8)) false),((some gw),.cells [((encL 4 encNode) nodes),((encL 1 Value.string) names),((encL 3 encMem) mems),((encL 1 i64) outs),((encL 1 (encL 2 encLn)) fan),(.slice (some ⟨gv,0,none⟩) nv nv),(tailV 1 a off (wait.map i64))] false),(a,.cells (pre++flatC (wait.map i64)) false)] O [1,0,2] (by decide)),trivial⟩
    ·replace hm:=hm.2 hc
     apply Cs;(conv=>whnf);repeat(first|apply Cs|apply Hs|apply Hx);conv=>whnf
     refine⟨_,loadK rfl (O.at (.tail _ (.head _))) rfl rfl,?_⟩;(conv=>whnf);repeat(first|apply Hs|apply Hx);conv=>whnf
     refine NewG.frz rfl ?_;(conv=>whnf);repeat(first|apply Hs|apply Hx);conv=>whnf
     refine Own.appendT (enc:=i64) (l:=wait) (new:=([n]:(List Nat))) (s:=1) (b:=8) hp9 O (.tail _ (.tail _ (.head _))) ha8 rfl rfl rfl rfl rfl rfl rfl rfl (YOk.fl rfl) (fun _=>rfl) (fun _=>rfl) (by decide) hm.1 fun a12 q14 o15 h hp16 ha13 O=>?_;(conv=>whnf);repeat(first|apply Hs|apply Hx);conv=>whnf
     replace hm:=hm.2
     refine O.store (n:=1) (cs':=[((encL 4 encNode) nodes),((encL 1 Value.string) names),((encL 3 encMem) mems),((encL 1 i64) outs),((encL 1 (encL 2 encLn)) fan),(.slice (some ⟨gv,0,none⟩) nv nv),(tailV 1 a12 o15 ((wait++([n]:(List Nat))).map i64))]) (.tail _ (.head _)) rfl rfl rfl rfl (lbE rfl) rfl rfl fun h O=>?_;(conv=>whnf);repeat(first|apply Hs|apply Hx);conv=>whnf
     refine CodeS.joinWS hm (nn:=65) (σ:=(List Nat)×(Option Nat×(List Value)×Nat)) (fun s=>s.1) (fun (v20,(a17,a18,a19)) h=>(a17=none→v20=[])∧(a18.length=a19)∧Own vars h0 (((some gw),.cells [((encL 4 encNode) nodes),((encL 1 Value.string) names),((encL 3 encMem) mems),((encL 1 i64) outs),((encL 1 (encL 2 encLn)) fan),(.slice (some ⟨gv,0,none⟩) nv nv),(tailV 1 a17 a19 (v20.map i64))] false)::((some gv),.cells (flatC (v7.map n8)) false)::(a17,.cells (a18++flatC (v20.map i64)) false)::L) h∧True) (fun (v20,(a17,a18,a19))=>[]) rfl (fun hm'=>?_) ?_
     ·replace hm:=hm'
      apply Cs;(conv=>whnf);repeat(first|apply Cs|apply Hs|apply Hx);conv=>whnf
      refine⟨_,loadK rfl (O.at (.tail _ (.head _))) rfl rfl,?_⟩;(conv=>whnf);repeat(first|apply Hs|apply Hx);conv=>whnf
      obtain⟨x24,hx24,hm⟩:=hm
      refine flAtM (s:=1) (enc:=(encL 2 encLn)) (j:=n) rfl rfl rfl rfl hx24 ?_;(conv=>whnf);repeat(first|apply Hs|apply Hx);conv=>whnf
      refine⟨_,(rfl:aread _ _ _ _=some _),?_⟩;(conv=>whnf);repeat(first|apply Hs|apply Hx);conv=>whnf
      refine lenM (s:=2) (enc:=encLn) (l:=x24) rfl rfl ?_;(conv=>whnf);repeat(first|apply Cs|apply Hs|apply Hx);conv=>whnf
      refine loopWK hM (by kernel_rfl) (nn:=65) (S:=((List Nat)×Nat)) (σ:=((List Nat)×Nat)×(Option Nat×(List Value)×Nat)) (fun s=>s.1) (fun ((v28,v29),(a25,a26,a27)) h=>(a25=none→v28=[])∧(a26.length=a27)∧Own vars h0 (((some gw),.cells [((encL 4 encNode) nodes),((encL 1 Value.string) names),((encL 3 encMem) mems),((encL 1 i64) outs),((encL 1 (encL 2 encLn)) fan),(.slice (some ⟨gv,0,none⟩) nv nv),(tailV 1 a25 a27 (v28.map i64))] false)::((some gv),.cells (flatC (v7.map n8)) false)::(a25,.cells (a26++flatC (v28.map i64)) false)::L) h∧True) (fun ((v28,v29),(a25,a26,a27))=>[(0,(.pointer (some ⟨gw,0,none⟩))),(47,((encL 2 encLn) x24)),(48,(i64 x24.length)),(49,(i64 v29))]) rfl (((wait++([n]:(List Nat))),0),(a12,q14,o15)) hm ⟨ha13,hp16,(Own.selT [((some gv),.cells (flatC (v7.map n8)) false),((some gw),.cells [((encL 4 encNode) nodes),((encL 1 Value.string) names),((encL 3 encMem) mems),((encL 1 i64) outs),((encL 1 (encL 2 encLn)) fan),(.slice (some ⟨gv,0,none⟩) nv nv),(tailV 1 a12 o15 ((wait++([n]:(List Nat))).map i64))] false),(a12,.cells (q14++flatC ((wait++([n]:(List Nat))).map i64)) false)] O [1,0,2] (by decide)),trivial⟩ ⟨VLe.refl _ _,VLe.refl _ _,VLe.refl _ _,VLe.refl _ _,trivial⟩ ?_
      clear hm;rintro⟨⟨v28,v29⟩,⟨a25,a26,a27⟩⟩ nx32 base h hm ⟨ha30,hp31,O,_⟩
      ((conv=>whnf);repeat(first|apply Cs|apply Hs|apply Hx);conv=>whnf)
      refine⟨_,rfl,fun hc=>?_,fun hc=>?_⟩
      ·replace hm:=hm.1 hc
       apply Cs;(conv=>whnf);repeat(first|apply Cs|apply Hs|apply Hx);conv=>whnf
       obtain⟨x33,hx33,hm⟩:=hm
       refine flAtM (s:=2) (enc:=encLn) (j:=v29) rfl rfl rfl rfl hx33 ?_;(conv=>whnf);repeat(first|apply Hs|apply Hx);conv=>whnf
       refine⟨_,(rfl:aread _ _ _ _=some _),?_⟩;(conv=>whnf);repeat(first|apply Hs|apply Hx);conv=>whnf
       refine O.new (anew_alloc (l:=[(i64 0),(i64 0)]) rfl rfl rfl) fun g34 h O=>?_;(conv=>whnf);repeat(first|apply Hs|apply Hx);conv=>whnf
       refine O.store (n:=2) (cs':=[(i64 x33.node),(i64 x33.pin)]) (.head _) rfl rfl rfl rfl (lbE rfl) rfl rfl fun h O=>?_;(conv=>whnf);repeat(first|apply Cs|apply Hs|apply Hx);conv=>whnf
       refine⟨_,loadK rfl (O.at (.tail _ (.head _))) rfl rfl,?_⟩;(conv=>whnf);repeat(first|apply Hs|apply Hx);conv=>whnf
       first|refine⟨.inr (.inr (loadK rfl (O.at (.tail _ (.head _))) rfl rfl)),?_⟩|refine⟨.inr (.inl (by kernel_rfl)),?_⟩
       ((conv=>whnf);repeat(first|apply Cs|apply Hs|apply Hx);conv=>whnf)
       refine⟨_,loadK rfl (O.at (.head _)) rfl rfl,?_⟩;(conv=>whnf);repeat(first|apply Hs|apply Hx);conv=>whnf
       refine⟨.inl rfl,?_⟩;(conv=>whnf);repeat(first|apply Hs|apply Hx);conv=>whnf
       refine O.buildLX (l:=([x33.node]:(List Nat))) (enc:=i64) (s:=1) (z:=(i64 0)) rfl rfl (by kernel_rfl) (by kernel_rfl) rfl rfl rfl rfl (fun _=>rfl) fun g36 h O=>?_;(conv=>whnf);repeat(first|apply Hs|apply Hx);conv=>whnf
       refine Own.appendT (enc:=i64) (l:=v28) (new:=([x33.node]:(List Nat))) (s:=1) (b:=8) hp31 O (.tail _ (.tail _ (.tail _ (.tail _ (.head _))))) ha30 rfl rfl rfl rfl rfl rfl rfl rfl (YOk.own (O.at (.head _)) rfl (fun _=>rfl) rfl) (fun _=>rfl) (fun _=>rfl) (by decide) hm.1 fun a38 q40 o41 h hp42 ha39 O=>?_;(conv=>whnf);repeat(first|apply Hs|apply Hx);conv=>whnf
       refine⟨.inl rfl,?_⟩;(conv=>whnf);repeat(first|apply Hs|apply Hx);conv=>whnf
       replace hm:=hm.2
       refine O.store (n:=1) (cs':=[((encL 4 encNode) nodes),((encL 1 Value.string) names),((encL 3 encMem) mems),((encL 1 i64) outs),((encL 1 (encL 2 encLn)) fan),(.slice (some ⟨gv,0,none⟩) nv nv),(tailV 1 a38 o41 ((v28++([x33.node]:(List Nat))).map i64))]) (.tail _ (.tail _ (.head _))) rfl rfl rfl rfl (lbE rfl) rfl rfl fun h O=>?_;(conv=>whnf);repeat(first|apply Hs|apply Hx);conv=>whnf
       refine⟨.inl rfl,?_⟩;(conv=>whnf);repeat(first|apply Hs|apply Hx);conv=>whnf
       apply Cs;(conv=>whnf);repeat(first|apply Cs|apply Hs|apply Hx);conv=>whnf
       refine⟨_,addK (a:=v29) (b:=1) rfl rfl hm.1,?_⟩;(conv=>whnf);repeat(first|apply Hs|apply Hx);conv=>whnf
       replace hm:=hm.2
       exact⟨(((v28++([x33.node]:(List Nat))),(v29+1)),(a38,q40,o41)),hm,⟨ha39,hp42,(Own.selT [((some g36),.cells (flatC (([x33.node]:(List Nat)).map i64)) false),((some g34),.cells [(i64 x33.node),(i64 x33.pin)] false),((some gw),.cells [((encL 4 encNode) nodes),((encL 1 Value.string) names),((encL 3 encMem) mems),((encL 1 i64) outs),((encL 1 (encL 2 encLn)) fan),(.slice (some ⟨gv,0,none⟩) nv nv),(tailV 1 a38 o41 ((v28++([x33.node]:(List Nat))).map i64))] false),((some gv),.cells (flatC (v7.map n8)) false),(a38,.cells (q40++flatC ((v28++([x33.node]:(List Nat))).map i64)) false)] O [2,3,4] (by decide)),trivial⟩,VLe.refl _ _,VLe.refl _ _,VLe.refl _ _,VLe.refl _ _,trivial⟩
      ·replace hm:=hm.2 hc
       apply Cs;(conv=>whnf);repeat(first|apply Cs|apply Hs|apply Hx);conv=>whnf
       exact⟨(v28,(a25,a26,a27)),hm,⟨ha30,hp31,O,trivial⟩,trivial⟩
     ·clear hm;rintro⟨v20,⟨a17,a18,a19⟩⟩ base h hm ⟨ha21,hp22,O,_⟩
      ((conv=>whnf);repeat(first|apply Cs|apply Hs|apply Hx);conv=>whnf)
      exact⟨true,v7,v20,a17,a18,a19,hm,rfl,ha21,hp22,O,trivial⟩
def work_gate_wp (nodes:List Node) (names:List ByteArray) (mems:List Memo) (outs:List Nat) (fan:List (List Ln)) (nv:Nat) (vals:List Nat) (wait:List Nat) (n:Nat) (K:(Bool×(List Nat)×(List Nat))→Prop):Prop :=
 ∃ x1,nodes[n]?=some x1∧1*x1.ins.length≤2 ^ 48∧x1.ins.length<2 ^ 63∧joinW (α:=(List Nat)) (fun k9=>loopW (S:=((List Nat)×Nat)) (fun (v10,v11) nx14=>((ltN v11 x1.ins.length)=true→∃ x15,x1.ins[v11]?=some x15∧x15<nv∧∃ x16,vals[x15]?=some x16∧v11<x1.ins.length∧∃ x17,v10[v11]?=some x17∧v11+1<2 ^ 63∧nx14 ((v10.set v11 x16),(v11+1)))∧((ltN v11 x1.ins.length)=false→k9 v10)) ((List.replicate x1.ins.length (0:Nat)),0)) (fun v6=>n<nv∧∃ x18,vals[n]?=some x18∧x1.ins.length=v6.length∧implies_Gate_wp x1.kind x18 v6 (fun r19=>joinW (α:=((List Nat)×(List Nat)×Bool)) (fun k29=>((!r19.2.2)=true→k29 (vals,wait,true))∧((!r19.2.2)=false→work_put_wp nodes names mems outs fan nv vals wait n r19.1 (fun (r30,x31,x35)=>k29 (x31,x35,(!r30))))) (fun (v21,v25,v26)=>(v26=true→K (false,v21,v25))∧(v26=false→joinW (α:=((List Nat)×(List Nat))) (fun k45=>loopW (S:=((List Nat)×(List Nat)×Nat)) (fun (v46,v50,v51) nx54=>((ltN v51 x1.ins.length)=true→∃ x55,x1.ins[v51]?=some x55∧∃ x56,r19.2.1[v51]?=some x56∧work_put_wp nodes names mems outs fan nv v46 v50 x55 x56 (fun (r57,x58,x62)=>((!r57)=true→K (false,x58,x62))∧((!r57)=false→v51+1<2 ^ 63∧nx54 (x58,x62,(v51+1)))))∧((ltN v51 x1.ins.length)=false→k45 (v46,v50))) (v21,v25,0)) (fun (v38,v42)=>K (true,v38,v42))))))
theorem work_gate_walk {nodes:List Node}{names:List ByteArray}{mems:List Memo}{outs:List Nat}{fan:List (List Ln)}{nv:Nat}{vals:List Nat}{wait:List Nat}{n:Nat}{gw:Nat}{gv:Nat}{a:Option Nat}{pre:List Value}{off:Nat}{L:List Slot}{K:(Bool×(List Nat)×(List Nat))→Prop} (hm:work_gate_wp nodes names mems outs fan nv vals wait n K) {h0 h:Heap} (ha:a=none→wait=[]) (hp:pre.length=off) (O:Own vars h0 (((some gw),.cells [((encL 4 encNode) nodes),((encL 1 Value.string) names),((encL 3 encMem) mems),((encL 1 i64) outs),((encL 1 (encL 2 encLn)) fan),(.slice (some ⟨gv,0,none⟩) nv nv),(tailV 1 a off (wait.map i64))] false)::((some gv),.cells (flatC (vals.map n8)) false)::(a,.cells (pre++flatC (wait.map i64)) false)::L) h):∃ v h',CallD Tryz.prog NG 44 ⟨[(.pointer (some ⟨gw,0,none⟩)),(i64 n)]⟩ h v h'∧∃ (u0:Bool) (w0:(List Nat)) (w4:(List Nat)) (b1:Option Nat) (b2:(List Value)) (b3:Nat),K (u0,w0,w4)∧v=(Value.bool u0)∧(b1=none→w4=[])∧(b2.length=b3)∧Own vars h0 (((some gw),.cells [((encL 4 encNode) nodes),((encL 1 Value.string) names),((encL 3 encMem) mems),((encL 1 i64) outs),((encL 1 (encL 2 encLn)) fan),(.slice (some ⟨gv,0,none⟩) nv nv),(tailV 1 b1 b3 (w4.map i64))] false)::((some gv),.cells (flatC (w0.map n8)) false)::(b1,.cells (b2++flatC (w4.map i64)) false)::L) h'∧True:=by
 unfold work_gate_wp at hm
 refine fnG hM Tryz.func44 rfl (hP _ _ rfl Tryz.func44) (lbE rfl) (Q:=fun v h'=>∃ (u0:Bool) (w0:(List Nat)) (w4:(List Nat)) (b1:Option Nat) (b2:(List Value)) (b3:Nat),K (u0,w0,w4)∧v=(Value.bool u0)∧(b1=none→w4=[])∧(b2.length=b3)∧Own vars h0 (((some gw),.cells [((encL 4 encNode) nodes),((encL 1 Value.string) names),((encL 3 encMem) mems),((encL 1 i64) outs),((encL 1 (encL 2 encLn)) fan),(.slice (some ⟨gv,0,none⟩) nv nv),(tailV 1 b1 b3 (w4.map i64))] false)::((some gv),.cells (flatC (w0.map n8)) false)::(b1,.cells (b2++flatC (w4.map i64)) false)::L) h'∧True) ?_;conv=>whnf
 apply Cs;(conv=>whnf);repeat(first|apply Cs|apply Hs|apply Hx);conv=>whnf
 refine⟨_,loadK rfl (O.at (.head _)) rfl rfl,?_⟩;(conv=>whnf);repeat(first|apply Hs|apply Hx);conv=>whnf
 obtain⟨x1,hx1,hm⟩:=hm
 refine flAtM (s:=4) (enc:=encNode) (j:=n) rfl rfl rfl rfl hx1 ?_;(conv=>whnf);repeat(first|apply Hs|apply Hx);conv=>whnf
 refine⟨_,(rfl:aread _ _ _ _=some _),?_⟩;(conv=>whnf);repeat(first|apply Hs|apply Hx);conv=>whnf
 refine O.new (anew_alloc (l:=[(n8 0),(.slice none 0 0),(i64 0),(i64 0)]) rfl rfl rfl) fun g2 h O=>?_;(conv=>whnf);repeat(first|apply Hs|apply Hx);conv=>whnf
 refine O.store (n:=4) (cs':=[(n8 x1.kind),((encL 1 i64) x1.ins),(i64 x1.mem),(i64 x1.bit)]) (.head _) rfl rfl rfl rfl (lbE rfl) rfl rfl fun h O=>?_;(conv=>whnf);repeat(first|apply Cs|apply Hs|apply Hx);conv=>whnf
 refine⟨_,loadK rfl (O.at (.head _)) rfl rfl,?_⟩;(conv=>whnf);repeat(first|apply Hs|apply Hx);conv=>whnf
 refine lenM (s:=1) (enc:=i64) (l:=x1.ins) rfl rfl ?_;(conv=>whnf);repeat(first|apply Hs|apply Hx);conv=>whnf
 refine O.makeL (enc:=n8) (z:=0) (b:=1) (s:=1) (n:=x1.ins.length) rfl rfl rfl rfl rfl (by decide) (by kernel_rfl) rfl rfl hm.1 hm.2.1 fun g4 h O=>?_;(conv=>whnf);repeat(first|apply Hs|apply Hx);conv=>whnf
 replace hm:=hm.2.2
 refine CodeS.joinWS hm (nn:=86) (σ:=(List Nat)×Unit) (fun s=>s.1) (fun (v6,_) h=>(a=none→wait=[])∧(pre.length=off)∧Own vars h0 (((some gw),.cells [((encL 4 encNode) nodes),((encL 1 Value.string) names),((encL 3 encMem) mems),((encL 1 i64) outs),((encL 1 (encL 2 encLn)) fan),(.slice (some ⟨gv,0,none⟩) nv nv),(tailV 1 a off (wait.map i64))] false)::((some gv),.cells (flatC (vals.map n8)) false)::(a,.cells (pre++flatC (wait.map i64)) false)::((some g2),.cells [(n8 x1.kind),((encL 1 i64) x1.ins),(i64 x1.mem),(i64 x1.bit)] false)::((some g4),.cells (flatC (v6.map n8)) false)::L) h∧True) (fun (v6,_)=>[(0,(.pointer (some ⟨gw,0,none⟩))),(1,(i64 n)),(5,(.pointer (some ⟨g2,0,none⟩))),(6,(.slice (some ⟨g4,0,none⟩) x1.ins.length x1.ins.length))]) rfl (fun hm'=>?_) ?_
 ·replace hm:=hm'
  apply Cs;(conv=>whnf);repeat(first|apply Cs|apply Hs|apply Hx);conv=>whnf
  refine⟨_,loadK rfl (O.at (.tail _ (.head _))) rfl rfl,?_⟩;(conv=>whnf);repeat(first|apply Hs|apply Hx);conv=>whnf
  refine lenM (s:=1) (enc:=i64) (l:=x1.ins) rfl rfl ?_;(conv=>whnf);repeat(first|apply Cs|apply Hs|apply Hx);conv=>whnf
  refine loopWK hM (by kernel_rfl) (nn:=86) (S:=((List Nat)×Nat)) (σ:=((List Nat)×Nat)×Unit) (fun s=>s.1) (fun ((v10,v11),_) h=>(a=none→wait=[])∧(pre.length=off)∧Own vars h0 (((some gw),.cells [((encL 4 encNode) nodes),((encL 1 Value.string) names),((encL 3 encMem) mems),((encL 1 i64) outs),((encL 1 (encL 2 encLn)) fan),(.slice (some ⟨gv,0,none⟩) nv nv),(tailV 1 a off (wait.map i64))] false)::((some gv),.cells (flatC (vals.map n8)) false)::(a,.cells (pre++flatC (wait.map i64)) false)::((some g2),.cells [(n8 x1.kind),((encL 1 i64) x1.ins),(i64 x1.mem),(i64 x1.bit)] false)::((some g4),.cells (flatC (v10.map n8)) false)::L) h∧True) (fun ((v10,v11),_)=>[(0,(.pointer (some ⟨gw,0,none⟩))),(1,(i64 n)),(5,(.pointer (some ⟨g2,0,none⟩))),(6,(.slice (some ⟨g4,0,none⟩) x1.ins.length x1.ins.length)),(27,((encL 1 i64) x1.ins)),(28,(i64 x1.ins.length)),(29,(i64 v11))]) rfl (((List.replicate x1.ins.length (0:Nat)),0),()) hm ⟨ha,hp,(Own.selT [((some g4),.cells (flatC ((List.replicate x1.ins.length (0:Nat)).map n8)) false),((some g2),.cells [(n8 x1.kind),((encL 1 i64) x1.ins),(i64 x1.mem),(i64 x1.bit)] false),((some gw),.cells [((encL 4 encNode) nodes),((encL 1 Value.string) names),((encL 3 encMem) mems),((encL 1 i64) outs),((encL 1 (encL 2 encLn)) fan),(.slice (some ⟨gv,0,none⟩) nv nv),(tailV 1 a off (wait.map i64))] false),((some gv),.cells (flatC (vals.map n8)) false),(a,.cells (pre++flatC (wait.map i64)) false)] O [2,3,4,1,0] (by decide)),trivial⟩ ⟨VLe.refl _ _,VLe.refl _ _,VLe.refl _ _,VLe.refl _ _,VLe.refl _ _,VLe.refl _ _,VLe.refl _ _,trivial⟩ ?_
  clear hm;rintro⟨⟨v10,v11⟩,_⟩ nx14 base h hm ⟨ha12,hp13,O,_⟩
  ((conv=>whnf);repeat(first|apply Cs|apply Hs|apply Hx);conv=>whnf)
  refine⟨_,rfl,fun hc=>?_,fun hc=>?_⟩
  ·replace hm:=hm.1 hc
   apply Cs;(conv=>whnf);repeat(first|apply Cs|apply Hs|apply Hx);conv=>whnf
   obtain⟨x15,hx15,hm⟩:=hm
   refine flAtM (s:=1) (enc:=i64) (j:=v11) rfl rfl rfl rfl hx15 ?_;(conv=>whnf);repeat(first|apply Hs|apply Hx);conv=>whnf
   refine⟨_,(rfl:aread _ _ _ _=some _),?_⟩;(conv=>whnf);repeat(first|apply Cs|apply Hs|apply Hx);conv=>whnf
   refine⟨_,loadK rfl (O.at (.head _)) rfl rfl,?_⟩;(conv=>whnf);repeat(first|apply Hs|apply Hx);conv=>whnf
   obtain⟨hj,x16,hx16,hm⟩:=hm
   refine indexK (s:=1) (j:=x15) rfl rfl rfl rfl hj ?_;(conv=>whnf);repeat(first|apply Hs|apply Hx);conv=>whnf
   refine⟨_,loadK rfl (O.at (.tail _ (.head _))) rfl (cell_map (enc:=n8) (s:=1) (k:=0) (fun _=>rfl) hx16 rfl),?_⟩;(conv=>whnf);repeat(first|apply Hs|apply Hx);conv=>whnf
   obtain⟨hj,x17,hx17,hm⟩:=hm
   refine indexK (s:=1) (j:=v11) rfl rfl rfl rfl hj ?_;(conv=>whnf);repeat(first|apply Hs|apply Hx);conv=>whnf
   refine O.store (n:=1) (.tail _ (.tail _ (.tail _ (.tail _ (.head _))))) rfl rfl rfl rfl (el_le (enc:=n8) (s:=1) (k:=0) (n:=1) (fun _=>rfl) (lt_of_get hx17) (lbE rfl)) rfl (splice_all (enc:=n8) (s:=1) (fun _=>rfl) (lt_of_get hx17) (x:=x16) rfl) fun h O=>?_;(conv=>whnf);repeat(first|apply Cs|apply Hs|apply Hx);conv=>whnf
   refine⟨_,addK (a:=v11) (b:=1) rfl rfl hm.1,?_⟩;(conv=>whnf);repeat(first|apply Hs|apply Hx);conv=>whnf
   replace hm:=hm.2
   exact⟨(((v10.set v11 x16),(v11+1)),()),hm,⟨ha12,hp13,O,trivial⟩,VLe.refl _ _,VLe.refl _ _,VLe.refl _ _,VLe.refl _ _,VLe.refl _ _,VLe.refl _ _,VLe.refl _ _,trivial⟩
  ·replace hm:=hm.2 hc
   apply Cs;(conv=>whnf);repeat(first|apply Cs|apply Hs|apply Hx);conv=>whnf
   exact⟨(v10,()),hm,⟨ha12,hp13,O,trivial⟩,VLe.refl _ _,VLe.refl _ _,VLe.refl _ _,VLe.refl _ _,trivial⟩
 ·clear hm;rintro⟨v6,_⟩ base h hm ⟨ha7,hp8,O,_⟩
  ((conv=>whnf);repeat(first|apply Cs|apply Hs|apply Hx);conv=>whnf)
  refine⟨_,loadK rfl (O.at (.tail _ (.tail _ (.tail _ (.head _))))) rfl rfl,?_⟩;(conv=>whnf);repeat(first|apply Hs|apply Hx);conv=>whnf
  refine⟨.inl rfl,?_⟩;(conv=>whnf);repeat(first|apply Hs|apply Hx);conv=>whnf
  refine⟨_,loadK rfl (O.at (.head _)) rfl rfl,?_⟩;(conv=>whnf);repeat(first|apply Hs|apply Hx);conv=>whnf
  first|refine⟨.inr (.inr (loadK rfl (O.at (.head _)) rfl rfl)),?_⟩|refine⟨.inr (.inl (by kernel_rfl)),?_⟩
  ((conv=>whnf);repeat(first|apply Cs|apply Hs|apply Hx);conv=>whnf)
  obtain⟨hj,x18,hx18,hm⟩:=hm
  refine indexK (s:=1) (j:=n) rfl rfl rfl rfl hj ?_;(conv=>whnf);repeat(first|apply Hs|apply Hx);conv=>whnf
  refine⟨_,loadK rfl (O.at (.tail _ (.head _))) rfl (cell_map (enc:=n8) (s:=1) (k:=0) (fun _=>rfl) hx18 rfl),?_⟩;(conv=>whnf);repeat(first|apply Hs|apply Hx);conv=>whnf
  refine⟨.inl rfl,?_⟩;(conv=>whnf);repeat(first|apply Hs|apply Hx);conv=>whnf
  obtain⟨hn20,hm⟩:=hm
  refine O.useL (fun _ hb=>implies_Gate_walk hm hb) (.tail _ (.tail _ (.tail _ (.tail _ (.head _))))) hn20 (fun _=>rfl) (i:=2) rfl (by kernel_rfl) (fun h2 q=>(LLe.cons (VLe.refl _ _) (LLe.cons (VLe.refl _ _) (LLe.cons (q) (LLe.nil _))))) (fun r19 h hm' O=>?_);replace hm:=hm';(conv=>whnf);repeat(first|apply Hs|apply Hx);conv=>whnf
  refine⟨.inr (by kernel_rfl),?_⟩;(conv=>whnf);repeat(first|apply Hs|apply Hx);conv=>whnf
  apply Cs;conv=>whnf
  refine CodeS.joinWS hm (nn:=86) (σ:=((List Nat)×(List Nat)×Bool)×(Option Nat×(List Value)×Nat)) (fun s=>s.1) (fun ((v21,v25,v26),(a22,a23,a24)) h=>(a22=none→v25=[])∧(a23.length=a24)∧Own vars h0 (((some gw),.cells [((encL 4 encNode) nodes),((encL 1 Value.string) names),((encL 3 encMem) mems),((encL 1 i64) outs),((encL 1 (encL 2 encLn)) fan),(.slice (some ⟨gv,0,none⟩) nv nv),(tailV 1 a22 a24 (v25.map i64))] false)::((some gv),.cells (flatC (v21.map n8)) false)::(a22,.cells (a23++flatC (v25.map i64)) false)::((some g2),.cells [(n8 x1.kind),((encL 1 i64) x1.ins),(i64 x1.mem),(i64 x1.bit)] false)::L) h∧True) (fun ((v21,v25,v26),(a22,a23,a24))=>[(0,(.pointer (some ⟨gw,0,none⟩))),(5,(.pointer (some ⟨g2,0,none⟩))),(10,((encL 1 n8) r19.2.1)),(68,(.bool v26))]) rfl (fun hm'=>?_) ?_
  ·replace hm:=hm'
   apply Cs;(conv=>whnf);repeat(first|apply Cs|apply Hs|apply Hx);conv=>whnf
   refine⟨_,rfl,fun hc=>?_,fun hc=>?_⟩
   ·replace hm:=hm.1 hc;(conv=>whnf);repeat(first|apply Hs|apply Hx);conv=>whnf
    exact⟨((vals,wait,true),(a,pre,off)),hm,⟨ha7,hp8,(Own.selT [((some gw),.cells [((encL 4 encNode) nodes),((encL 1 Value.string) names),((encL 3 encMem) mems),((encL 1 i64) outs),((encL 1 (encL 2 encLn)) fan),(.slice (some ⟨gv,0,none⟩) nv nv),(tailV 1 a off (wait.map i64))] false),((some gv),.cells (flatC (vals.map n8)) false),(a,.cells (pre++flatC (wait.map i64)) false),((some g2),.cells [(n8 x1.kind),((encL 1 i64) x1.ins),(i64 x1.mem),(i64 x1.bit)] false),((some g4),.cells (flatC (v6.map n8)) true)] O [0,1,2,3] (by decide)),trivial⟩,VLe.refl _ _,VLe.refl _ _,VLe.refl _ _,VLe.refl _ _,trivial⟩
   ·replace hm:=hm.2 hc;(conv=>whnf);repeat(first|apply Hs|apply Hx);conv=>whnf
    obtain⟨_,h,hcall,r30,x31,x35,a32,a33,a34,hm,rfl,ha36,hp37,O,_⟩:=work_put_walk hm ha7 hp8 O
    refine⟨_,_,hcall,?_⟩;(conv=>whnf);repeat(first|apply Hs|apply Hx);conv=>whnf
    exact⟨((x31,x35,(!r30)),(a32,a33,a34)),hm,⟨ha36,hp37,(Own.selT [((some gw),.cells [((encL 4 encNode) nodes),((encL 1 Value.string) names),((encL 3 encMem) mems),((encL 1 i64) outs),((encL 1 (encL 2 encLn)) fan),(.slice (some ⟨gv,0,none⟩) nv nv),(tailV 1 a32 a34 (x35.map i64))] false),((some gv),.cells (flatC (x31.map n8)) false),(a32,.cells (a33++flatC (x35.map i64)) false),((some g2),.cells [(n8 x1.kind),((encL 1 i64) x1.ins),(i64 x1.mem),(i64 x1.bit)] false),((some g4),.cells (flatC (v6.map n8)) true)] O [0,1,2,3] (by decide)),trivial⟩,VLe.refl _ _,VLe.refl _ _,VLe.refl _ _,VLe.refl _ _,trivial⟩
  ·clear hm;rintro⟨⟨v21,v25,v26⟩,⟨a22,a23,a24⟩⟩ base h hm ⟨ha27,hp28,O,_⟩
   ((conv=>whnf);repeat(first|apply Cs|apply Hs|apply Hx);conv=>whnf)
   refine⟨_,rfl,fun hc=>?_,fun hc=>?_⟩
   ·replace hm:=hm.1 hc
    apply Cs;(conv=>whnf);repeat(first|apply Cs|apply Hs|apply Hx);conv=>whnf
    exact⟨false,v21,v25,a22,a23,a24,hm,rfl,ha27,hp28,(Own.selT [((some gw),.cells [((encL 4 encNode) nodes),((encL 1 Value.string) names),((encL 3 encMem) mems),((encL 1 i64) outs),((encL 1 (encL 2 encLn)) fan),(.slice (some ⟨gv,0,none⟩) nv nv),(tailV 1 a22 a24 (v25.map i64))] false),((some gv),.cells (flatC (v21.map n8)) false),(a22,.cells (a23++flatC (v25.map i64)) false),((some g2),.cells [(n8 x1.kind),((encL 1 i64) x1.ins),(i64 x1.mem),(i64 x1.bit)] false)] O [0,1,2] (by decide)),trivial⟩
   ·replace hm:=hm.2 hc
    apply Cs;conv=>whnf
    refine CodeS.joinWS hm (nn:=86) (σ:=((List Nat)×(List Nat))×(Option Nat×(List Value)×Nat)) (fun s=>s.1) (fun ((v38,v42),(a39,a40,a41)) h=>(a39=none→v42=[])∧(a40.length=a41)∧Own vars h0 (((some gw),.cells [((encL 4 encNode) nodes),((encL 1 Value.string) names),((encL 3 encMem) mems),((encL 1 i64) outs),((encL 1 (encL 2 encLn)) fan),(.slice (some ⟨gv,0,none⟩) nv nv),(tailV 1 a39 a41 (v42.map i64))] false)::((some gv),.cells (flatC (v38.map n8)) false)::(a39,.cells (a40++flatC (v42.map i64)) false)::L) h∧True) (fun ((v38,v42),(a39,a40,a41))=>[]) rfl (fun hm'=>?_) ?_
    ·replace hm:=hm'
     apply Cs;(conv=>whnf);repeat(first|apply Cs|apply Hs|apply Hx);conv=>whnf
     refine⟨_,loadK rfl (O.at (.tail _ (.tail _ (.tail _ (.head _))))) rfl rfl,?_⟩;(conv=>whnf);repeat(first|apply Hs|apply Hx);conv=>whnf
     refine lenM (s:=1) (enc:=i64) (l:=x1.ins) rfl rfl ?_;(conv=>whnf);repeat(first|apply Cs|apply Hs|apply Hx);conv=>whnf
     refine loopWK hM (by kernel_rfl) (nn:=86) (S:=((List Nat)×(List Nat)×Nat)) (σ:=((List Nat)×(List Nat)×Nat)×(Option Nat×(List Value)×Nat)) (fun s=>s.1) (fun ((v46,v50,v51),(a47,a48,a49)) h=>(a47=none→v50=[])∧(a48.length=a49)∧Own vars h0 (((some gw),.cells [((encL 4 encNode) nodes),((encL 1 Value.string) names),((encL 3 encMem) mems),((encL 1 i64) outs),((encL 1 (encL 2 encLn)) fan),(.slice (some ⟨gv,0,none⟩) nv nv),(tailV 1 a47 a49 (v50.map i64))] false)::((some gv),.cells (flatC (v46.map n8)) false)::(a47,.cells (a48++flatC (v50.map i64)) false)::L) h∧True) (fun ((v46,v50,v51),(a47,a48,a49))=>[(0,(.pointer (some ⟨gw,0,none⟩))),(10,((encL 1 n8) r19.2.1)),(70,((encL 1 i64) x1.ins)),(71,(i64 x1.ins.length)),(72,(i64 v51))]) rfl ((v21,v25,0),(a22,a23,a24)) hm ⟨ha27,hp28,(Own.selT [((some gw),.cells [((encL 4 encNode) nodes),((encL 1 Value.string) names),((encL 3 encMem) mems),((encL 1 i64) outs),((encL 1 (encL 2 encLn)) fan),(.slice (some ⟨gv,0,none⟩) nv nv),(tailV 1 a22 a24 (v25.map i64))] false),((some gv),.cells (flatC (v21.map n8)) false),(a22,.cells (a23++flatC (v25.map i64)) false),((some g2),.cells [(n8 x1.kind),((encL 1 i64) x1.ins),(i64 x1.mem),(i64 x1.bit)] false)] O [0,1,2] (by decide)),trivial⟩ ⟨VLe.refl _ _,VLe.refl _ _,VLe.refl _ _,VLe.refl _ _,VLe.refl _ _,trivial⟩ ?_
     clear hm;rintro⟨⟨v46,v50,v51⟩,⟨a47,a48,a49⟩⟩ nx54 base h hm ⟨ha52,hp53,O,_⟩
     ((conv=>whnf);repeat(first|apply Cs|apply Hs|apply Hx);conv=>whnf)
     refine⟨_,rfl,fun hc=>?_,fun hc=>?_⟩
     ·replace hm:=hm.1 hc
      apply Cs;(conv=>whnf);repeat(first|apply Cs|apply Hs|apply Hx);conv=>whnf
      obtain⟨x55,hx55,hm⟩:=hm
      refine flAtM (s:=1) (enc:=i64) (j:=v51) rfl rfl rfl rfl hx55 ?_;(conv=>whnf);repeat(first|apply Hs|apply Hx);conv=>whnf
      refine⟨_,(rfl:aread _ _ _ _=some _),?_⟩;(conv=>whnf);repeat(first|apply Cs|apply Hs|apply Hx);conv=>whnf
      obtain⟨x56,hx56,hm⟩:=hm
      refine flAtM (s:=1) (enc:=n8) (j:=v51) rfl rfl rfl rfl hx56 ?_;(conv=>whnf);repeat(first|apply Hs|apply Hx);conv=>whnf
      refine⟨_,(rfl:aread _ _ _ _=some _),?_⟩;(conv=>whnf);repeat(first|apply Hs|apply Hx);conv=>whnf
      obtain⟨_,h,hcall,r57,x58,x62,a59,a60,a61,hm,rfl,ha63,hp64,O,_⟩:=work_put_walk hm ha52 hp53 O
      refine⟨_,_,hcall,?_⟩;(conv=>whnf);repeat(first|apply Cs|apply Hs|apply Hx);conv=>whnf
      refine⟨_,rfl,fun hc=>?_,fun hc=>?_⟩
      ·replace hm:=hm.1 hc
       apply Cs;(conv=>whnf);repeat(first|apply Cs|apply Hs|apply Hx);conv=>whnf
       exact⟨false,x58,x62,a59,a60,a61,hm,rfl,ha63,hp64,O,trivial⟩
      ·replace hm:=hm.2 hc
       apply Cs;(conv=>whnf);repeat(first|apply Cs|apply Hs|apply Hx);conv=>whnf
       refine⟨_,addK (a:=v51) (b:=1) rfl rfl hm.1,?_⟩;(conv=>whnf);repeat(first|apply Hs|apply Hx);conv=>whnf
       replace hm:=hm.2
       exact⟨((x58,x62,(v51+1)),(a59,a60,a61)),hm,⟨ha63,hp64,O,trivial⟩,VLe.refl _ _,VLe.refl _ _,VLe.refl _ _,VLe.refl _ _,VLe.refl _ _,trivial⟩
     ·replace hm:=hm.2 hc
      apply Cs;(conv=>whnf);repeat(first|apply Cs|apply Hs|apply Hx);conv=>whnf
      exact⟨((v46,v50),(a47,a48,a49)),hm,⟨ha52,hp53,O,trivial⟩,trivial⟩
    ·clear hm;rintro⟨⟨v38,v42⟩,⟨a39,a40,a41⟩⟩ base h hm ⟨ha43,hp44,O,_⟩
     ((conv=>whnf);repeat(first|apply Cs|apply Hs|apply Hx);conv=>whnf)
     exact⟨true,v38,v42,a39,a40,a41,hm,rfl,ha43,hp44,O,trivial⟩
def implies_Close_wp (p0:Circ) (p1:(List Asg)) (K:((List Nat)×Bool×Nat)→Prop):Prop :=
 implies_Plain_wp p0 (fun r1=>((neN r1 0)=true→K ([],false,r1))∧((neN r1 0)=false→joinW (α:=Unit) (fun k2=>loopW (S:=Nat) (fun v3 nx4=>((ltN v3 p1.length)=true→∃ x5,p1[v3]?=some x5∧joinW (α:=Bool) (fun k9=>((ltN x5.net 0)=true→k9 true)∧((ltN x5.net 0)=false→((!ltN x5.net p0.nodes.length)=true→k9 true)∧((!ltN x5.net p0.nodes.length)=false→logic_Known_wp x5.value (fun r10=>k9 (!r10))))) (fun v8=>(v8=true→K ([],false,1))∧(v8=false→v3+1<2 ^ 63∧nx4 (v3+1))))∧((ltN v3 p1.length)=false→k2 ())) 0) (fun _=>netlists_Fanout_wp p0 (fun r11=>1*p0.nodes.length≤2 ^ 48∧p0.nodes.length<2 ^ 63∧joinW (α:=((List Nat)×(List Nat))) (fun k24=>loopW (S:=((List Nat)×(List Nat)×Nat)) (fun (v25,v29,v30) nx33=>((ltN v30 p0.nodes.length)=true→v30<p0.nodes.length∧∃ x34,v25[v30]?=some x34∧(v29.length+([v30]:(List Nat)).length)*8≤2 ^ 47∧v30+1<2 ^ 63∧nx33 ((v25.set v30 2),(v29++([v30]:(List Nat))),(v30+1)))∧((ltN v30 p0.nodes.length)=false→k24 (v25,v29))) ((List.replicate p0.nodes.length (0:Nat)),([]:List Nat),0)) (fun (v17,v21)=>joinW (α:=((List Nat)×(List Nat))) (fun k47=>loopW (S:=((List Nat)×(List Nat)×Nat)) (fun (v48,v52,v53) nx56=>((ltN v53 p1.length)=true→∃ x57,p1[v53]?=some x57∧work_put_wp p0.nodes p0.names p0.mems p0.outs r11 p0.nodes.length v48 v52 x57.net x57.value (fun (r60,x61,x65)=>((!r60)=true→K ([],false,0))∧((!r60)=false→v53+1<2 ^ 63∧nx56 (x61,x65,(v53+1)))))∧((ltN v53 p1.length)=false→k47 (v48,v52))) (v17,v21,0)) (fun (v40,v44)=>joinW (α:=((List Nat)×(List Nat))) (fun k75=>loopW (S:=((List Nat)×(List Nat))) (fun (v76,v80) nx83=>((ltN 0 v80.length)=true→∃ x84,v80[0]?=some x84∧1≤v80.length∧∃ x87,p0.nodes[x84]?=some x87∧implies_free_wp x87.kind (fun r88=>(r88=true→nx83 (v76,(v80.drop 1)))∧(r88=false→work_gate_wp p0.nodes p0.names p0.mems p0.outs r11 p0.nodes.length v76 (v80.drop 1) x84 (fun (r89,x90,x94)=>((!r89)=true→K ([],false,0))∧((!r89)=false→nx83 (x90,x94))))))∧((ltN 0 v80.length)=false→k75 (v76,v80))) (v40,v44)) (fun (v68,v72)=>p0.nodes.length=v68.length∧K (v68,true,0))))))))
theorem implies_Close_walk {p0:Circ}{p1:(List Asg)}{K:((List Nat)×Bool×Nat)→Prop} (hm:implies_Close_wp p0 p1 K) {h0:Heap} (hB:HasB vars h0):∃ r,K r∧CallD Tryz.prog NG 14 ⟨[encCirc p0,(encL 2 encAsg) p1]⟩ h0 ((fun (r:((List Nat)×Bool×Nat))=>Value.tuple ⟨[(encL 1 n8) (r.1),Value.bool (r.2.1),i64 (r.2.2)]⟩) r) h0:=by
 unfold implies_Close_wp at hm
 refine fnW hM Tryz.func14 rfl (hP _ _ rfl Tryz.func14) (lbE rfl) hB (enc:=(fun (r:((List Nat)×Bool×Nat))=>Value.tuple ⟨[(encL 1 n8) (r.1),Value.bool (r.2.1),i64 (r.2.2)]⟩)) (fun r=>PureV.tup (AllPure.cons (pureL (fun _=>AllPure.cons (PureV.flat rfl) AllPure.nil)) (AllPure.cons (PureV.flat rfl) (AllPure.cons (PureV.flat rfl) (AllPure.nil))))) fun O=>?_;conv=>whnf
 apply Cs;(conv=>whnf);repeat(first|apply Cs|apply Hs|apply Hx);conv=>whnf
 refine NewG.frz rfl ?_;(conv=>whnf);repeat(first|apply Cs|apply Hs|apply Hx);conv=>whnf
 refine⟨_,(rfl:aread _ _ _ _=some _),?_⟩;(conv=>whnf);repeat(first|apply Hs|apply Hx);conv=>whnf
 obtain⟨r1,hm,hcall⟩:=implies_Plain_walk hm O.has
 refine⟨_,_,hcall,?_⟩;(conv=>whnf);repeat(first|apply Cs|apply Hs|apply Hx);conv=>whnf
 refine⟨_,rfl,fun hc=>?_,fun hc=>?_⟩
 ·replace hm:=hm.1 hc
  apply Cs;(conv=>whnf);repeat(first|apply Cs|apply Hs|apply Hx);conv=>whnf
  exact⟨([],false,r1),hm,O.ext,fun h2 F=>VLe.tup (LLe.cons (VLe.nil _ _) (LLe.cons (VLe.refl _ _) (LLe.cons (VLe.refl _ _) (LLe.nil _))))⟩
 ·replace hm:=hm.2 hc
  apply Cs;conv=>whnf
  refine CodeS.joinWS hm (nn:=125) (σ:=Unit×Unit) (fun s=>s.1) (fun (_,_) h=>Own vars h0 [] h∧True) (fun (_,_)=>[(1,((encL 2 encAsg) p1)),(2,(FP (encCirc p0)))]) rfl (fun hm'=>?_) ?_
  ·replace hm:=hm'
   apply Cs;(conv=>whnf);repeat(first|apply Cs|apply Hs|apply Hx);conv=>whnf
   refine lenM (s:=2) (enc:=encAsg) (l:=p1) rfl rfl ?_;(conv=>whnf);repeat(first|apply Cs|apply Hs|apply Hx);conv=>whnf
   refine loopWK hM (by kernel_rfl) (nn:=125) (S:=Nat) (σ:=Nat×Unit) (fun s=>s.1) (fun (v3,_) h=>Own vars h0 [] h∧True) (fun (v3,_)=>[(1,((encL 2 encAsg) p1)),(2,(FP (encCirc p0))),(20,((encL 2 encAsg) p1)),(21,(i64 p1.length)),(22,(i64 v3))]) rfl (0,()) hm ⟨O,trivial⟩ ⟨VLe.refl _ _,VLe.refl _ _,VLe.refl _ _,VLe.refl _ _,VLe.refl _ _,trivial⟩ ?_
   clear hm;rintro⟨v3,_⟩ nx4 base h hm ⟨O,_⟩
   ((conv=>whnf);repeat(first|apply Cs|apply Hs|apply Hx);conv=>whnf)
   refine⟨_,rfl,fun hc=>?_,fun hc=>?_⟩
   ·replace hm:=hm.1 hc
    apply Cs;(conv=>whnf);repeat(first|apply Cs|apply Hs|apply Hx);conv=>whnf
    obtain⟨x5,hx5,hm⟩:=hm
    refine flAtM (s:=2) (enc:=encAsg) (j:=v3) rfl rfl rfl rfl hx5 ?_;(conv=>whnf);repeat(first|apply Hs|apply Hx);conv=>whnf
    refine⟨_,(rfl:aread _ _ _ _=some _),?_⟩;(conv=>whnf);repeat(first|apply Hs|apply Hx);conv=>whnf
    refine O.new (anew_alloc (l:=[(i64 0),(n8 0)]) rfl rfl rfl) fun g6 h O=>?_;(conv=>whnf);repeat(first|apply Hs|apply Hx);conv=>whnf
    refine O.store (n:=2) (cs':=[(i64 x5.net),(n8 x5.value)]) (.head _) rfl rfl rfl rfl (lbE rfl) rfl rfl fun h O=>?_;(conv=>whnf);repeat(first|apply Hs|apply Hx);conv=>whnf
    refine CodeS.joinWS hm (nn:=125) (σ:=Bool×Unit) (fun s=>s.1) (fun (v8,_) h=>Own vars h0 [] h∧True) (fun (v8,_)=>[(1,((encL 2 encAsg) p1)),(2,(FP (encCirc p0))),(20,((encL 2 encAsg) p1)),(21,(i64 p1.length)),(22,(i64 v3)),(42,(.bool v8))]) rfl (fun hm'=>?_) ?_
    ·replace hm:=hm'
     apply Cs;(conv=>whnf);repeat(first|apply Cs|apply Hs|apply Hx);conv=>whnf
     refine⟨_,loadK rfl (O.at (.head _)) rfl rfl,?_⟩;(conv=>whnf);repeat(first|apply Hs|apply Hx);conv=>whnf
     refine⟨_,rfl,fun hc=>?_,fun hc=>?_⟩
     ·replace hm:=hm.1 hc;(conv=>whnf);repeat(first|apply Hs|apply Hx);conv=>whnf
      refine⟨true,rfl,fun _=>?_,(fun hc=>nomatch hc)⟩;(conv=>whnf);repeat(first|apply Hs|apply Hx);conv=>whnf
      exact⟨(true,()),hm,⟨(O.sel [] (by decide)),trivial⟩,VLe.refl _ _,VLe.refl _ _,VLe.refl _ _,VLe.refl _ _,VLe.refl _ _,VLe.refl _ _,trivial⟩
     ·replace hm:=hm.2 hc;(conv=>whnf);repeat(first|apply Hs|apply Hx);conv=>whnf
      refine⟨_,loadK rfl (O.at (.head _)) rfl rfl,?_⟩;(conv=>whnf);repeat(first|apply Hs|apply Hx);conv=>whnf
      refine⟨_,(rfl:aread _ _ _ _=some _),?_⟩;(conv=>whnf);repeat(first|apply Hs|apply Hx);conv=>whnf
      refine lenM (s:=4) (enc:=encNode) (l:=p0.nodes) rfl rfl ?_;(conv=>whnf);repeat(first|apply Hs|apply Hx);conv=>whnf
      refine⟨_,rfl,fun hc=>?_,fun hc=>?_⟩
      ·replace hm:=hm.1 hc;(conv=>whnf);repeat(first|apply Hs|apply Hx);conv=>whnf
       exact⟨(true,()),hm,⟨(O.sel [] (by decide)),trivial⟩,VLe.refl _ _,VLe.refl _ _,VLe.refl _ _,VLe.refl _ _,VLe.refl _ _,VLe.refl _ _,trivial⟩
      ·replace hm:=hm.2 hc;(conv=>whnf);repeat(first|apply Hs|apply Hx);conv=>whnf
       refine⟨_,loadK rfl (O.at (.head _)) rfl rfl,?_⟩;(conv=>whnf);repeat(first|apply Hs|apply Hx);conv=>whnf
       obtain⟨r10,hm,hcall⟩:=logic_Known_walk hm O.has
       refine⟨_,_,hcall,?_⟩;(conv=>whnf);repeat(first|apply Hs|apply Hx);conv=>whnf
       exact⟨((!r10),()),hm,⟨(O.sel [] (by decide)),trivial⟩,VLe.refl _ _,VLe.refl _ _,VLe.refl _ _,VLe.refl _ _,VLe.refl _ _,VLe.refl _ _,trivial⟩
    ·clear hm;rintro⟨v8,_⟩ base h hm ⟨O,_⟩
     ((conv=>whnf);repeat(first|apply Cs|apply Hs|apply Hx);conv=>whnf)
     refine⟨_,rfl,fun hc=>?_,fun hc=>?_⟩
     ·replace hm:=hm.1 hc
      apply Cs;(conv=>whnf);repeat(first|apply Cs|apply Hs|apply Hx);conv=>whnf
      exact⟨([],false,1),hm,O.ext,fun h2 F=>VLe.tup (LLe.cons (VLe.nil _ _) (LLe.cons (VLe.refl _ _) (LLe.cons (VLe.refl _ _) (LLe.nil _))))⟩
     ·replace hm:=hm.2 hc
      apply Cs;(conv=>whnf);repeat(first|apply Cs|apply Hs|apply Hx);conv=>whnf
      refine⟨_,addK (a:=v3) (b:=1) rfl rfl hm.1,?_⟩;(conv=>whnf);repeat(first|apply Hs|apply Hx);conv=>whnf
      replace hm:=hm.2
      exact⟨((v3+1),()),hm,⟨O,trivial⟩,VLe.refl _ _,VLe.refl _ _,VLe.refl _ _,VLe.refl _ _,VLe.refl _ _,trivial⟩
   ·replace hm:=hm.2 hc
    apply Cs;(conv=>whnf);repeat(first|apply Cs|apply Hs|apply Hx);conv=>whnf
    exact⟨((),()),hm,⟨O,trivial⟩,VLe.refl _ _,VLe.refl _ _,trivial⟩
  ·clear hm;rintro⟨_,_⟩ base h hm ⟨O,_⟩
   ((conv=>whnf);repeat(first|apply Cs|apply Hs|apply Hx);conv=>whnf)
   refine⟨_,(rfl:aread _ _ _ _=some _),?_⟩;(conv=>whnf);repeat(first|apply Hs|apply Hx);conv=>whnf
   first|refine⟨.inr (.inr (rfl)),?_⟩|refine⟨.inr (.inl (by kernel_rfl)),?_⟩
   ((conv=>whnf);repeat(first|apply Cs|apply Hs|apply Hx);conv=>whnf)
   refine⟨_,(rfl:aread _ _ _ _=some _),?_⟩;(conv=>whnf);repeat(first|apply Hs|apply Hx);conv=>whnf
   first|refine⟨.inr (.inr (rfl)),?_⟩|refine⟨.inr (.inl (by kernel_rfl)),?_⟩
   ((conv=>whnf);repeat(first|apply Cs|apply Hs|apply Hx);conv=>whnf)
   obtain⟨r11,hm,hcall⟩:=netlists_Fanout_walk hm O.has
   refine⟨_,_,hcall,?_⟩;(conv=>whnf);repeat(first|apply Hs|apply Hx);conv=>whnf
   refine⟨.inl (Ext.refl _),?_⟩;(conv=>whnf);repeat(first|apply Hs|apply Hx);conv=>whnf
   refine⟨_,(rfl:aread _ _ _ _=some _),?_⟩;(conv=>whnf);repeat(first|apply Hs|apply Hx);conv=>whnf
   first|refine⟨.inr (.inr (rfl)),?_⟩|refine⟨.inr (.inl (by kernel_rfl)),?_⟩
   ((conv=>whnf);repeat(first|apply Cs|apply Hs|apply Hx);conv=>whnf)
   refine lenM (s:=4) (enc:=encNode) (l:=p0.nodes) rfl rfl ?_;(conv=>whnf);repeat(first|apply Hs|apply Hx);conv=>whnf
   refine O.makeLX (enc:=n8) (z:=0) (b:=1) (s:=1) (n:=p0.nodes.length) rfl rfl rfl rfl rfl (by decide) (by kernel_rfl) rfl rfl hm.1 hm.2.1 fun g12 h O=>?_;(conv=>whnf);repeat(first|apply Hs|apply Hx);conv=>whnf
   replace hm:=hm.2.2
   have O:=O.addNil (.cells ([]++flatC ((([]:List Nat)).map i64)) false)
   refine O.newX (boxK rfl) fun g14 h O=>?_;(conv=>whnf);repeat(first|apply Hs|apply Hx);conv=>whnf
   refine CodeS.joinWS hm (nn:=125) (σ:=((List Nat)×(List Nat))×(Option Nat×(List Value)×Nat)) (fun s=>s.1) (fun ((v17,v21),(a18,a19,a20)) h=>(a18=none→v21=[])∧(a19.length=a20)∧Own vars h0 [((some g14),.cells [((encL 4 encNode) p0.nodes),((encL 1 Value.string) p0.names),((encL 3 encMem) p0.mems),((encL 1 i64) p0.outs),((encL 1 (encL 2 encLn)) r11),(.slice (some ⟨g12,0,none⟩) p0.nodes.length p0.nodes.length),(tailV 1 a18 a20 (v21.map i64))] false),((some g12),.cells (flatC (v17.map n8)) false),(a18,.cells (a19++flatC (v21.map i64)) false)] h∧True) (fun ((v17,v21),(a18,a19,a20))=>[(1,((encL 2 encAsg) p1)),(2,(FP (encCirc p0))),(10,(.pointer (some ⟨g14,0,none⟩)))]) rfl (fun hm'=>?_) ?_
   ·replace hm:=hm'
    apply Cs;(conv=>whnf);repeat(first|apply Cs|apply Hs|apply Hx);conv=>whnf
    refine⟨_,(rfl:aread _ _ _ _=some _),?_⟩;(conv=>whnf);repeat(first|apply Hs|apply Hx);conv=>whnf
    refine lenM (s:=4) (enc:=encNode) (l:=p0.nodes) rfl rfl ?_;(conv=>whnf);repeat(first|apply Cs|apply Hs|apply Hx);conv=>whnf
    refine loopWK hM (by kernel_rfl) (nn:=125) (S:=((List Nat)×(List Nat)×Nat)) (σ:=((List Nat)×(List Nat)×Nat)×(Option Nat×(List Value)×Nat)) (fun s=>s.1) (fun ((v25,v29,v30),(a26,a27,a28)) h=>(a26=none→v29=[])∧(a27.length=a28)∧Own vars h0 [((some g14),.cells [((encL 4 encNode) p0.nodes),((encL 1 Value.string) p0.names),((encL 3 encMem) p0.mems),((encL 1 i64) p0.outs),((encL 1 (encL 2 encLn)) r11),(.slice (some ⟨g12,0,none⟩) p0.nodes.length p0.nodes.length),(tailV 1 a26 a28 (v29.map i64))] false),((some g12),.cells (flatC (v25.map n8)) false),(a26,.cells (a27++flatC (v29.map i64)) false)] h∧True) (fun ((v25,v29,v30),(a26,a27,a28))=>[(1,((encL 2 encAsg) p1)),(2,(FP (encCirc p0))),(10,(.pointer (some ⟨g14,0,none⟩))),(55,(i64 p0.nodes.length)),(56,(i64 v30))]) rfl (((List.replicate p0.nodes.length (0:Nat)),([]:List Nat),0),(none,[],0)) hm ⟨(fun _=>rfl),rfl,(O.sel [0,2,1] (by decide)),trivial⟩ ⟨VLe.refl _ _,VLe.refl _ _,VLe.refl _ _,VLe.refl _ _,VLe.refl _ _,trivial⟩ ?_
    clear hm;rintro⟨⟨v25,v29,v30⟩,⟨a26,a27,a28⟩⟩ nx33 base h hm ⟨ha31,hp32,O,_⟩
    ((conv=>whnf);repeat(first|apply Cs|apply Hs|apply Hx);conv=>whnf)
    refine⟨_,rfl,fun hc=>?_,fun hc=>?_⟩
    ·replace hm:=hm.1 hc
     apply Cs;(conv=>whnf);repeat(first|apply Cs|apply Hs|apply Hx);conv=>whnf
     refine⟨_,loadK rfl (O.at (.head _)) rfl rfl,?_⟩;(conv=>whnf);repeat(first|apply Hs|apply Hx);conv=>whnf
     obtain⟨hj,x34,hx34,hm⟩:=hm
     refine indexK (s:=1) (j:=v30) rfl rfl rfl rfl hj ?_;(conv=>whnf);repeat(first|apply Hs|apply Hx);conv=>whnf
     refine O.store (n:=1) (.tail _ (.head _)) rfl rfl rfl rfl (el_le (enc:=n8) (s:=1) (k:=0) (n:=1) (fun _=>rfl) (lt_of_get hx34) (lbE rfl)) rfl (splice_all (enc:=n8) (s:=1) (fun _=>rfl) (lt_of_get hx34) (x:=2) rfl) fun h O=>?_;(conv=>whnf);repeat(first|apply Cs|apply Hs|apply Hx);conv=>whnf
     refine⟨_,loadK rfl (O.at (.head _)) rfl rfl,?_⟩;(conv=>whnf);repeat(first|apply Hs|apply Hx);conv=>whnf
     refine NewG.frz rfl ?_;(conv=>whnf);repeat(first|apply Hs|apply Hx);conv=>whnf
     refine Own.appendT (enc:=i64) (l:=v29) (new:=([v30]:(List Nat))) (s:=1) (b:=8) hp32 O (.tail _ (.tail _ (.head _))) ha31 rfl rfl rfl rfl rfl rfl rfl rfl (YOk.fl rfl) (fun _=>rfl) (fun _=>rfl) (by decide) hm.1 fun a35 q37 o38 h hp39 ha36 O=>?_;(conv=>whnf);repeat(first|apply Hs|apply Hx);conv=>whnf
     replace hm:=hm.2
     refine O.store (n:=1) (cs':=[((encL 4 encNode) p0.nodes),((encL 1 Value.string) p0.names),((encL 3 encMem) p0.mems),((encL 1 i64) p0.outs),((encL 1 (encL 2 encLn)) r11),(.slice (some ⟨g12,0,none⟩) p0.nodes.length p0.nodes.length),(tailV 1 a35 o38 ((v29++([v30]:(List Nat))).map i64))]) (.head _) rfl rfl rfl rfl (lbE rfl) rfl rfl fun h O=>?_;(conv=>whnf);repeat(first|apply Cs|apply Hs|apply Hx);conv=>whnf
     refine⟨_,addK (a:=v30) (b:=1) rfl rfl hm.1,?_⟩;(conv=>whnf);repeat(first|apply Hs|apply Hx);conv=>whnf
     replace hm:=hm.2
     exact⟨(((v25.set v30 2),(v29++([v30]:(List Nat))),(v30+1)),(a35,q37,o38)),hm,⟨ha36,hp39,O,trivial⟩,VLe.refl _ _,VLe.refl _ _,VLe.refl _ _,VLe.refl _ _,VLe.refl _ _,trivial⟩
    ·replace hm:=hm.2 hc
     apply Cs;(conv=>whnf);repeat(first|apply Cs|apply Hs|apply Hx);conv=>whnf
     exact⟨((v25,v29),(a26,a27,a28)),hm,⟨ha31,hp32,O,trivial⟩,VLe.refl _ _,VLe.refl _ _,VLe.refl _ _,trivial⟩
   ·clear hm;rintro⟨⟨v17,v21⟩,⟨a18,a19,a20⟩⟩ base h hm ⟨ha22,hp23,O,_⟩
    conv=>whnf
    refine CodeS.joinWS hm (nn:=125) (σ:=((List Nat)×(List Nat))×(Option Nat×(List Value)×Nat)) (fun s=>s.1) (fun ((v40,v44),(a41,a42,a43)) h=>(a41=none→v44=[])∧(a42.length=a43)∧Own vars h0 [((some g14),.cells [((encL 4 encNode) p0.nodes),((encL 1 Value.string) p0.names),((encL 3 encMem) p0.mems),((encL 1 i64) p0.outs),((encL 1 (encL 2 encLn)) r11),(.slice (some ⟨g12,0,none⟩) p0.nodes.length p0.nodes.length),(tailV 1 a41 a43 (v44.map i64))] false),((some g12),.cells (flatC (v40.map n8)) false),(a41,.cells (a42++flatC (v44.map i64)) false)] h∧True) (fun ((v40,v44),(a41,a42,a43))=>[(2,(FP (encCirc p0))),(10,(.pointer (some ⟨g14,0,none⟩)))]) rfl (fun hm'=>?_) ?_
    ·replace hm:=hm'
     apply Cs;(conv=>whnf);repeat(first|apply Cs|apply Hs|apply Hx);conv=>whnf
     refine lenM (s:=2) (enc:=encAsg) (l:=p1) rfl rfl ?_;(conv=>whnf);repeat(first|apply Cs|apply Hs|apply Hx);conv=>whnf
     refine loopWK hM (by kernel_rfl) (nn:=125) (S:=((List Nat)×(List Nat)×Nat)) (σ:=((List Nat)×(List Nat)×Nat)×(Option Nat×(List Value)×Nat)) (fun s=>s.1) (fun ((v48,v52,v53),(a49,a50,a51)) h=>(a49=none→v52=[])∧(a50.length=a51)∧Own vars h0 [((some g14),.cells [((encL 4 encNode) p0.nodes),((encL 1 Value.string) p0.names),((encL 3 encMem) p0.mems),((encL 1 i64) p0.outs),((encL 1 (encL 2 encLn)) r11),(.slice (some ⟨g12,0,none⟩) p0.nodes.length p0.nodes.length),(tailV 1 a49 a51 (v52.map i64))] false),((some g12),.cells (flatC (v48.map n8)) false),(a49,.cells (a50++flatC (v52.map i64)) false)] h∧True) (fun ((v48,v52,v53),(a49,a50,a51))=>[(2,(FP (encCirc p0))),(10,(.pointer (some ⟨g14,0,none⟩))),(76,((encL 2 encAsg) p1)),(77,(i64 p1.length)),(78,(i64 v53))]) rfl ((v17,v21,0),(a18,a19,a20)) hm ⟨ha22,hp23,O,trivial⟩ ⟨VLe.refl _ _,VLe.refl _ _,VLe.refl _ _,VLe.refl _ _,VLe.refl _ _,trivial⟩ ?_
     clear hm;rintro⟨⟨v48,v52,v53⟩,⟨a49,a50,a51⟩⟩ nx56 base h hm ⟨ha54,hp55,O,_⟩
     ((conv=>whnf);repeat(first|apply Cs|apply Hs|apply Hx);conv=>whnf)
     refine⟨_,rfl,fun hc=>?_,fun hc=>?_⟩
     ·replace hm:=hm.1 hc
      apply Cs;(conv=>whnf);repeat(first|apply Cs|apply Hs|apply Hx);conv=>whnf
      obtain⟨x57,hx57,hm⟩:=hm
      refine flAtM (s:=2) (enc:=encAsg) (j:=v53) rfl rfl rfl rfl hx57 ?_;(conv=>whnf);repeat(first|apply Hs|apply Hx);conv=>whnf
      refine⟨_,(rfl:aread _ _ _ _=some _),?_⟩;(conv=>whnf);repeat(first|apply Hs|apply Hx);conv=>whnf
      refine O.new (anew_alloc (l:=[(i64 0),(n8 0)]) rfl rfl rfl) fun g58 h O=>?_;(conv=>whnf);repeat(first|apply Hs|apply Hx);conv=>whnf
      refine O.store (n:=2) (cs':=[(i64 x57.net),(n8 x57.value)]) (.head _) rfl rfl rfl rfl (lbE rfl) rfl rfl fun h O=>?_;(conv=>whnf);repeat(first|apply Cs|apply Hs|apply Hx);conv=>whnf
      refine⟨_,loadK rfl (O.at (.head _)) rfl rfl,?_⟩;(conv=>whnf);repeat(first|apply Hs|apply Hx);conv=>whnf
      refine⟨_,loadK rfl (O.at (.head _)) rfl rfl,?_⟩;(conv=>whnf);repeat(first|apply Hs|apply Hx);conv=>whnf
      obtain⟨_,h,hcall,r60,x61,x65,a62,a63,a64,hm,rfl,ha66,hp67,O,_⟩:=work_put_walk hm ha54 hp55 (O.sel [1,2,3,0] (by decide))
      refine⟨_,_,hcall,?_⟩;(conv=>whnf);repeat(first|apply Cs|apply Hs|apply Hx);conv=>whnf
      refine⟨_,rfl,fun hc=>?_,fun hc=>?_⟩
      ·replace hm:=hm.1 hc
       apply Cs;(conv=>whnf);repeat(first|apply Cs|apply Hs|apply Hx);conv=>whnf
       exact⟨([],false,0),hm,O.ext,fun h2 F=>VLe.tup (LLe.cons (VLe.nil _ _) (LLe.cons (VLe.refl _ _) (LLe.cons (VLe.refl _ _) (LLe.nil _))))⟩
      ·replace hm:=hm.2 hc
       apply Cs;(conv=>whnf);repeat(first|apply Cs|apply Hs|apply Hx);conv=>whnf
       refine⟨_,addK (a:=v53) (b:=1) rfl rfl hm.1,?_⟩;(conv=>whnf);repeat(first|apply Hs|apply Hx);conv=>whnf
       replace hm:=hm.2
       exact⟨((x61,x65,(v53+1)),(a62,a63,a64)),hm,⟨ha66,hp67,(O.sel [0,1,2] (by decide)),trivial⟩,VLe.refl _ _,VLe.refl _ _,VLe.refl _ _,VLe.refl _ _,VLe.refl _ _,trivial⟩
     ·replace hm:=hm.2 hc
      apply Cs;(conv=>whnf);repeat(first|apply Cs|apply Hs|apply Hx);conv=>whnf
      exact⟨((v48,v52),(a49,a50,a51)),hm,⟨ha54,hp55,O,trivial⟩,VLe.refl _ _,VLe.refl _ _,trivial⟩
    ·clear hm;rintro⟨⟨v40,v44⟩,⟨a41,a42,a43⟩⟩ base h hm ⟨ha45,hp46,O,_⟩
     conv=>whnf
     apply Cs;conv=>whnf
     apply Cs;conv=>whnf
     refine CodeS.joinWS hm (nn:=125) (σ:=((List Nat)×(List Nat))×(Option Nat×(List Value)×Nat)) (fun s=>s.1) (fun ((v68,v72),(a69,a70,a71)) h=>(a69=none→v72=[])∧(a70.length=a71)∧Own vars h0 [((some g14),.cells [((encL 4 encNode) p0.nodes),((encL 1 Value.string) p0.names),((encL 3 encMem) p0.mems),((encL 1 i64) p0.outs),((encL 1 (encL 2 encLn)) r11),(.slice (some ⟨g12,0,none⟩) p0.nodes.length p0.nodes.length),(tailV 1 a69 a71 (v72.map i64))] false),((some g12),.cells (flatC (v68.map n8)) false),(a69,.cells (a70++flatC (v72.map i64)) false)] h∧True) (fun ((v68,v72),(a69,a70,a71))=>[(10,(.pointer (some ⟨g14,0,none⟩)))]) rfl (fun hm'=>?_) ?_
     ·replace hm:=hm'
      apply Cs;(conv=>whnf);repeat(first|apply Cs|apply Hs|apply Hx);conv=>whnf
      refine loopWK hM (by kernel_rfl) (nn:=125) (S:=((List Nat)×(List Nat))) (σ:=((List Nat)×(List Nat))×(Option Nat×(List Value)×Nat)) (fun s=>s.1) (fun ((v76,v80),(a77,a78,a79)) h=>(a77=none→v80=[])∧(a78.length=a79)∧Own vars h0 [((some g14),.cells [((encL 4 encNode) p0.nodes),((encL 1 Value.string) p0.names),((encL 3 encMem) p0.mems),((encL 1 i64) p0.outs),((encL 1 (encL 2 encLn)) r11),(.slice (some ⟨g12,0,none⟩) p0.nodes.length p0.nodes.length),(tailV 1 a77 a79 (v80.map i64))] false),((some g12),.cells (flatC (v76.map n8)) false),(a77,.cells (a78++flatC (v80.map i64)) false)] h∧True) (fun ((v76,v80),(a77,a78,a79))=>[(2,(FP (encCirc p0))),(10,(.pointer (some ⟨g14,0,none⟩)))]) rfl ((v40,v44),(a41,a42,a43)) hm ⟨ha45,hp46,O,trivial⟩ ⟨VLe.refl _ _,VLe.refl _ _,trivial⟩ ?_
      clear hm;rintro⟨⟨v76,v80⟩,⟨a77,a78,a79⟩⟩ nx83 base h hm ⟨ha81,hp82,O,_⟩
      ((conv=>whnf);repeat(first|apply Cs|apply Hs|apply Hx);conv=>whnf)
      refine⟨_,loadK rfl (O.at (.head _)) rfl rfl,?_⟩;(conv=>whnf);repeat(first|apply Hs|apply Hx);conv=>whnf
      refine lenG (enc:=i64) (l:=v80) rfl rfl ?_;(conv=>whnf);repeat(first|apply Cs|apply Hs|apply Hx);conv=>whnf
      refine⟨_,rfl,fun hc=>?_,fun hc=>?_⟩
      ·replace hm:=hm.1 hc
       apply Cs;(conv=>whnf);repeat(first|apply Cs|apply Hs|apply Hx);conv=>whnf
       refine⟨_,loadK rfl (O.at (.head _)) rfl rfl,?_⟩;(conv=>whnf);repeat(first|apply Hs|apply Hx);conv=>whnf
       obtain⟨x84,hx84,hm⟩:=hm
       obtain⟨g85,rfl⟩:=addr_some ha81 hx84
       refine tailAtK (s:=1) (enc:=i64) (o:=a79) (j:=0) rfl rfl rfl rfl hx84 ?_;(conv=>whnf);repeat(first|apply Hs|apply Hx);conv=>whnf
       refine⟨_,loadK rfl (O.at (.tail _ (.tail _ (.head _)))) rfl (tail_cell (enc:=i64) (s:=1) (k:=0) hp82 (fun _=>rfl) hx84 rfl),?_⟩;(conv=>whnf);repeat(first|apply Cs|apply Hs|apply Hx);conv=>whnf
       refine⟨_,loadK rfl (O.at (.head _)) rfl rfl,?_⟩;(conv=>whnf);repeat(first|apply Hs|apply Hx);conv=>whnf
       refine tailFromK (s:=1) (enc:=i64) (l:=v80) (o:=a79) (k:=1) rfl rfl rfl rfl hm.1 ?_;(conv=>whnf);repeat(first|apply Hs|apply Hx);conv=>whnf
       rw[tail_split (enc:=i64) (l:=v80) 1] at O
       have hp86:=tail_len (enc:=i64) (l:=v80) (s:=1) (k:=1) (fun _=>rfl) hp82 hm.1
       replace hm:=hm.2
       refine O.store (n:=1) (cs':=[((encL 4 encNode) p0.nodes),((encL 1 Value.string) p0.names),((encL 3 encMem) p0.mems),((encL 1 i64) p0.outs),((encL 1 (encL 2 encLn)) r11),(.slice (some ⟨g12,0,none⟩) p0.nodes.length p0.nodes.length),(tailV 1 (some g85) (a79+1*1) ((v80.drop 1).map i64))]) (.head _) rfl rfl rfl rfl (lbE rfl) rfl rfl fun h O=>?_;(conv=>whnf);repeat(first|apply Cs|apply Hs|apply Hx);conv=>whnf
       refine⟨_,(rfl:aread _ _ _ _=some _),?_⟩;(conv=>whnf);repeat(first|apply Hs|apply Hx);conv=>whnf
       obtain⟨x87,hx87,hm⟩:=hm
       refine flAtM (s:=4) (enc:=encNode) (j:=x84) rfl rfl rfl rfl hx87 ?_;(conv=>whnf);repeat(first|apply Hs|apply Hx);conv=>whnf
       refine⟨_,(rfl:aread _ _ _ _=some _),?_⟩;(conv=>whnf);repeat(first|apply Hs|apply Hx);conv=>whnf
       obtain⟨r88,hm,hcall⟩:=implies_free_walk hm O.has
       refine⟨_,_,hcall,?_⟩;(conv=>whnf);repeat(first|apply Cs|apply Hs|apply Hx);conv=>whnf
       refine⟨_,rfl,fun hc=>?_,fun hc=>?_⟩
       ·replace hm:=hm.1 hc
        apply Cs;(conv=>whnf);repeat(first|apply Cs|apply Hs|apply Hx);conv=>whnf
        exact⟨((v76,(v80.drop 1)),((some g85),(a78++flatC ((v80.take 1).map i64)),(a79+1*1))),hm,⟨someNone,hp86,O,trivial⟩,VLe.refl _ _,VLe.refl _ _,trivial⟩
       ·replace hm:=hm.2 hc
        apply Cs;(conv=>whnf);repeat(first|apply Cs|apply Hs|apply Hx);conv=>whnf
        obtain⟨_,h,hcall,r89,x90,x94,a91,a92,a93,hm,rfl,ha95,hp96,O,_⟩:=work_gate_walk hm someNone hp86 O
        refine⟨_,_,hcall,?_⟩;(conv=>whnf);repeat(first|apply Cs|apply Hs|apply Hx);conv=>whnf
        refine⟨_,rfl,fun hc=>?_,fun hc=>?_⟩
        ·replace hm:=hm.1 hc
         apply Cs;(conv=>whnf);repeat(first|apply Cs|apply Hs|apply Hx);conv=>whnf
         exact⟨([],false,0),hm,O.ext,fun h2 F=>VLe.tup (LLe.cons (VLe.nil _ _) (LLe.cons (VLe.refl _ _) (LLe.cons (VLe.refl _ _) (LLe.nil _))))⟩
        ·replace hm:=hm.2 hc
         apply Cs;(conv=>whnf);repeat(first|apply Cs|apply Hs|apply Hx);conv=>whnf
         exact⟨((x90,x94),(a91,a92,a93)),hm,⟨ha95,hp96,O,trivial⟩,VLe.refl _ _,VLe.refl _ _,trivial⟩
      ·replace hm:=hm.2 hc
       apply Cs;(conv=>whnf);repeat(first|apply Cs|apply Hs|apply Hx);conv=>whnf
       exact⟨((v76,v80),(a77,a78,a79)),hm,⟨ha81,hp82,O,trivial⟩,VLe.refl _ _,trivial⟩
     ·clear hm;rintro⟨⟨v68,v72⟩,⟨a69,a70,a71⟩⟩ base h hm ⟨ha73,hp74,O,_⟩
      ((conv=>whnf);repeat(first|apply Cs|apply Hs|apply Hx);conv=>whnf)
      refine⟨_,loadK rfl (O.at (.head _)) rfl rfl,?_⟩;(conv=>whnf);repeat(first|apply Cs|apply Hs|apply Hx);conv=>whnf
      obtain⟨hn97,hm⟩:=hm
      exact⟨(v68,true,0),hm,O.ext,fun h2 F=>VLe.tup (LLe.cons (O.flatL F (Nat.le_refl _) (.tail _ (.head _)) (fun _=>rfl) hn97) (LLe.cons (VLe.refl _ _) (LLe.cons (VLe.refl _ _) (LLe.nil _))))⟩
def probecardlaw24_Free_wp (p0:Circ) (K:(List Nat)→Prop):Prop :=
 joinW (α:=(List Nat)) (fun k6=>loopW (S:=((List Nat)×Nat)) (fun (v8,v9) nx11=>((ltN v9 p0.nodes.length)=true→joinW (α:=(List Nat)) (fun k15=>joinW (α:=Bool) (fun k18=>∃ x19,p0.nodes[v9]?=some x19∧((eqN x19.kind 0)=true→k18 true)∧((eqN x19.kind 0)=false→∃ x20,p0.nodes[v9]?=some x20∧k18 (eqN x20.kind 14))) (fun v16=>(v16=true→(v8.length+([v9]:(List Nat)).length)*8≤2 ^ 47∧k15 (v8++([v9]:(List Nat))))∧(v16=false→k15 v8))) (fun v13=>v9+1<2 ^ 63∧nx11 (v13,(v9+1))))∧((ltN v9 p0.nodes.length)=false→k6 v8)) (([]:List Nat),0)) (fun v4=>K v4)
theorem probecardlaw24_Free_walk {p0:Circ}{K:(List Nat)→Prop} (hm:probecardlaw24_Free_wp p0 K) {h0:Heap} (hB:HasB vars h0):∃ r,K r∧CallD Tryz.prog NG 32 ⟨[encCirc p0]⟩ h0 ((encL 1 i64) r) h0:=by
 unfold probecardlaw24_Free_wp at hm
 refine fnW hM Tryz.func32 rfl (hP _ _ rfl Tryz.func32) (lbE rfl) hB (enc:=(encL 1 i64)) (fun r=>pureL (fun _=>AllPure.cons (PureV.flat rfl) AllPure.nil)) fun O=>?_;conv=>whnf
 apply Cs;(conv=>whnf);repeat(first|apply Cs|apply Hs|apply Hx);conv=>whnf
 refine NewG.frz rfl ?_;(conv=>whnf);repeat(first|apply Hs|apply Hx);conv=>whnf
 have O:=O.addNil (.cells (flatC ((([]:List Nat)).map i64)) false)
 apply Cs;conv=>whnf
 apply Cs;(conv=>whnf);repeat(first|apply Hs|apply Hx);conv=>whnf
 have O:=O.addNil (.cells (flatC ((([]:List Nat)).map i64)) false)
 refine CodeS.joinWS hm (nn:=33) (σ:=(List Nat)×Option Nat) (fun s=>s.1) (fun (v4,a3) h=>(a3=none→v4=[])∧Own vars h0 [(a3,.cells (flatC (v4.map i64)) false)] h∧True) (fun (v4,a3)=>[(3,(growV 1 a3 (v4.map i64)))]) rfl (fun hm'=>?_) ?_
 ·replace hm:=hm'
  apply Cs;(conv=>whnf);repeat(first|apply Cs|apply Hs|apply Hx);conv=>whnf
  refine loopWK hM (by kernel_rfl) (nn:=33) (S:=((List Nat)×Nat)) (σ:=((List Nat)×Nat)×Option Nat) (fun s=>s.1) (fun ((v8,v9),a7) h=>(a7=none→v8=[])∧Own vars h0 [(a7,.cells (flatC (v8.map i64)) false)] h∧True) (fun ((v8,v9),a7)=>[(1,(FP (encCirc p0))),(3,(growV 1 a7 (v8.map i64))),(4,(i64 v9))]) rfl ((([]:List Nat),0),none) hm ⟨(fun _=>rfl),(O.sel [0] (by decide)),trivial⟩ ⟨VLe.refl _ _,VLe.refl _ _,VLe.refl _ _,trivial⟩ ?_
  clear hm;rintro⟨⟨v8,v9⟩,a7⟩ nx11 base h hm ⟨ha10,O,_⟩
  ((conv=>whnf);repeat(first|apply Cs|apply Hs|apply Hx);conv=>whnf)
  refine⟨_,(rfl:aread _ _ _ _=some _),?_⟩;(conv=>whnf);repeat(first|apply Hs|apply Hx);conv=>whnf
  refine lenM (s:=4) (enc:=encNode) (l:=p0.nodes) rfl rfl ?_;(conv=>whnf);repeat(first|apply Cs|apply Hs|apply Hx);conv=>whnf
  refine⟨_,rfl,fun hc=>?_,fun hc=>?_⟩
  ·replace hm:=hm.1 hc
   apply Cs;conv=>whnf
   refine CodeS.joinWS hm (nn:=33) (σ:=(List Nat)×Option Nat) (fun s=>s.1) (fun (v13,a12) h=>(a12=none→v13=[])∧Own vars h0 [(a12,.cells (flatC (v13.map i64)) false)] h∧True) (fun (v13,a12)=>[(1,(FP (encCirc p0))),(3,(growV 1 a12 (v13.map i64))),(4,(i64 v9))]) rfl (fun hm'=>?_) ?_
   ·replace hm:=hm'
    apply Cs;conv=>whnf
    refine CodeS.joinWS hm (nn:=33) (σ:=Bool×Unit) (fun s=>s.1) (fun (v16,_) h=>(a7=none→v8=[])∧Own vars h0 [(a7,.cells (flatC (v8.map i64)) false)] h∧True) (fun (v16,_)=>[(1,(FP (encCirc p0))),(3,(growV 1 a7 (v8.map i64))),(4,(i64 v9)),(27,(.bool v16))]) rfl (fun hm'=>?_) ?_
    ·replace hm:=hm'
     apply Cs;(conv=>whnf);repeat(first|apply Cs|apply Hs|apply Hx);conv=>whnf
     refine⟨_,(rfl:aread _ _ _ _=some _),?_⟩;(conv=>whnf);repeat(first|apply Hs|apply Hx);conv=>whnf
     obtain⟨x19,hx19,hm⟩:=hm
     refine flAtM (s:=4) (enc:=encNode) (j:=v9) rfl rfl rfl rfl hx19 ?_;(conv=>whnf);repeat(first|apply Hs|apply Hx);conv=>whnf
     refine⟨_,(rfl:aread _ _ _ _=some _),?_⟩;(conv=>whnf);repeat(first|apply Hs|apply Hx);conv=>whnf
     refine⟨_,rfl,fun hc=>?_,fun hc=>?_⟩
     ·replace hm:=hm.1 hc;(conv=>whnf);repeat(first|apply Hs|apply Hx);conv=>whnf
      exact⟨(true,()),hm,⟨ha10,O,trivial⟩,VLe.refl _ _,VLe.refl _ _,VLe.refl _ _,VLe.refl _ _,trivial⟩
     ·replace hm:=hm.2 hc;(conv=>whnf);repeat(first|apply Hs|apply Hx);conv=>whnf
      refine⟨_,(rfl:aread _ _ _ _=some _),?_⟩;(conv=>whnf);repeat(first|apply Hs|apply Hx);conv=>whnf
      obtain⟨x20,hx20,hm⟩:=hm
      refine flAtM (s:=4) (enc:=encNode) (j:=v9) rfl rfl rfl rfl hx20 ?_;(conv=>whnf);repeat(first|apply Hs|apply Hx);conv=>whnf
      refine⟨_,(rfl:aread _ _ _ _=some _),?_⟩;(conv=>whnf);repeat(first|apply Hs|apply Hx);conv=>whnf
      exact⟨((eqN x20.kind 14),()),hm,⟨ha10,O,trivial⟩,VLe.refl _ _,VLe.refl _ _,VLe.refl _ _,VLe.refl _ _,trivial⟩
    ·clear hm;rintro⟨v16,_⟩ base h hm ⟨ha17,O,_⟩
     ((conv=>whnf);repeat(first|apply Cs|apply Hs|apply Hx);conv=>whnf)
     refine⟨_,rfl,fun hc=>?_,fun hc=>?_⟩
     ·replace hm:=hm.1 hc
      apply Cs;(conv=>whnf);repeat(first|apply Cs|apply Hs|apply Hx);conv=>whnf
      refine NewG.frz rfl ?_;(conv=>whnf);repeat(first|apply Hs|apply Hx);conv=>whnf
      refine O.appendL (enc:=i64) (l:=v8) (new:=([v9]:(List Nat))) (s:=1) (b:=8) (.head _) ha17 rfl rfl rfl rfl rfl rfl rfl rfl (YOk.fl rfl) (fun _=>rfl) (fun _=>rfl) (by decide) hm.1 fun a21 h ha22 O=>?_;(conv=>whnf);repeat(first|apply Hs|apply Hx);conv=>whnf
      replace hm:=hm.2
      exact⟨((v8++([v9]:(List Nat))),a21),hm,⟨ha22,O,trivial⟩,VLe.refl _ _,VLe.refl _ _,VLe.refl _ _,trivial⟩
     ·replace hm:=hm.2 hc
      apply Cs;(conv=>whnf);repeat(first|apply Cs|apply Hs|apply Hx);conv=>whnf
      exact⟨(v8,a7),hm,⟨ha17,O,trivial⟩,VLe.refl _ _,VLe.refl _ _,VLe.refl _ _,trivial⟩
   ·clear hm;rintro⟨v13,a12⟩ base h hm ⟨ha14,O,_⟩
    ((conv=>whnf);repeat(first|apply Cs|apply Hs|apply Hx);conv=>whnf)
    refine⟨_,addK (a:=v9) (b:=1) rfl rfl hm.1,?_⟩;(conv=>whnf);repeat(first|apply Hs|apply Hx);conv=>whnf
    replace hm:=hm.2
    exact⟨((v13,(v9+1)),a12),hm,⟨ha14,O,trivial⟩,VLe.refl _ _,VLe.refl _ _,VLe.refl _ _,trivial⟩
  ·replace hm:=hm.2 hc
   apply Cs;(conv=>whnf);repeat(first|apply Cs|apply Hs|apply Hx);conv=>whnf
   exact⟨(v8,a7),hm,⟨ha10,O,trivial⟩,VLe.refl _ _,trivial⟩
 ·clear hm;rintro⟨v4,a3⟩ base h hm ⟨ha5,O,_⟩
  ((conv=>whnf);repeat(first|apply Cs|apply Hs|apply Hx);conv=>whnf)
  exact⟨v4,hm,O.ext,fun h2 F=>O.grownL F (Nat.le_refl _) (.head _) ha5 (fun _=>rfl)⟩
def probecardlaw24_Given_wp (p0:Nat) (p1:(List U2)) (K:(List Asg)→Prop):Prop :=
 joinW (α:=(List Asg)) (fun k6=>loopW (S:=((List Asg)×Nat)) (fun (v8,v9) nx11=>joinW (α:=Bool) (fun k14=>((ltN v9 p1.length)=true→k14 (ltN 0 p0))∧((ltN v9 p1.length)=false→k14 false)) (fun v12=>(v12=true→∃ x15,p1[v9]?=some x15∧x15.a<256∧0<p0∧∃ x16,p1[v9]?=some x16∧0<2∧(v8.length+([(⟨(x15.a%p0),(x16.b%2)⟩:Asg)]:(List Asg)).length)*16≤2 ^ 47∧v9+1<2 ^ 63∧nx11 ((v8++([(⟨(x15.a%p0),(x16.b%2)⟩:Asg)]:(List Asg))),(v9+1)))∧(v12=false→k6 v8))) (([]:List Asg),0)) (fun v4=>K v4)
theorem probecardlaw24_Given_walk {p0:Nat}{p1:(List U2)}{K:(List Asg)→Prop} (hm:probecardlaw24_Given_wp p0 p1 K) {h0:Heap} (hB:HasB vars h0):∃ r,K r∧CallD Tryz.prog NG 13 ⟨[i64 p0,(encL 2 encU2) p1]⟩ h0 ((encL 2 encAsg) r) h0:=by
 unfold probecardlaw24_Given_wp at hm
 refine fnW hM Tryz.func13 rfl (hP _ _ rfl Tryz.func13) (lbE rfl) hB (enc:=(encL 2 encAsg)) (fun r=>pureL (fun _=>pure_asgC _)) fun O=>?_;conv=>whnf
 apply Cs;conv=>whnf
 apply Cs;(conv=>whnf);repeat(first|apply Hs|apply Hx);conv=>whnf
 have O:=O.addNil (.cells (flatC ((([]:List Asg)).map encAsg)) false)
 apply Cs;conv=>whnf
 apply Cs;(conv=>whnf);repeat(first|apply Hs|apply Hx);conv=>whnf
 have O:=O.addNil (.cells (flatC ((([]:List Asg)).map encAsg)) false)
 refine CodeS.joinWS hm (nn:=36) (σ:=(List Asg)×Option Nat) (fun s=>s.1) (fun (v4,a3) h=>(a3=none→v4=[])∧Own vars h0 [(a3,.cells (flatC (v4.map encAsg)) false)] h∧True) (fun (v4,a3)=>[(5,(growV 2 a3 (v4.map encAsg)))]) rfl (fun hm'=>?_) ?_
 ·replace hm:=hm'
  apply Cs;(conv=>whnf);repeat(first|apply Cs|apply Hs|apply Hx);conv=>whnf
  refine loopWK hM (by kernel_rfl) (nn:=36) (S:=((List Asg)×Nat)) (σ:=((List Asg)×Nat)×Option Nat) (fun s=>s.1) (fun ((v8,v9),a7) h=>(a7=none→v8=[])∧Own vars h0 [(a7,.cells (flatC (v8.map encAsg)) false)] h∧True) (fun ((v8,v9),a7)=>[(0,(i64 p0)),(1,((encL 2 encU2) p1)),(5,(growV 2 a7 (v8.map encAsg))),(6,(i64 v9))]) rfl ((([]:List Asg),0),none) hm ⟨(fun _=>rfl),(O.sel [0] (by decide)),trivial⟩ ⟨VLe.refl _ _,VLe.refl _ _,VLe.refl _ _,VLe.refl _ _,trivial⟩ ?_
  clear hm;rintro⟨⟨v8,v9⟩,a7⟩ nx11 base h hm ⟨ha10,O,_⟩
  conv=>whnf
  apply Cs;conv=>whnf
  refine CodeS.joinWS hm (nn:=36) (σ:=Bool×Unit) (fun s=>s.1) (fun (v12,_) h=>(a7=none→v8=[])∧Own vars h0 [(a7,.cells (flatC (v8.map encAsg)) false)] h∧True) (fun (v12,_)=>[(0,(i64 p0)),(1,((encL 2 encU2) p1)),(5,(growV 2 a7 (v8.map encAsg))),(6,(i64 v9)),(14,(.bool v12))]) rfl (fun hm'=>?_) ?_
  ·replace hm:=hm'
   apply Cs;(conv=>whnf);repeat(first|apply Cs|apply Hs|apply Hx);conv=>whnf
   refine lenM (s:=2) (enc:=encU2) (l:=p1) rfl rfl ?_;(conv=>whnf);repeat(first|apply Hs|apply Hx);conv=>whnf
   refine⟨_,rfl,fun hc=>?_,fun hc=>?_⟩
   ·replace hm:=hm.1 hc;(conv=>whnf);repeat(first|apply Hs|apply Hx);conv=>whnf
    exact⟨((ltN 0 p0),()),hm,⟨ha10,O,trivial⟩,VLe.refl _ _,VLe.refl _ _,VLe.refl _ _,VLe.refl _ _,VLe.refl _ _,trivial⟩
   ·replace hm:=hm.2 hc;(conv=>whnf);repeat(first|apply Hs|apply Hx);conv=>whnf
    exact⟨(false,()),hm,⟨ha10,O,trivial⟩,VLe.refl _ _,VLe.refl _ _,VLe.refl _ _,VLe.refl _ _,VLe.refl _ _,trivial⟩
  ·clear hm;rintro⟨v12,_⟩ base h hm ⟨ha13,O,_⟩
   ((conv=>whnf);repeat(first|apply Cs|apply Hs|apply Hx);conv=>whnf)
   refine⟨_,rfl,fun hc=>?_,fun hc=>?_⟩
   ·replace hm:=hm.1 hc
    apply Cs;(conv=>whnf);repeat(first|apply Cs|apply Hs|apply Hx);conv=>whnf
    obtain⟨x15,hx15,hm⟩:=hm
    refine flAtM (s:=2) (enc:=encU2) (j:=v9) rfl rfl rfl rfl hx15 ?_;(conv=>whnf);repeat(first|apply Hs|apply Hx);conv=>whnf
    refine idxR rfl ?_;(conv=>whnf);repeat(first|apply Hs|apply Hx);conv=>whnf
    refine⟨_,(rfl:aread _ _ _ _=some _),?_⟩;(conv=>whnf);repeat(first|apply Hs|apply Hx);conv=>whnf
    refine⟨.inl rfl,?_⟩;(conv=>whnf);repeat(first|apply Hs|apply Hx);conv=>whnf
    refine⟨_,convIntK (a:=Int.ofNat x15.a) rfl rfl rfl (wrapI64 (Nat.lt_of_lt_of_le hm.1 (by decide))),?_⟩;(conv=>whnf);repeat(first|apply Hs|apply Hx);conv=>whnf
    refine⟨.inl rfl,?_⟩;(conv=>whnf);repeat(first|apply Hs|apply Hx);conv=>whnf
    replace hm:=hm.2
    refine⟨_,remK (a:=x15.a) (b:=p0) rfl rfl hm.1,?_⟩;(conv=>whnf);repeat(first|apply Hs|apply Hx);conv=>whnf
    replace hm:=hm.2
    obtain⟨x16,hx16,hm⟩:=hm
    refine flAtM (s:=2) (enc:=encU2) (j:=v9) rfl rfl rfl rfl hx16 ?_;(conv=>whnf);repeat(first|apply Hs|apply Hx);conv=>whnf
    refine idxR rfl ?_;(conv=>whnf);repeat(first|apply Hs|apply Hx);conv=>whnf
    refine⟨_,(rfl:aread _ _ _ _=some _),?_⟩;(conv=>whnf);repeat(first|apply Hs|apply Hx);conv=>whnf
    refine⟨.inl rfl,?_⟩;(conv=>whnf);repeat(first|apply Hs|apply Hx);conv=>whnf
    refine⟨_,remK (a:=x16.b) (b:=2) rfl rfl hm.1,?_⟩;(conv=>whnf);repeat(first|apply Hs|apply Hx);conv=>whnf
    replace hm:=hm.2
    refine O.buildLX (l:=([(⟨(x15.a%p0),(x16.b%2)⟩:Asg)]:(List Asg))) (enc:=encAsg) (s:=2) (z:=(.agg ⟨[(i64 0),(n8 0)]⟩)) rfl rfl (by kernel_rfl) (by kernel_rfl) rfl rfl rfl rfl (fun _=>rfl) fun g17 h O=>?_;(conv=>whnf);repeat(first|apply Hs|apply Hx);conv=>whnf
    refine O.appendL (enc:=encAsg) (l:=v8) (new:=([(⟨(x15.a%p0),(x16.b%2)⟩:Asg)]:(List Asg))) (s:=2) (b:=16) (.tail _ (.head _)) ha13 rfl rfl rfl rfl rfl rfl rfl rfl (YOk.own (O.at (.head _)) rfl (fun _=>rfl) rfl) (fun _=>rfl) (fun _=>rfl) (by decide) hm.1 fun a19 h ha20 O=>?_;(conv=>whnf);repeat(first|apply Hs|apply Hx);conv=>whnf
    refine⟨.inl rfl,?_⟩;(conv=>whnf);repeat(first|apply Hs|apply Hx);conv=>whnf
    replace hm:=hm.2
    apply Cs;(conv=>whnf);repeat(first|apply Cs|apply Hs|apply Hx);conv=>whnf
    refine⟨_,addK (a:=v9) (b:=1) rfl rfl hm.1,?_⟩;(conv=>whnf);repeat(first|apply Hs|apply Hx);conv=>whnf
    replace hm:=hm.2
    exact⟨(((v8++([(⟨(x15.a%p0),(x16.b%2)⟩:Asg)]:(List Asg))),(v9+1)),a19),hm,⟨ha20,(O.sel [1] (by decide)),trivial⟩,VLe.refl _ _,VLe.refl _ _,VLe.refl _ _,VLe.refl _ _,trivial⟩
   ·replace hm:=hm.2 hc
    apply Cs;(conv=>whnf);repeat(first|apply Cs|apply Hs|apply Hx);conv=>whnf
    exact⟨(v8,a7),hm,⟨ha13,O,trivial⟩,VLe.refl _ _,trivial⟩
 ·clear hm;rintro⟨v4,a3⟩ base h hm ⟨ha5,O,_⟩
  ((conv=>whnf);repeat(first|apply Cs|apply Hs|apply Hx);conv=>whnf)
  exact⟨v4,hm,O.ext,fun h2 F=>O.grownL F (Nat.le_refl _) (.head _) ha5 (fun _=>rfl)⟩
def probecardlaw24_Small_wp (p0:CData) (p1:Nat) (K:(Circ×(List Nat))→Prop):Prop :=
 law24_Plain_wp p0 (fun r3=>probecardlaw24_Free_wp r3 (fun r6=>joinW (α:=Bool) (fun k8=>((ltN 30 r3.nodes.length)=true→k8 true)∧((ltN 30 r3.nodes.length)=false→k8 (ltN p1 r6.length))) (fun v7=>(v7=true→K ((⟨[],[],[],[]⟩:Circ),[]))∧(v7=false→K (r3,r6)))))
theorem probecardlaw24_Small_walk {p0:CData}{p1:Nat}{K:(Circ×(List Nat))→Prop} (hm:probecardlaw24_Small_wp p0 p1 K) {h0:Heap} (hB:HasB vars h0):∃ r,K r∧CallD Tryz.prog NG 11 ⟨[encC p0,i64 p1]⟩ h0 ((fun (r:(Circ×(List Nat)))=>Value.tuple ⟨[encCirc (r.1),(encL 1 i64) (r.2)]⟩) r) h0:=by
 unfold probecardlaw24_Small_wp at hm
 refine fnW hM Tryz.func11 rfl (hP _ _ rfl Tryz.func11) (lbE rfl) hB (enc:=(fun (r:(Circ×(List Nat)))=>Value.tuple ⟨[encCirc (r.1),(encL 1 i64) (r.2)]⟩)) (fun r=>PureV.tup (AllPure.cons (pure_circ _) (AllPure.cons (pureL (fun _=>AllPure.cons (PureV.flat rfl) AllPure.nil)) (AllPure.nil)))) fun O=>?_;conv=>whnf
 apply Cs;(conv=>whnf);repeat(first|apply Cs|apply Hs|apply Hx);conv=>whnf
 refine NewG.frz rfl ?_;(conv=>whnf);repeat(first|apply Hs|apply Hx);conv=>whnf
 refine O.new (anew_alloc (l:=[(.slice none 0 0),(.slice none 0 0),(.slice none 0 0),(.slice none 0 0)]) rfl rfl rfl) fun g1 h O=>?_;(conv=>whnf);repeat(first|apply Hs|apply Hx);conv=>whnf
 apply Cs;(conv=>whnf);repeat(first|apply Cs|apply Hs|apply Hx);conv=>whnf
 refine⟨_,(rfl:aread _ _ _ _=some _),?_⟩;(conv=>whnf);repeat(first|apply Hs|apply Hx);conv=>whnf
 obtain⟨r3,hm,hcall⟩:=law24_Plain_walk hm O.has
 refine⟨_,_,hcall,?_⟩;(conv=>whnf);repeat(first|apply Hs|apply Hx);conv=>whnf
 refine O.new (anew_alloc (l:=[(.slice none 0 0),(.slice none 0 0),(.slice none 0 0),(.slice none 0 0)]) rfl rfl rfl) fun g4 h O=>?_;(conv=>whnf);repeat(first|apply Hs|apply Hx);conv=>whnf
 refine O.store (n:=4) (cs':=[((encL 4 encNode) r3.nodes),((encL 1 Value.string) r3.names),((encL 3 encMem) r3.mems),((encL 1 i64) r3.outs)]) (.head _) rfl rfl rfl rfl (lbE rfl) rfl rfl fun h O=>?_;(conv=>whnf);repeat(first|apply Cs|apply Hs|apply Hx);conv=>whnf
 refine⟨_,loadAggK rfl (O.at (.head _)) rfl rfl (lbE rfl) rfl,?_⟩;(conv=>whnf);repeat(first|apply Hs|apply Hx);conv=>whnf
 obtain⟨r6,hm,hcall⟩:=probecardlaw24_Free_walk hm O.has
 refine⟨_,_,hcall,?_⟩;(conv=>whnf);repeat(first|apply Hs|apply Hx);conv=>whnf
 apply Cs;conv=>whnf
 refine CodeS.joinWS hm (nn:=25) (σ:=Bool×Unit) (fun s=>s.1) (fun (v7,_) h=>Own vars h0 [((some g1),.cells [(.slice none 0 0),(.slice none 0 0),(.slice none 0 0),(.slice none 0 0)] false),((some g4),.cells [((encL 4 encNode) r3.nodes),((encL 1 Value.string) r3.names),((encL 3 encMem) r3.mems),((encL 1 i64) r3.outs)] false)] h∧True) (fun (v7,_)=>[(4,(.pointer (some ⟨g1,0,none⟩))),(6,(.pointer (some ⟨g4,0,none⟩))),(7,((encL 1 i64) r6)),(21,(.bool v7))]) rfl (fun hm'=>?_) ?_
 ·replace hm:=hm'
  apply Cs;(conv=>whnf);repeat(first|apply Cs|apply Hs|apply Hx);conv=>whnf
  refine⟨_,loadK rfl (O.at (.head _)) rfl rfl,?_⟩;(conv=>whnf);repeat(first|apply Hs|apply Hx);conv=>whnf
  refine lenM (s:=4) (enc:=encNode) (l:=r3.nodes) rfl rfl ?_;(conv=>whnf);repeat(first|apply Hs|apply Hx);conv=>whnf
  refine⟨_,rfl,fun hc=>?_,fun hc=>?_⟩
  ·replace hm:=hm.1 hc;(conv=>whnf);repeat(first|apply Hs|apply Hx);conv=>whnf
   exact⟨(true,()),hm,⟨(O.sel [1,0] (by decide)),trivial⟩,VLe.refl _ _,VLe.refl _ _,VLe.refl _ _,VLe.refl _ _,trivial⟩
  ·replace hm:=hm.2 hc;(conv=>whnf);repeat(first|apply Hs|apply Hx);conv=>whnf
   refine lenM (s:=1) (enc:=i64) (l:=r6) rfl rfl ?_;(conv=>whnf);repeat(first|apply Hs|apply Hx);conv=>whnf
   exact⟨((ltN p1 r6.length),()),hm,⟨(O.sel [1,0] (by decide)),trivial⟩,VLe.refl _ _,VLe.refl _ _,VLe.refl _ _,VLe.refl _ _,trivial⟩
 ·clear hm;rintro⟨v7,_⟩ base h hm ⟨O,_⟩
  ((conv=>whnf);repeat(first|apply Cs|apply Hs|apply Hx);conv=>whnf)
  refine⟨_,rfl,fun hc=>?_,fun hc=>?_⟩
  ·replace hm:=hm.1 hc
   apply Cs;(conv=>whnf);repeat(first|apply Cs|apply Hs|apply Hx);conv=>whnf
   refine O.store (n:=4) (cs':=[(.slice none 0 0),(.slice none 0 0),(.slice none 0 0),(.slice none 0 0)]) (.head _) rfl rfl rfl rfl (lbE rfl) rfl rfl fun h O=>?_;(conv=>whnf);repeat(first|apply Cs|apply Hs|apply Hx);conv=>whnf
   refine⟨_,resAggK rfl rfl (O.at (.head _)) rfl rfl (lbE rfl) rfl,?_⟩;conv=>whnf
   exact⟨((⟨[],[],[],[]⟩:Circ),[]),hm,O.ext,fun h2 F=>VLe.tup (LLe.cons (VLe.agg (LLe.cons (VLe.nil _ _) (LLe.cons (VLe.nil _ _) (LLe.cons (VLe.nil _ _) (LLe.cons (VLe.nil _ _) (LLe.nil _)))))) (LLe.cons (VLe.nil _ _) (LLe.nil _)))⟩
  ·replace hm:=hm.2 hc
   apply Cs;(conv=>whnf);repeat(first|apply Cs|apply Hs|apply Hx);conv=>whnf
   refine⟨_,loadAggK rfl (O.at (.tail _ (.head _))) rfl rfl (lbE rfl) rfl,?_⟩;(conv=>whnf);repeat(first|apply Hs|apply Hx);conv=>whnf
   refine O.store (n:=4) (cs':=[((encL 4 encNode) r3.nodes),((encL 1 Value.string) r3.names),((encL 3 encMem) r3.mems),((encL 1 i64) r3.outs)]) (.head _) rfl rfl rfl rfl (lbE rfl) rfl rfl fun h O=>?_;(conv=>whnf);repeat(first|apply Cs|apply Hs|apply Hx);conv=>whnf
   refine⟨_,resAggK rfl rfl (O.at (.head _)) rfl rfl (lbE rfl) rfl,?_⟩;conv=>whnf
   exact⟨(r3,r6),hm,O.ext,fun h2 F=>VLe.tup (LLe.cons (VLe.refl _ _) (LLe.cons (VLe.refl _ _) (LLe.nil _)))⟩
structure Pln (c:Circ):Prop where
 good:Good c
 mems:c.mems=[]
 kinds:∀ (i:Nat) (y:Node),c.nodes[i]?=some y→y.kind≠12∧y.kind≠13∧y.kind≠15
def isFree (k:Nat):Bool:=k==0||k==14
theorem Pln.gate {c:Circ} (p:Pln c) {i:Nat}{y:Node} (h:c.nodes[i]?=some y) (hf:isFree y.kind=false):1≤y.kind∧y.kind≤11:=by
 have:=p.kinds i y h
 have:=(p.good.node i y h).kind
 simp only[isFree,Bool.or_eq_false_iff,beq_eq_false_iff_ne] at hf
 omega
theorem Pln.comb {c:Circ} (p:Pln c) {i:Nat}{y:Node} (h:c.nodes[i]?=some y) (hf:isFree y.kind=false):isComb y.kind:=by
 have:=p.gate h hf
 exact⟨this.1,by omega⟩
theorem comb_gate {k:Nat} (h:isComb k):isFree k=false:=by
 obtain⟨h1,h2⟩:=h
 simp only[isFree,Bool.or_eq_false_iff,beq_eq_false_iff_ne]
 omega
theorem free_vc {k:Nat}{K:Bool→Prop} (h:K (isFree k)):implies_free_wp k K:=by
 unfold implies_free_wp
 have e:isFree k=(eqN k 0||eqN k 14):=by unfold isFree;rw[Bool.eq_iff_iff];simp[eqN_eq]
 rw[e] at h
 refine⟨fun q=>by rw[q] at h;exact h,fun q=>by rw[q] at h;exact h⟩
theorem plain_vc {c:Circ}{K:Nat→Prop} (p:Pln c) (h:K 0):implies_Plain_wp c K:=by
 have hlen:=p.good.len
 unfold implies_Plain_wp
 refine check_vc p.good ⟨fun q=>absurd rfl (ne_t.1 q),fun _=>?_⟩
 have e0:ltN 0 c.mems.length=false:=lt_f.2 (by rw[p.mems];exact Nat.le_refl _)
 refine joinI ⟨fun q=>absurd (q.symm.trans e0) (by decide),fun _=>?_⟩
 refine of_vc (by omega) (by decide) ?_
 have e:ofN c [12,13,15]=[]:=by
  unfold ofN
  rw[List.filter_eq_nil_iff]
  intro i m
  have hi:=List.mem_range.1 m
  obtain⟨y,hy⟩:=get_lt hi
  have:=p.kinds i y hy
  rw[List.getD,List.getElem?_map,hy]
  simp
  omega
 rw[e]
 exact⟨(fun q=>by cases q),fun _=>h⟩
def freeN (c:Circ):List Nat:=(List.range c.nodes.length).filter fun i=>isFree (kd c i)
theorem freeN_vc {c:Circ}{K:List Nat→Prop} (hc:c.nodes.length<2 ^ 40) (h:K (freeN c)):probecardlaw24_Free_wp c K:=by
 unfold probecardlaw24_Free_wp
 refine joinLoop (fun s=>s.2≤c.nodes.length∧s.1=(List.range s.2).filter fun i=>isFree (kd c i)) (fun s=>c.nodes.length-s.2) (fun a=>a=freeN c) ?_ ⟨Nat.zero_le _,rfl⟩ (fun a e=>by rw[e];exact h)
 rintro k ⟨o,i⟩ nx ⟨hi,hI⟩ hnx hk
 dsimp only at hi hI
 refine⟨fun q=>?_,fun q=>?_⟩
 ·have q:=lt_t.1 q
  (try dsimp only at q)
  obtain⟨x,hx⟩:=get_lt q
  have hol:o.length≤i:=by rw[hI];exact Nat.le_trans (List.length_filter_le _ _) (by simp)
  have yes:isFree x.kind=true→(o.length+([i]:List Nat).length)*8≤2 ^ 47∧i+1<2 ^ 63∧nx (o++[i],i+1):=fun e=>by
   refine⟨by simp only[List.length_singleton];omega,by omega,hnx _ ⟨q,?_⟩ (by dsimp only;omega)⟩
   dsimp only
   rw[List.range_succ,List.filter_append,← hI]
   simp only[List.filter_cons,kd_eq hx,e,if_true,List.filter_nil]
  have no:isFree x.kind=false→i+1<2 ^ 63∧nx (o,i+1):=fun e=>by
   refine⟨by omega,hnx _ ⟨q,?_⟩ (by dsimp only;omega)⟩
   dsimp only
   rw[List.range_succ,List.filter_append,← hI]
   simp only[List.filter_cons,kd_eq hx,e,List.filter_nil]
   simp
  refine joinI (joinI ⟨x,hx,fun e=>⟨fun _=>yes ?_,(fun e=>by cases e)⟩,fun e=>⟨x,hx,fun e2=>yes ?_,fun e2=>no ?_⟩⟩)
  ·simp[isFree,eq_t.1 e]
  ·simp[isFree,eq_t.1 e2]
  ·have:=eq_f.1 e
   have:=eq_f.1 e2
   simp[isFree];omega
 ·have q:=lt_f.1 q
  (try dsimp only at q)
  have:i=c.nodes.length:=by omega
  subst this
  exact hk o hI
theorem notN_le (v:Nat):notN v≤2:=by unfold notN;split <;> omega
theorem decN_le {low high:Nat} (h1:low≤2) (h2:high≤2):∀ (l:List Nat) (o:Nat),o≤2→decN low high l o≤2
 |[],o,h=>h
 |v::r,o,h=>by
  unfold decN
  split
  ·exact h1
  ·refine decN_le h1 h2 r _ ?_
   split
   ·exact h
   ·exact Nat.le_refl _
theorem xorN_le:∀ (l:List Nat) (o:Nat),o≤1→xorN l o≤2
 |[],o,h=>Nat.le_succ_of_le h
 |v::r,o,h=>by
  unfold xorN
  split
  ·refine xorN_le r _ ?_
   have q1:o=0∨o=1:=by omega
   have q2:v=0∨v=1:=by omega
   rcases q1 with rfl|rfl <;> rcases q2 with rfl|rfl <;> simp
  ·exact Nat.le_refl _
theorem evalN_le (k:Nat) (l:List Nat):evalN k l≤2:=by
 unfold evalN
 repeat' split
 all_goals first|omega|exact Nat.min_le_right _ _|exact notN_le _|exact decN_le (by decide) (by decide) _ _ (by decide) | exact xorN_le _ _ (by decide) | skip
 unfold muxN
 repeat' split
 all_goals first|exact Nat.min_le_right _ _|exact Nat.le_refl _
def insV (t:List Nat) (x:Node):List Nat:=x.ins.map fun k=>t.getD k 0
theorem eval_node {c:Circ} (p:Pln c) {i:Nat}{x:Node} (hx:c.nodes[i]?=some x) (hf:isFree x.kind=false) {l:List Nat} (hl:l.length=x.ins.length) {K:Nat→Prop} (h:K (evalN x.kind l)):logic_Eval_wp x.kind l K:=by
 have g:=p.good.node i x hx
 have:=p.gate hx hf
 have hfew:=g.few
 exact eval_vc this.1 (by omega) (by rw[hl];exact g.arity) (by omega) h
structure TotOk (c:Circ) (b:Nat) (t:List Nat):Prop where
 len:t.length=c.nodes.length
 free:∀ j f,(freeN c)[j]?=some f→t.getD f 0=b/2 ^ j%2
 gate:∀ i x,c.nodes[i]?=some x→isFree x.kind=false→t.getD i 0=evalN x.kind (insV t x)
 le:∀ i,t.getD i 0≤2
theorem freeN_mem {c:Circ}{f:Nat} (h:f∈freeN c):f<c.nodes.length∧isFree (kd c f)=true:=by
 unfold freeN at h
 rw[List.mem_filter,List.mem_range] at h
 exact h
theorem freeN_nodup (c:Circ):(freeN c).Nodup:=List.Pairwise.filter _ List.nodup_range
structure TotTo (c:Circ) (b:Nat) (o t:List Nat) (i:Nat):Prop where
 len:t.length=c.nodes.length
 free:∀ j f,(freeN c)[j]?=some f→t.getD f 0=b/2 ^ j%2
 gate:∀ j m (x:Node),j<i→o[j]?=some m→c.nodes[m]?=some x→isFree x.kind=false→t.getD m 0=evalN x.kind (insV t x)
 le:∀ i,t.getD i 0≤2
theorem ord_inj {c:Circ}{o:List Nat} (h:OrdOk c o) {a b m:Nat} (h1:o[a]?=some m) (h2:o[b]?=some m):a=b:=by
 have hn:o.Nodup:=h.perm.nodup_iff.2 List.nodup_range
 obtain⟨q1,q2⟩:=List.getElem?_eq_some_iff.1 h1
 obtain⟨q3,q4⟩:=List.getElem?_eq_some_iff.1 h2
 rcases Nat.lt_trichotomy a b with q|q|q
 ·exact absurd (q2.trans q4.symm) (List.pairwise_iff_getElem.1 hn a b q1 q3 q)
 ·exact q
 ·exact absurd (q4.trans q2.symm) (List.pairwise_iff_getElem.1 hn b a q3 q1 q)
theorem TotTo.skip {c:Circ}{b:Nat}{o t:List Nat}{i m:Nat}{x:Node} (T:TotTo c b o t i) (hm:o[i]?=some m) (hx:c.nodes[m]?=some x) (hf:isFree x.kind=true):TotTo c b o t (i+1):=by
 refine⟨T.len,T.free,fun j m' x' hj ho hx' hf'=>?_,T.le⟩
 by_cases e:j=i
 ·subst e
  rw[hm] at ho;cases ho
  rw[hx] at hx';cases hx'
  rw[hf] at hf';cases hf'
 ·exact T.gate j m' x' (by omega) ho hx' hf'
theorem TotTo.step {c:Circ} (p:Pln c) {b:Nat}{o t:List Nat} (ho:OrdOk c o) {i m:Nat}{x:Node} (T:TotTo c b o t i) (hm:o[i]?=some m) (hx:c.nodes[m]?=some x) (hf:isFree x.kind=false):TotTo c b o (t.set m (evalN x.kind (insV t x))) (i+1):=by
 have hml:m<t.length:=by rw[T.len];exact lt_of_get hx
 have same:∀ (j m':Nat) (x':Node),j≤i→o[j]?=some m'→c.nodes[m']?=some x'→isFree x'.kind=false→insV (t.set m (evalN x.kind (insV t x))) x'=insV t x':=by
  intro j m' x' hj h1 h2 h3
  unfold insV
  refine List.map_congr_left fun k hk=>?_
  rw[getD_set hml]
  by_cases e:m=k
  ·subst e
   obtain⟨b',hb,hb2⟩:=ho.before j m' x' m h1 h2 (p.comb h2 h3) hk
   have:=ord_inj ho hb2 hm
   omega
  ·rw[if_neg e]
 refine⟨by rw[List.length_set];exact T.len,fun j f hj=>?_,fun j m' x' hj h1 h2 h3=>?_,fun k=>?_⟩
 ·rw[getD_set hml,if_neg ?_]
  ·exact T.free j f hj
  ·rintro rfl
   have:=(freeN_mem (List.mem_of_getElem? hj)).2
   rw[kd_eq hx,hf] at this
   cases this
 ·rw[same j m' x' (by omega) h1 h2 h3,getD_set hml]
  by_cases e:m=m'
  ·subst e
   rw[if_pos rfl]
   rw[hx] at h2;cases h2
   rfl
  ·rw[if_neg e]
   refine T.gate j m' x' ?_ h1 h2 h3
   by_cases e2:j=i
   ·subst e2;rw[hm] at h1;cases h1;exact absurd rfl e
   ·omega
 ·rw[getD_set hml]
  split
  ·exact evalN_le _ _
  ·exact T.le k
theorem TotTo.done {c:Circ}{b:Nat}{o t:List Nat} (ho:OrdOk c o) {i:Nat} (T:TotTo c b o t i) (hi:o.length≤i):TotOk c b t:=by
 refine⟨T.len,T.free,fun m x hx hf=>?_,T.le⟩
 have hm:m∈o:=ho.perm.mem_iff.2 (List.mem_range.2 (lt_of_get hx))
 obtain⟨j,hj,e⟩:=List.getElem_of_mem hm
 exact T.gate j m x (by omega) (by rw[List.getElem?_eq_getElem hj,e]) hx hf
theorem filt_step {p:Nat→Bool}{i:Nat}:(List.range (i+1)).filter p=(List.range i).filter p++(if p i=true then [i] else []):=by
 rw[List.range_succ,List.filter_append]
 simp only[List.filter_cons,List.filter_nil]
def plainC (x:CData):CData:=⟨x.inp,x.dffs,x.data0,x.data1,false,false,x.port0,x.port1,x.port2,x.port3,x.gates,x.outs⟩
theorem plainC_ok {x:CData} (h:CB x):CB (plainC x):=⟨h.inp,h.dffs,h.data0,h.data1,h.port0,h.port1,h.port2,h.port3,h.gates,h.outs⟩
theorem pln_circ (x:CData):Pln (circN (plainC x)):=⟨good_circ rfl,rfl,plain_circ rfl rfl⟩
theorem circ_len (x:CData):(circN (plainC x)).nodes.length≤14:=by
 have h1:(circN (plainC x)).nodes.length=(rawN (plainC x)).length:=updN_length _
 have:=rawN_le' (x:=plainC x) rfl
 omega
theorem circ_free_lt (x:CData) {f:Nat} (h:f∈freeN (circN (plainC x))):f<6:=by
 obtain⟨h1,h2⟩:=freeN_mem h
 obtain⟨y,hy⟩:=get_lt h1
 rw[kd_eq hy] at h2
 have hm1:=Nat.mod_lt (plainC x).inp (show 0<4 by decide)
 have hm2:=Nat.mod_lt (plainC x).dffs (show 0<3 by decide)
 rcases circ_node rfl hy with⟨q,_⟩|⟨_,q,_⟩|⟨q0,q1,g,hg⟩
 ·omega
 ·omega
 ·have hpos:0<(((rawN (plainC x)).take f).map Node.kind).length:=by
   rw[List.length_map,List.length_take]
   have:=lt_of_get q1
   omega
  have G:=gateK_ok (plainC x).bus g hpos
  rw[← hg] at G
  have:=comb_gate (k:=y.kind) ⟨G.kind1,G.kind⟩
  rw[this] at h2
  cases h2
theorem circ_free (x:CData):(freeN (circN (plainC x))).length≤6:=by
 have:=nodup_len (freeN_nodup (circN (plainC x))) (m:=List.range 6) fun f h=>List.mem_range.2 (circ_free_lt x h)
 simpa using this
theorem small_vc {x:CData} (hx:CB x) {m:Nat} (hm:6≤m) {K:Circ×List Nat→Prop} (h:K (circN (plainC x),freeN (circN (plainC x)))):probecardlaw24_Small_wp x m K:=by
 have h1:=circ_len x
 have h2:=circ_free x
 unfold probecardlaw24_Small_wp law24_Plain_wp
 refine of_circ_vc (x:=plainC x) (plainC_ok hx) ?_
 refine freeN_vc (by omega) ?_
 refine joinI ⟨fun q=>?_,fun _=>⟨fun q=>?_,fun _=>h⟩⟩
 ·have:=lt_t.1 q;omega
 ·have:=lt_t.1 q;omega
def vecN (b:Nat):Nat→List (List Nat)
 |0=>[[]]
 |n+1=>(vecN b n).flatMap fun v=>(List.range (b+1)).map fun x=>x::v
theorem mem_vecN (b:Nat):∀ (l:List Nat),(∀ x∈l,x≤b)→l∈vecN b l.length
 |[],_=>by simp[vecN]
 |x::l,h=>by
  have ih:=mem_vecN b l fun y m=>h y (by simp[m])
  have hx:=h x (by simp)
  simp only[vecN,List.length_cons,List.mem_flatMap]
  exact⟨l,ih,List.mem_map.2 ⟨x,List.mem_range.2 (by omega),rfl⟩⟩
def blw (v w:Nat):Bool:=Nat.beq v 2||Nat.beq v w
def blwL:List Nat→List Nat→Bool
 |[],[]=>true
 |a::l,b::m=>blw a b&&blwL l m
 |_,_=>false
def allN (p:Nat→Bool):List Nat→Bool
 |[]=>true
 |a::l=>p a&&allN p l
def okG (k o:Nat) (l:List Nat):Bool:=match gateL (Int.ofNat k) (Int.ofNat o) (l.map Int.ofNat) with
 |none=>true
 |some (v,r)=>decide (0≤v)&&r.all fun x=>decide (0≤x)
def gateChk (k m:Nat):Bool:=(vecN 2 m).all fun l=>(List.range 3).all fun o =>
 okG k o l &&
 (!(gateR k o l).2.2||(Nat.ble (gateR k o l).1 2&&Nat.beq (gateR k o l).2.1.length m&&allN (fun v=>Nat.ble v 2) (gateR k o l).2.1)) &&
 ((vecN 1 m).all fun t => !(blw o (evalN k t)&&blwL l t)||((gateR k o l).2.2&&blw (gateR k o l).1 (evalN k t)&&blwL (gateR k o l).2.1 t)) &&
 (!(allN (fun v=>Nat.ble v 1) l&&(gateR k o l).2.2)||Nat.beq (gateR k o l).1 (evalN k l))
theorem gate_chk:∀ m,m<4→∀ k,k<12→1≤k→Arity k m→gateChk k m=true:=by decide +kernel
def Blw (v w:Nat):Prop:=v=2∨v=w
theorem blw_iff {v w:Nat}:blw v w=true↔Blw v w:=by
 unfold blw Blw
 rw[Bool.or_eq_true,Nat.beq_eq,Nat.beq_eq]
theorem blwL_iff:∀ {l t:List Nat},blwL l t=true↔l.length=t.length∧∀ j,Blw (l.getD j 0) (t.getD j 0)
 |[],[]=>by simp[blwL,Blw]
 |[],_::_=>by simp[blwL]
 |_::_,[]=>by simp[blwL]
 |a::l,b::t=>by
  unfold blwL
  rw[Bool.and_eq_true,blw_iff,blwL_iff (l:=l) (t:=t),List.length_cons,List.length_cons]
  refine⟨fun ⟨h1,h2,h3⟩=>⟨by omega,fun j=>?_⟩,fun ⟨h1,h2⟩=>⟨h2 0,by omega,fun j=>h2 (j+1)⟩⟩
  cases j with
  |zero=>exact h1
  |succ j=>exact h3 j
theorem allN_iff {p:Nat→Bool}:∀ {l:List Nat},allN p l=true ↔ ∀ x∈l,p x=true
 |[]=>by simp[allN]
 |a::l=>by
  unfold allN
  rw[Bool.and_eq_true,allN_iff (l:=l)]
  simp
structure GF (k o:Nat) (l:List Nat):Prop where
 ok:GateOk k o l
 le:(gateR k o l).2.2=true→(gateR k o l).1≤2∧(gateR k o l).2.1.length=l.length∧∀ v∈(gateR k o l).2.1,v≤2
 sound:∀ t:List Nat,t.length=l.length→(∀ x∈t,x≤1)→Blw o (evalN k t)→(∀ j,Blw (l.getD j 0) (t.getD j 0))→(gateR k o l).2.2=true∧Blw (gateR k o l).1 (evalN k t)∧∀ j,Blw ((gateR k o l).2.1.getD j 0) (t.getD j 0)
 full:(∀ x∈l,x≤1)→(gateR k o l).2.2=true→(gateR k o l).1=evalN k l
theorem okG_ok {k o:Nat}{l:List Nat} (h:okG k o l=true):GateOk k o l:=by
 unfold okG at h
 intro v r e
 rw[e] at h
 simp only[Bool.and_eq_true,decide_eq_true_eq,List.all_eq_true] at h
 exact h
theorem gf {k o:Nat}{l:List Nat} (h1:1≤k) (hk:k≤11) (ha:Arity k l.length) (hl:l.length≤3) (ho:o≤2) (hle:∀ x∈l,x≤2):GF k o l:=by
 have h:=gate_chk l.length (by omega) k (by omega) h1 ha
 unfold gateChk at h
 have h:=List.all_eq_true.1 h l (mem_vecN 2 l hle)
 have h:=List.all_eq_true.1 h o (List.mem_range.2 (by omega))
 rw[Bool.and_eq_true,Bool.and_eq_true,Bool.and_eq_true] at h
 obtain⟨⟨⟨q1,q2⟩,q3⟩,q4⟩:=h
 refine⟨okG_ok q1,fun e=>?_,fun t ht ht1 b1 b2=>?_,fun b e=>?_⟩
 ·rw[e,Bool.or_eq_true,Bool.and_eq_true,Bool.and_eq_true] at q2
  rcases q2 with q2|⟨⟨a1,a2⟩,a3⟩
  ·cases q2
  ·exact⟨Nat.le_of_ble_eq_true a1,Nat.eq_of_beq_eq_true a2,fun v m=>Nat.le_of_ble_eq_true (allN_iff.1 a3 v m)⟩
 ·have h:=List.all_eq_true.1 q3 t (by rw[← ht];exact mem_vecN 1 t ht1)
  rw[blw_iff.2 b1,blwL_iff.2 ⟨ht.symm,b2⟩] at h
  rw[Bool.or_eq_true,Bool.and_eq_true,Bool.and_eq_true,blw_iff,blwL_iff] at h
  rcases h with h|⟨⟨a1,a2⟩,a3⟩
  ·cases h
  ·exact⟨a1,a2,a3.2⟩
 ·rw[e,allN_iff.2 (fun x m=>Nat.ble_eq_true_of_le (b x m))] at q4
  rw[Bool.or_eq_true] at q4
  rcases q4 with q4|q4
  ·cases q4
  ·exact Nat.eq_of_beq_eq_true q4
def belowV (v:Nat):List Nat:=if v=2 then [2] else [2,v]
def belowsL:List Nat→List (List Nat)
 |[]=>[[]]
 |v::l=>(belowsL l).flatMap fun m=>(belowV v).map fun x=>x::m
theorem mem_belowV {v w:Nat} (h:Blw v w):v∈belowV w:=by
 unfold belowV
 rcases h with rfl|rfl <;> split <;> simp_all
theorem mem_belowsL:∀ {l t:List Nat},l.length=t.length→(∀ j,Blw (l.getD j 0) (t.getD j 0))→l∈belowsL t
 |[],[],_,_=>by simp[belowsL]
 |[],_::_,h,_=>by simp at h
 |_::_,[],h,_=>by simp at h
 |a::l,b::t,h,hb=>by
  unfold belowsL
  have ih:=mem_belowsL (l:=l) (t:=t) (by simpa using h) fun j=>hb (j+1)
  exact List.mem_flatMap.2 ⟨l,ih,List.mem_map.2 ⟨a,mem_belowV (hb 0),rfl⟩⟩
def monoChk (k m:Nat):Bool:=(vecN 2 m).all fun t=>(List.range 3).all fun p => !(gateR k p t).2.2||(belowsL t).all fun l =>
 ((belowV p).all fun o=>(gateR k o l).2.2&&blw (gateR k o l).1 (gateR k p t).1&&blwL (gateR k o l).2.1 (gateR k p t).2.1) &&
 (!(blw (gateR k p t).1 p&&blwL (gateR k p t).2.1 t)||blw (evalN k l) p)
theorem mono_chk:∀ m,m<4→∀ k,k<12→1≤k→Arity k m→monoChk k m=true:=by decide +kernel
theorem gate_mono {k o p:Nat}{l t:List Nat} (h1:1≤k) (hk:k≤11) (ha:Arity k t.length) (hl:t.length≤3) (hp:p≤2) (ht:∀ x∈t,x≤2) (ho:Blw o p) (hll:l.length=t.length) (hlt:∀ j,Blw (l.getD j 0) (t.getD j 0)) (hok:(gateR k p t).2.2=true) :
  ((gateR k o l).2.2=true∧Blw (gateR k o l).1 (gateR k p t).1∧∀ j,Blw ((gateR k o l).2.1.getD j 0) ((gateR k p t).2.1.getD j 0)) ∧
  (Blw (gateR k p t).1 p→(∀ j,Blw ((gateR k p t).2.1.getD j 0) (t.getD j 0))→Blw (evalN k l) p):=by
 have h:=mono_chk t.length (by omega) k (by omega) h1 ha
 unfold monoChk at h
 have h:=List.all_eq_true.1 h t (mem_vecN 2 t ht)
 have h:=List.all_eq_true.1 h p (List.mem_range.2 (by omega))
 rw[hok,Bool.not_true,Bool.false_or] at h
 have h:=List.all_eq_true.1 h l (mem_belowsL hll hlt)
 rw[Bool.and_eq_true] at h
 obtain⟨q1,q2⟩:=h
 have h:=List.all_eq_true.1 q1 o (mem_belowV ho)
 rw[Bool.and_eq_true,Bool.and_eq_true,blw_iff,blwL_iff] at h
 refine⟨⟨h.1.1,h.1.2,h.2.2⟩,fun b1 b2=>?_⟩
 have len:=((gf h1 hk ha hl hp ht).le hok).2.1
 rw[Bool.or_eq_true,blw_iff.2 b1,blwL_iff.2 ⟨len,b2⟩] at q2
 rcases q2 with q2|q2
 ·cases q2
 ·exact blw_iff.1 q2
theorem Blw.trans {a b c:Nat} (h:Blw a b) (h':Blw b c):Blw a c:=by
 rcases h with h|h
 ·exact .inl h
 ·subst h;exact h'
theorem put_vc {c:Circ} (g:Good c) {v w:List Nat}{m x:Nat}{K:Bool×List Nat×List Nat→Prop} (hv:v.length=c.nodes.length) (hm:m<c.nodes.length) (hw:w.length≤2 ^ 30)
  (hA:(x=2∨v.getD m 0=x)→K (true,v,w))
  (hB:x≠2→v.getD m 0=2→K (true,v.set m x,w++m::(fanOf c m).map Ln.node))
  (hC:x≠2→v.getD m 0≠2→v.getD m 0≠x→K (false,v,w)) :
  work_put_wp c.nodes c.names c.mems c.outs (fanL c) c.nodes.length v w m x K:=by
 have hfl:=fan_len g hm
 have hg:=getN hv hm
 unfold work_put_wp
 have rest:∀ (v':List Nat),v'.getD m 0=x→v'.length=c.nodes.length→K (true,v',w++m::(fanOf c m).map Ln.node)→∃ x11,v'[m]?=some x11∧((!(eqN x11 x))=true→K (false,v',w))∧((!(eqN x11 x))=false→(w.length+([m]:List Nat).length)*8≤2 ^ 47∧joinW (α:=List Nat) (fun k23=>∃ x24,(fanL c)[m]?=some x24∧loopW (S:=(List Nat)×Nat) (fun (v28,v29) nx32=>((ltN v29 x24.length)=true→∃ x33,x24[v29]?=some x33∧(v28.length+([x33.node]:List Nat).length)*8≤2 ^ 47∧v29+1<2 ^ 63∧nx32 ((v28++([x33.node]:List Nat)),(v29+1)))∧((ltN v29 x24.length)=false→k23 v28)) ((w++([m]:List Nat)),0)) (fun v20=>K (true,v',v20))):=by
  intro v' hx hl h
  refine⟨_,getN hl hm,fun q=>absurd hx (neq_t.1 q),fun _=>⟨by simp only[List.length_singleton];omega,?_⟩⟩
  refine joinI ⟨_,fanL_get hm,?_⟩
  refine loopW_intro (fun s=>s.2≤(fanOf c m).length∧s.1=w++m::((fanOf c m).take s.2).map Ln.node) (fun s=>(fanOf c m).length-s.2) ?_ ⟨Nat.zero_le _,by simp⟩
  rintro⟨l,j⟩ nx ⟨hj,hI⟩ hnx
  dsimp only at hj hI
  refine⟨fun q=>?_,fun q=>?_⟩
  ·have q:=lt_t.1 q
   (try dsimp only at q)
   obtain⟨y,hy⟩:=get_lt q
   obtain⟨l1,l2⟩:=List.getElem?_eq_some_iff.1 hy
   refine⟨y,hy,by rw[hI];simp only[List.length_append,List.length_cons,List.length_map,List.length_take,List.length_nil];omega,by omega,hnx _ ⟨q,?_⟩ (by dsimp only;omega)⟩
   dsimp only
   rw[hI,List.take_succ_eq_append_getElem l1,l2,List.map_append,List.append_assoc]
   rfl
  ·have q:=lt_f.1 q
   (try dsimp only at q)
   rw[hI,List.take_of_length_le q]
   exact h
 refine joinI ⟨fun q=>⟨fun _=>hA (.inl (eq_t.1 q)),(fun e=>by cases e)⟩,fun q=>⟨hm,_,hg,⟨fun e=>hA (.inr (eq_t.1 e)),fun e=>?_⟩⟩⟩
 have q:=eq_f.1 q
 have e:=eq_f.1 e
 refine⟨hm,_,hg,joinI ⟨fun e2=>?_,fun e2=>?_⟩⟩
 ·have e2:=eq_t.1 e2
  refine rest _ ?_ (by rw[List.length_set];exact hv) (hB q e2)
  rw[getD_set (by omega),if_pos rfl]
 ·have e2:=eq_f.1 e2
  exact⟨_,hg,fun _=>hC q e2 e,fun e3=>absurd (neq_f.1 e3) e⟩
def Ext (given:List Asg) (t:List Nat):Prop:=∀ a∈given,t.getD a.net 0=a.value
def ClosedAt (c:Circ) (v:List Nat) (i:Nat):Prop:=∀ x,c.nodes[i]?=some x→isFree x.kind=false →
 (gateR x.kind (v.getD i 0) (insV v x)).2.2=true∧Blw (gateR x.kind (v.getD i 0) (insV v x)).1 (v.getD i 0)∧∀ j,Blw ((gateR x.kind (v.getD i 0) (insV v x)).2.1.getD j 0) ((insV v x).getD j 0)
structure CW (c:Circ) (given:List Asg) (t:List Nat):Prop where
 len:t.length=c.nodes.length
 le:∀ i,t.getD i 0≤2
 ext:Ext given t
 cls:∀ i,ClosedAt c t i
structure CI (c:Circ) (given:List Asg) (but:Nat→Prop) (v w:List Nat):Prop where
 len:v.length=c.nodes.length
 le:∀ i,v.getD i 0≤2
 wlt:∀ i∈w,i<c.nodes.length
 bnd:v.count 2*1001+w.length≤2 ^ 30
 snd:∀ t,CW c given t→∀ i,Blw (v.getD i 0) (t.getD i 0)
 cls:∀ i,i<c.nodes.length→but i∨i∈w∨ClosedAt c v i
theorem fan_reads {c:Circ}{i m:Nat}{x:Node} (hx:c.nodes[i]?=some x) (h:m∈x.ins):i∈(fanOf c m).map Ln.node:=by
 have h1:=fan_count c m i
 rw[ins_eq hx] at h1
 have h2:0<x.ins.count m:=List.count_pos_iff.2 h
 rw[← h1,List.countP_pos_iff] at h2
 obtain⟨l,hl,e⟩:=h2
 exact List.mem_map.2 ⟨l,hl,by simpa using e⟩
theorem count_set2 {v:List Nat}{m x:Nat} (hm:m<v.length) (h2:v.getD m 0=2) (hx:x≠2):(v.set m x).count 2+1=v.count 2:=by
 induction v generalizing m with
 |nil=>exact absurd hm (Nat.not_lt_zero _)
 |cons a v ih =>
  cases m with
  |zero =>
   have:a=2:=h2
   subst this
   rw[List.set_cons_zero,List.count_cons,List.count_cons]
   simp[hx]
  |succ m =>
   have:=ih (m:=m) (by simpa using hm) h2
   rw[List.set_cons_succ,List.count_cons,List.count_cons]
   omega
theorem CI.put {c:Circ} (g:Good c) {given:List Asg}{but:Nat→Prop}{v w:List Nat} (I:CI c given but v w) {m x:Nat} (hm:m<c.nodes.length) (h2:v.getD m 0=2) (hx:x≠2) (hle:x≤2) (hs:∀ t,CW c given t→t.getD m 0=x) :
  CI c given but (v.set m x) (w++m::(fanOf c m).map Ln.node)∧(v.set m x).count 2*1001+(w++m::(fanOf c m).map Ln.node).length≤v.count 2*1001+w.length:=by
 have hml:m<v.length:=by rw[I.len];exact hm
 have hfl:=fan_len g hm
 have hc:=count_set2 hml h2 hx
 have hb:=I.bnd
 have hlen:(w++m::(fanOf c m).map Ln.node).length=w.length+1+(fanOf c m).length:=by simp;omega
 have key:(v.set m x).count 2*1001+(w++m::(fanOf c m).map Ln.node).length≤v.count 2*1001+w.length:=by rw[hlen];omega
 refine⟨⟨by rw[List.length_set];exact I.len,fun i=>?_,fun i hi=>?_,by omega,fun t ht i=>?_,fun i hi=>?_⟩,key⟩
 ·rw[getD_set hml]
  split
  ·exact hle
  ·exact I.le i
 ·rcases List.mem_append.1 hi with hi|hi
  ·exact I.wlt i hi
  ·rcases List.mem_cons.1 hi with rfl|hi
   ·exact hm
   ·obtain⟨l,hl,rfl⟩:=List.mem_map.1 hi
    exact fan_lt hl
 ·rw[getD_set hml]
  by_cases e:m=i
  ·subst e;rw[if_pos rfl];exact .inr (hs t ht).symm
  ·rw[if_neg e];exact I.snd t ht i
 ·rcases I.cls i hi with q|q|q
  ·exact .inl q
  ·exact .inr (.inl (List.mem_append_left _ q))
  ·by_cases e:m=i
   ·subst e;exact .inr (.inl (by simp))
   ·obtain⟨y,hy⟩:=get_lt hi
    by_cases e2:m∈y.ins
    ·exact .inr (.inl (List.mem_append_right _ (List.mem_cons_of_mem _ (fan_reads hy e2))))
    ·refine .inr (.inr fun y' hy' hf=>?_)
     rw[hy] at hy';cases hy'
     have e3:insV (v.set m x) y=insV v y:=by
      unfold insV
      refine List.map_congr_left fun k hk=>?_
      rw[getD_set hml,if_neg (fun (q2:m=k)=>e2 (by rw[q2];exact hk))]
     rw[e3,getD_set hml,if_neg e]
     exact q y hy hf
def Few3 (c:Circ):Prop:=∀ (i:Nat) (y:Node),c.nodes[i]?=some y→y.ins.length≤3
theorem getD_out {l:List Nat}{i:Nat} (h:l.length≤i):l.getD i 0=0:=by rw[List.getD,List.getElem?_eq_none h];rfl
theorem insV_le {t:List Nat}{b:Nat} (h:∀ i,t.getD i 0≤b) (x:Node):∀ v∈insV t x,v≤b:=by
 intro v m
 obtain⟨k,_,rfl⟩:=List.mem_map.1 m
 exact h k
theorem insV_getD {t:List Nat}{x:Node}{j y:Nat} (hy:x.ins[j]?=some y):(insV t x).getD j 0=t.getD y 0:=by
 unfold insV;rw[List.getD,List.getElem?_map,hy];rfl
theorem insV_len (t:List Nat) (x:Node):(insV t x).length=x.ins.length:=by unfold insV;simp
structure GS (c:Circ) (given:List Asg) (m:Nat) (v0 w0:List Nat) (v w:List Nat) (done:Prop):Prop where
 inv:CI c given (· = m) v w
 le:v.count 2*1001+w.length≤v0.count 2*1001+w0.length
 mono:∀ i,v0.getD i 0≠2→v.getD i 0=v0.getD i 0
 or:m∈w∨(v=v0∧done)
theorem GS.to {c:Circ}{given:List Asg}{m:Nat}{v0 w0 v w:List Nat}{d d':Prop} (S:GS c given m v0 w0 v w d) (h:v=v0→d→d'):GS c given m v0 w0 v w d':=⟨S.inv,S.le,S.mono,S.or.imp_right fun ⟨a,b⟩=>⟨a,h a b⟩⟩
theorem gput_vc {c:Circ} (p:Pln c) {given:List Asg}{m:Nat}{v0 w0 v w:List Nat}{d:Prop}{y x:Nat}{K:Bool×List Nat×List Nat→Prop} (S:GS c given m v0 w0 v w d) (hy:y<c.nodes.length) (hx:x≤2)
  (hs:∀ t,CW c given t→Blw x (t.getD y 0)) (hr:y=m∨∃ z,c.nodes[m]?=some z∧y∈z.ins)
  (h1:∀ v' w',GS c given m v0 w0 v' w' (d∧Blw x (v0.getD y 0))→K (true,v',w'))
  (h2:∀ v' w',(∀ t,¬ CW c given t)→K (false,v',w')) :
  work_put_wp c.nodes c.names c.mems c.outs (fanL c) c.nodes.length v w y x K:=by
 have hb:=S.inv.bnd
 refine put_vc p.good S.inv.len hy (by omega) (fun q=>h1 v w (S.to fun e hd=>⟨hd,?_⟩)) (fun q1 q2=>h1 _ _ ?_) (fun q1 q2 q3=>h2 _ _ fun t ht=>?_)
 ·rcases q with q|q
  ·exact .inl q
  ·rw[e] at q;exact .inr q.symm
 ·obtain⟨I,hle⟩:=S.inv.put p.good hy q2 q1 hx fun t ht=>((hs t ht).resolve_left q1).symm
  refine⟨I,Nat.le_trans hle S.le,fun i hi=>?_,.inl ?_⟩
  ·have hyl:y<v.length:=by rw[S.inv.len];exact hy
   rw[getD_set hyl]
   by_cases e:y=i
   ·subst e
    have:=S.mono y hi
    rw[q2] at this
    exact absurd this.symm hi
   ·rw[if_neg e];exact S.mono i hi
  ·rcases hr with rfl|⟨z,hz,hm⟩
   ·simp
   ·exact List.mem_append_right _ (List.mem_cons_of_mem _ (fan_reads hz hm))
 ·have a:=(hs t ht).resolve_left q1
  have b:=(S.inv.snd t ht y).resolve_left q2
  rw[a,b] at q3
  exact q3 rfl
theorem gate_vc {c:Circ} (p:Pln c) (f3:Few3 c) {given:List Asg}{m:Nat}{v0 w0:List Nat}{z:Node}{K:Bool×List Nat×List Nat→Prop} (hz:c.nodes[m]?=some z) (hf:isFree z.kind=false)
  (I:CI c given (· = m) v0 w0)
  (h1:∀ v w,CI c given (fun _=>False) v w→v.count 2*1001+w.length≤v0.count 2*1001+w0.length→(∀ i,v0.getD i 0≠2→v.getD i 0=v0.getD i 0)→K (true,v,w))
  (h2:∀ v w,(∀ t,¬ CW c given t)→K (false,v,w)) :
  work_gate_wp c.nodes c.names c.mems c.outs (fanL c) c.nodes.length v0 w0 m K:=by
 have hm:=lt_of_get hz
 have hg:=p.gate hz hf
 have G:=p.good.node m z hz
 have hl3:=f3 m z hz
 have hlen:=p.good.len
 have F:GF z.kind (v0.getD m 0) (insV v0 z):=gf hg.1 hg.2 (by rw[insV_len];exact G.arity) (by rw[insV_len];exact hl3) (I.le m) (insV_le I.le z)
 have sound:∀ t,CW c given t→(gateR z.kind (v0.getD m 0) (insV v0 z)).2.2=true∧Blw (gateR z.kind (v0.getD m 0) (insV v0 z)).1 (t.getD m 0)∧∀ j,Blw ((gateR z.kind (v0.getD m 0) (insV v0 z)).2.1.getD j 0) ((insV t z).getD j 0):=by
  intro t ht
  obtain⟨k1,k2,k3⟩:=ht.cls m z hz hf
  have M:=(gate_mono (o:=v0.getD m 0) (l:=insV v0 z) hg.1 hg.2 (by rw[insV_len];exact G.arity) (by rw[insV_len];exact hl3) (ht.le m) (insV_le ht.le z) (I.snd t ht m) (by rw[insV_len,insV_len]) (fun j=>?_) k1).1
  ·exact⟨M.1,M.2.1.trans k2,fun j=>(M.2.2 j).trans (k3 j)⟩
  ·by_cases hj:j<z.ins.length
   ·obtain⟨y,hy⟩:=get_lt hj
    rw[insV_getD hy,insV_getD hy]
    exact I.snd t ht y
   ·rw[getD_out (by rw[insV_len];omega),getD_out (by rw[insV_len];omega)]
    exact .inr rfl
 unfold work_gate_wp
 refine⟨z,hz,by omega,by omega,?_⟩
 refine joinLoop (fun s=>s.2≤z.ins.length∧s.1.length=z.ins.length∧∀ j,j<s.2→s.1.getD j 0=(insV v0 z).getD j 0) (fun s=>z.ins.length-s.2) (fun a=>a=insV v0 z) ?_ ⟨Nat.zero_le _,by simp,fun j hj=>absurd hj (Nat.not_lt_zero _)⟩ ?_
 ·rintro k2 ⟨l,j⟩ nx2 ⟨hj,hl,hI2⟩ hnx2 hk2
  dsimp only at hj hl hI2
  refine⟨fun q2=>?_,fun q2=>?_⟩
  ·have q2:=lt_t.1 q2
   (try dsimp only at q2)
   obtain⟨y,hy⟩:=get_lt q2
   have hyn:=G.ins y (List.mem_of_getElem? hy)
   refine⟨y,hy,hyn,_,getN I.len hyn,q2,_,getN hl q2,by omega,hnx2 _ ⟨q2,by simpa using hl,fun j' hj'=>?_⟩ (by dsimp only;omega)⟩
   dsimp only at hj' ⊢
   rw[getD_set (by omega)]
   by_cases e:j=j'
   ·subst e;rw[if_pos rfl,insV_getD hy]
   ·rw[if_neg e];exact hI2 j' (by omega)
  ·have q2:=lt_f.1 q2
   (try dsimp only at q2)
   refine hk2 l (List.ext_getElem? fun j'=>?_)
   by_cases e:j'<z.ins.length
   ·rw[getN hl e,getN (insV_len v0 z) e,hI2 j' (by omega)]
   ·rw[List.getElem?_eq_none (by omega),List.getElem?_eq_none (by rw[insV_len];omega)]
 rintro a rfl
 refine⟨hm,_,getN I.len hm,(insV_len v0 z).symm,by omega,by rw[insV_len];omega,F.ok,?_⟩
 generalize hr:gateR z.kind (v0.getD m 0) (insV v0 z)=r at F sound ⊢
 have hle:=F.le
 rw[hr] at hle
 refine joinI ⟨fun q=>⟨fun _=>h2 _ _ fun t ht=>?_,(fun e=>by cases e)⟩,fun q=>?_⟩
 ·have:=(sound t ht).1
  rw[this] at q;cases q
 have hok:r.2.2=true:=by simpa using q
 obtain⟨le1,le2,le3⟩:=hle hok
 have S0:GS c given m v0 w0 v0 w0 True:=⟨I,Nat.le_refl _,fun _ _=>rfl,.inr ⟨rfl,trivial⟩⟩
 refine gput_vc p S0 hm le1 (fun t ht=>(sound t ht).2.1) (.inl rfl) (fun v w S=>⟨(fun e=>by cases e),fun _=>?_⟩) (fun v w hn=>⟨fun _=>h2 _ _ hn,(fun e=>by cases e)⟩)
 refine joinLoop (fun s=>s.2.2≤z.ins.length∧GS c given m v0 w0 s.1 s.2.1 ((True∧Blw r.1 (v0.getD m 0))∧∀ j,j<s.2.2→Blw (r.2.1.getD j 0) ((insV v0 z).getD j 0))) (fun s=>z.ins.length-s.2.2) (fun s=>GS c given m v0 w0 s.1 s.2 ((True∧Blw r.1 (v0.getD m 0))∧∀ j,j<z.ins.length→Blw (r.2.1.getD j 0) ((insV v0 z).getD j 0))) ?_ ⟨Nat.zero_le _,S.to fun _ d=>⟨d,fun j hj=>absurd hj (Nat.not_lt_zero _)⟩⟩ ?_
 ·rintro k ⟨v,w,j⟩ nx ⟨hj,S⟩ hnx hk
  dsimp only at hj S
  refine⟨fun q=>?_,fun q=>?_⟩
  ·have q:=lt_t.1 q
   (try dsimp only at q)
   obtain⟨y,hy⟩:=get_lt q
   have hyn:=G.ins y (List.mem_of_getElem? hy)
   have hjr:j<r.2.1.length:=by rw[le2,insV_len];exact q
   refine⟨y,hy,_,getD_some hjr,gput_vc p S hyn (le3 _ (getD_mem hjr)) (fun t ht=>?_) (.inr ⟨z,hz,List.mem_of_getElem? hy⟩) (fun v' w' S'=>⟨(fun e=>by cases e),fun _=>⟨by omega,hnx _ ⟨q,?_⟩ (by dsimp only;omega)⟩⟩) (fun v' w' hn=>⟨fun _=>h2 _ _ hn,(fun e=>by cases e)⟩)⟩
   ·have:=(sound t ht).2.2 j
    rw[insV_getD hy] at this
    exact this
   ·refine S'.to fun _ d=>⟨d.1.1,fun j' hj'=>?_⟩
    by_cases e:j'=j
    ·subst e;rw[insV_getD hy];exact d.2
    ·exact d.1.2 j' (by dsimp only at hj';omega)
  ·have q:=lt_f.1 q
   (try dsimp only at q)
   exact hk (v,w) (S.to fun _ d=>⟨d.1,fun j' hj'=>d.2 j' (by omega)⟩)
 ·rintro⟨v,w⟩ S
  dsimp only at S
  have I2:=S.inv
  refine h1 v w ⟨I2.len,I2.le,I2.wlt,I2.bnd,I2.snd,fun i hi=>?_⟩ S.le S.mono
  rcases I2.cls i hi with q|q
  ·subst q
   rcases S.or with q|⟨rfl,⟨_,d1⟩,d2⟩
   ·exact .inr (.inl q)
   ·refine .inr (.inr fun z' hz' _=>?_)
    rw[hz] at hz';cases hz'
    rw[hr]
    refine⟨hok,d1,fun j=>?_⟩
    by_cases e:j<z.ins.length
    ·exact d2 j e
    ·rw[getD_out (by rw[le2,insV_len];omega),getD_out (by rw[insV_len];omega)]
     exact .inr rfl
  ·exact .inr q
structure CloseOk (c:Circ) (given:List Asg) (v:List Nat):Prop where
 len:v.length=c.nodes.length
 le:∀ i,v.getD i 0≤2
 snd:∀ t,CW c given t→∀ i,Blw (v.getD i 0) (t.getD i 0)
 cls:∀ i,i<c.nodes.length→ClosedAt c v i
 giv:∀ a∈given,v.getD a.net 0=a.value
theorem close_vc {c:Circ} (p:Pln c) (f3:Few3 c) {given:List Asg} (hg:∀ a∈given,a.net<c.nodes.length∧a.value≤1) (hl:given.length<2 ^ 60) {K:List Nat×Bool×Nat→Prop}
  (h1:∀ v,CloseOk c given v→K (v,true,0)) (h2:(∀ t,¬ CW c given t)→K ([],false,0)):implies_Close_wp c given K:=by
 have hlen:=p.good.len
 unfold implies_Close_wp
 refine plain_vc p ⟨fun q=>absurd rfl (ne_t.1 q),fun _=>?_⟩
 refine search_none (l:=given) ?_ ?_ ?_
 ·intro k i nx a ha hi hn
  obtain⟨g1,g2⟩:=hg a (List.mem_of_getElem? ha)
  refine⟨fun _=>⟨a,ha,joinI ⟨fun q=>absurd (lt_t.1 q) (Nat.not_lt_zero _),fun _=>⟨fun q=>absurd (nlt_t.1 q) (by omega),fun _=>known_vc ?_⟩⟩⟩,fun q=>?_⟩
  ·rw[decide_eq_true g2]
   exact⟨(fun e=>by cases e),fun _=>⟨by omega,hn⟩⟩
  ·have:=lt_f.1 q;omega
 ·intro k i nx hi hk
  refine⟨fun q=>?_,fun _=>hk⟩
  have:=lt_t.1 q;omega
 refine fanout_vc p.good.fanOk ⟨by omega,by omega,?_⟩
 refine joinLoop (fun s=>s.2.2≤c.nodes.length∧s.1.length=c.nodes.length∧(∀ j,j<s.2.2→s.1.getD j 0=2)∧s.2.1=List.range s.2.2) (fun s=>c.nodes.length-s.2.2) (fun s=>s.1.length=c.nodes.length∧(∀ j,j<c.nodes.length→s.1.getD j 0=2)∧s.2=List.range c.nodes.length) ?_ ⟨Nat.zero_le _,by simp,(fun j hj=>absurd hj (Nat.not_lt_zero _)),rfl⟩ ?_
 ·rintro k ⟨v,w,i⟩ nx ⟨hi,h3,h4,h5⟩ hnx hk
  dsimp only at hi h3 h4 h5
  refine⟨fun q=>?_,fun q=>?_⟩
  ·have q:=lt_t.1 q
   (try dsimp only at q)
   refine⟨q,_,getN h3 q,by rw[h5];simp only[List.length_range,List.length_singleton];omega,by omega,hnx _ ⟨q,by simpa using h3,fun j hj=>?_,?_⟩ (by dsimp only;omega)⟩
   ·dsimp only at hj ⊢
    rw[getD_set (by omega)]
    by_cases e:i=j
    ·rw[if_pos e]
    ·rw[if_neg e];exact h4 j (by omega)
   ·dsimp only
    rw[h5,List.range_succ]
  ·have q:=lt_f.1 q
   (try dsimp only at q)
   have:i=c.nodes.length:=by omega
   subst this
   exact hk (v,w) ⟨h3,h4,h5⟩
 rintro⟨v,w⟩ ⟨h3,h4,h5⟩
 dsimp only at h3 h4 h5
 subst h5
 have I0:CI c given (fun _=>False) v (List.range c.nodes.length):=by
  refine⟨h3,fun i=>?_,fun i m=>List.mem_range.1 m,?_,fun t ht i=>?_,fun i hi=>.inr (.inl (List.mem_range.2 hi))⟩
  ·by_cases e:i<c.nodes.length
   ·rw[h4 i e];exact Nat.le_refl _
   ·rw[getD_out (by omega)];exact Nat.zero_le _
  ·have:v.count 2≤v.length:=List.count_le_length
   rw[List.length_range];omega
  ·by_cases e:i<c.nodes.length
   ·exact .inl (h4 i e)
   ·rw[getD_out (by omega),getD_out (by rw[ht.len];omega)]
    exact .inr rfl
 refine joinLoop (fun s=>s.2.2≤given.length∧CI c given (fun _=>False) s.1 s.2.1∧∀ a∈given.take s.2.2,s.1.getD a.net 0=a.value) (fun s=>given.length-s.2.2) (fun s=>CI c given (fun _=>False) s.1 s.2∧∀ a∈given,s.1.getD a.net 0=a.value) ?_ ⟨Nat.zero_le _,I0,fun a m=>by simp at m⟩ ?_
 ·rintro k ⟨v,w,i⟩ nx ⟨hi,I,hv⟩ hnx hk
  dsimp only at hi I hv
  refine⟨fun q=>?_,fun q=>?_⟩
  ·have q:=lt_t.1 q
   (try dsimp only at q)
   obtain⟨a,ha⟩:=get_lt q
   obtain⟨l1,l2⟩:=List.getElem?_eq_some_iff.1 ha
   have hmem:=List.mem_of_getElem? ha
   obtain⟨g1,g2⟩:=hg a hmem
   have hb:=I.bnd
   have tk:∀ a'∈given.take (i+1),a'∈given.take i∨a'=a:=by
    intro a' m
    rw[List.take_succ_eq_append_getElem l1,l2] at m
    rcases List.mem_append.1 m with m|m
    ·exact .inl m
    ·exact .inr (List.mem_singleton.1 m)
   refine⟨a,ha,put_vc p.good I.len g1 (by omega) (fun e=>⟨(fun e2=>by cases e2),fun _=>⟨by omega,hnx _ ⟨q,I,fun a' m=>?_⟩ (by dsimp only;omega)⟩⟩) (fun e1 e2=>⟨(fun e3=>by cases e3),fun _=>⟨by omega,hnx _ ⟨q,(I.put p.good g1 e2 e1 (by omega) fun t ht=>ht.ext a hmem).1,fun a' m=>?_⟩ (by dsimp only;omega)⟩⟩) (fun e1 e2 e3=>⟨fun _=>h2 fun t ht=>?_,(fun e=>by cases e)⟩)⟩
   ·rcases tk a' m with m|rfl
    ·exact hv a' m
    ·rcases e with e|e
     ·omega
     ·exact e
   ·have hnl:a.net<v.length:=by rw[I.len];exact g1
    dsimp only
    rw[getD_set hnl]
    rcases tk a' m with m|rfl
    ·have e4:=hv a' m
     by_cases e:a.net=a'.net
     ·have:=(hg a' (List.mem_of_mem_take m)).2
      rw[← e,e2] at e4
      omega
     ·rw[if_neg e];exact e4
    ·rw[if_pos rfl]
   ·have b1:=(I.snd t ht a.net).resolve_left e2
    rw[ht.ext a hmem] at b1
    exact e3 b1
  ·have q:=lt_f.1 q
   (try dsimp only at q)
   exact hk (v,w) ⟨I,fun a m=>hv a (by rw[List.take_of_length_le q];exact m)⟩
 rintro⟨v,w⟩ ⟨I,hv⟩
 dsimp only at I hv
 refine joinLoop (fun s=>CI c given (fun _=>False) s.1 s.2∧∀ a∈given,s.1.getD a.net 0=a.value) (fun s=>s.1.count 2*1001+s.2.length) (fun s=>CloseOk c given s.1) ?_ ⟨I,hv⟩ ?_
 ·rintro k ⟨v,w⟩ nx ⟨I,hv⟩ hnx hk
  dsimp only at I hv
  refine⟨fun q=>?_,fun q=>?_⟩
  ·have q:=lt_t.1 q
   (try dsimp only at q)
   obtain⟨m,w',rfl⟩:∃ m w',w=m::w':=by
    cases w with
    |nil=>exact absurd q (Nat.lt_irrefl _)
    |cons m w'=>exact⟨m,w',rfl⟩
   have hm:=I.wlt m (by simp)
   obtain⟨z,hz⟩:=get_lt hm
   have hb:=I.bnd
   rw[List.length_cons] at hb
   refine⟨m,rfl,by rw[List.length_cons];omega,z,hz,free_vc ⟨fun e=>?_,fun e=>?_⟩⟩
   ·refine hnx _ ⟨⟨I.len,I.le,fun i hi=>I.wlt i (List.mem_cons_of_mem _ hi),by simp only[List.drop_succ_cons,List.drop_zero];omega,I.snd,fun i hi=>?_⟩,hv⟩ (by simp)
    rcases I.cls i hi with r|r|r
    ·exact .inl r
    ·rcases List.mem_cons.1 r with rfl|r
     ·refine .inr (.inr fun z' hz' hf=>?_)
      rw[hz] at hz';cases hz'
      rw[e] at hf;cases hf
     ·exact .inr (.inl r)
    ·exact .inr (.inr r)
   ·have I':CI c given (· = m) v w':=by
     refine⟨I.len,I.le,fun i hi=>I.wlt i (List.mem_cons_of_mem _ hi),by omega,I.snd,fun i hi=>?_⟩
     rcases I.cls i hi with r|r|r
     ·exact r.elim
     ·rcases List.mem_cons.1 r with rfl|r
      ·exact .inl rfl
      ·exact .inr (.inl r)
     ·exact .inr (.inr r)
    refine gate_vc p f3 hz e I' (fun v2 w2 I2 hle hmono=>⟨(fun e2=>by cases e2),fun _=>hnx _ ⟨I2,fun a ha=>?_⟩ ?_⟩) (fun v2 w2 hn=>⟨fun _=>h2 hn,(fun e2=>by cases e2)⟩)
    ·have e3:=hv a ha
     have:=(hg a ha).2
     have e4:=hmono a.net (by omega)
     dsimp only
     rw[e4,e3]
    ·dsimp only
     have e5:(m::w').length=w'.length+1:=List.length_cons
     have hle:v2.count 2*1001+w2.length≤v.count 2*1001+w'.length:=hle
     omega
  ·have q:=lt_f.1 q
   (try dsimp only at q)
   have e:w=[]:=List.length_eq_zero_iff.1 (by omega)
   subst e
   refine hk (v,[]) ⟨I.len,I.le,I.snd,fun i hi=>?_,hv⟩
   rcases I.cls i hi with r|r|r
   ·exact r.elim
   ·cases r
   ·exact r
 ·rintro⟨v,w⟩ C
  exact⟨C.len.symm,h1 v C⟩
end Go.Proofs.YtfhldkgelipnaaaGreatDoor
