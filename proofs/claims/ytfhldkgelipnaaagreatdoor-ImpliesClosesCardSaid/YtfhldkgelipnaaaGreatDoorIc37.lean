/-
  N1: parts of the proof.
-/
import Derived.Test.YtfhldkgelipnaaaGreatDoorIc36
namespace Go.Proofs.YtfhldkgelipnaaaGreatDoor
open Go.Abs
set_option maxRecDepth 100000
set_option maxHeartbeats 8000000
def sl_IndexV_wp (p0:(List Nat)) (p1:Nat) (K:Int→Prop):Prop :=
 joinW (α:=Unit) (fun k1=>loopW (S:=Nat) (fun v2 nx3=>((ltN v2 p0.length)=true→∃ x4,p0[v2]?=some x4∧((eqN p1 x4)=true→K (Int.ofNat v2))∧((eqN p1 x4)=false→v2+1<2 ^ 63∧nx3 (v2+1)))∧((ltN v2 p0.length)=false→k1 ())) 0) (fun _=>K (Int.negSucc 0))
theorem sl_IndexV_walk {p0:(List Nat)}{p1:Nat}{K:Int→Prop} (hm:sl_IndexV_wp p0 p1 K) {h0:Heap} (hB:HasB vars h0):∃ r,K r∧CallD Tryz.prog NG 127 ⟨[(encL 1 n8) p0,n8 p1]⟩ h0 (z64 r) h0:=by
 unfold sl_IndexV_wp at hm
 refine fnW hM Tryz.func127 rfl (hP _ _ rfl Tryz.func127) (lbE rfl) hB (enc:=z64) (fun r=>PureV.flat rfl) fun O=>?_;conv=>whnf
 apply Cs;conv=>whnf
 apply Cs;(conv=>whnf);repeat(first|apply Hs|apply Hx);conv=>whnf
 refine CodeS.joinWS hm (nn:=19) (σ:=Unit×Unit) (fun s=>s.1) (fun (_,_) h=>Own vars h0 [] h∧True) (fun (_,_)=>[]) rfl (fun hm'=>?_) ?_
 ·replace hm:=hm'
  apply Cs;(conv=>whnf);repeat(first|apply Cs|apply Hs|apply Hx);conv=>whnf
  refine lenM (s:=1) (enc:=n8) (l:=p0) rfl rfl ?_;(conv=>whnf);repeat(first|apply Cs|apply Hs|apply Hx);conv=>whnf
  refine loopWK hM (by kernel_rfl) (nn:=19) (S:=Nat) (σ:=Nat×Unit) (fun s=>s.1) (fun (v2,_) h=>Own vars h0 [] h∧True) (fun (v2,_)=>[(0,((encL 1 n8) p0)),(1,(n8 p1)),(7,(i64 p0.length)),(8,(i64 v2))]) rfl (0,()) hm ⟨O,trivial⟩ ⟨VLe.refl _ _,VLe.refl _ _,VLe.refl _ _,VLe.refl _ _,trivial⟩ ?_
  clear hm;rintro⟨v2,_⟩ nx3 base h hm ⟨O,_⟩
  ((conv=>whnf);repeat(first|apply Cs|apply Hs|apply Hx);conv=>whnf)
  refine⟨_,rfl,fun hc=>?_,fun hc=>?_⟩
  ·replace hm:=hm.1 hc
   apply Cs;(conv=>whnf);repeat(first|apply Cs|apply Hs|apply Hx);conv=>whnf
   obtain⟨x4,hx4,hm⟩:=hm
   refine flAtM (s:=1) (enc:=n8) (j:=v2) rfl rfl rfl rfl hx4 ?_;(conv=>whnf);repeat(first|apply Hs|apply Hx);conv=>whnf
   refine⟨_,(rfl:aread _ _ _ _=some _),?_⟩;(conv=>whnf);repeat(first|apply Cs|apply Hs|apply Hx);conv=>whnf
   refine⟨_,rfl,fun hc=>?_,fun hc=>?_⟩
   ·replace hm:=hm.1 hc
    apply Cs;(conv=>whnf);repeat(first|apply Cs|apply Hs|apply Hx);conv=>whnf
    exact⟨(Int.ofNat v2),hm,O.ext,fun h2 F=>VLe.refl _ _⟩
   ·replace hm:=hm.2 hc
    apply Cs;(conv=>whnf);repeat(first|apply Cs|apply Hs|apply Hx);conv=>whnf
    refine⟨_,addK (a:=v2) (b:=1) rfl rfl hm.1,?_⟩;(conv=>whnf);repeat(first|apply Hs|apply Hx);conv=>whnf
    replace hm:=hm.2
    exact⟨((v2+1),()),hm,⟨O,trivial⟩,VLe.refl _ _,VLe.refl _ _,VLe.refl _ _,VLe.refl _ _,trivial⟩
  ·replace hm:=hm.2 hc
   apply Cs;(conv=>whnf);repeat(first|apply Cs|apply Hs|apply Hx);conv=>whnf
   exact⟨((),()),hm,⟨O,trivial⟩,trivial⟩
 ·clear hm;rintro⟨_,_⟩ base h hm ⟨O,_⟩
  ((conv=>whnf);repeat(first|apply Cs|apply Hs|apply Hx);conv=>whnf)
  exact⟨(Int.negSucc 0),hm,O.ext,fun h2 F=>VLe.refl _ _⟩
def sl_ContainsV_wp (p0:(List Nat)) (p1:Nat) (K:Bool→Prop):Prop :=
 sl_IndexV_wp p0 p1 (fun r1=>K (!ltI r1 (Int.ofNat 0)))
theorem sl_ContainsV_walk {p0:(List Nat)}{p1:Nat}{K:Bool→Prop} (hm:sl_ContainsV_wp p0 p1 K) {h0:Heap} (hB:HasB vars h0):∃ r,K r∧CallD Tryz.prog NG 125 ⟨[(encL 1 n8) p0,n8 p1]⟩ h0 (Value.bool r) h0:=by
 unfold sl_ContainsV_wp at hm
 refine fnW hM Tryz.func125 rfl (hP _ _ rfl Tryz.func125) (lbE rfl) hB (enc:=Value.bool) (fun r=>PureV.flat rfl) fun O=>?_;conv=>whnf
 apply Cs;(conv=>whnf);repeat(first|apply Cs|apply Hs|apply Hx);conv=>whnf
 obtain⟨r1,hm,hcall⟩:=sl_IndexV_walk hm O.has
 refine⟨_,_,hcall,?_⟩;(conv=>whnf);repeat(first|apply Cs|apply Hs|apply Hx);conv=>whnf
 exact⟨(!ltI r1 (Int.ofNat 0)),hm,O.ext,fun h2 F=>VLe.refl _ _⟩
def logic_Clean_wp (p0:Nat) (K:Nat→Prop):Prop :=
 ((ltN 3 p0)=true→K 2)∧((ltN 3 p0)=false→K p0)
theorem logic_Clean_walk {p0:Nat}{K:Nat→Prop} (hm:logic_Clean_wp p0 K) {h0:Heap} (hB:HasB vars h0):∃ r,K r∧CallD Tryz.prog NG 69 ⟨[n8 p0]⟩ h0 (n8 r) h0:=by
 unfold logic_Clean_wp at hm
 refine fnW hM Tryz.func69 rfl (hP _ _ rfl Tryz.func69) (lbE rfl) hB (enc:=n8) (fun r=>PureV.flat rfl) fun O=>?_;conv=>whnf
 apply Cs;(conv=>whnf);repeat(first|apply Cs|apply Hs|apply Hx);conv=>whnf
 refine⟨_,rfl,fun hc=>?_,fun hc=>?_⟩
 ·replace hm:=hm.1 hc
  apply Cs;(conv=>whnf);repeat(first|apply Cs|apply Hs|apply Hx);conv=>whnf
  exact⟨2,hm,O.ext,fun h2 F=>VLe.refl _ _⟩
 ·replace hm:=hm.2 hc
  apply Cs;(conv=>whnf);repeat(first|apply Cs|apply Hs|apply Hx);conv=>whnf
  exact⟨p0,hm,O.ext,fun h2 F=>VLe.refl _ _⟩
def cf_unknownI_wp (p0:(List Nat)) (K:Int→Prop):Prop :=
 joinW (α:=Unit) (fun k1=>loopW (S:=Nat) (fun v2 nx3=>((ltN v2 p0.length)=true→∃ x4,p0[v2]?=some x4∧logic_Clean_wp x4 (fun r5=>((eqN r5 2)=true→K (Int.ofNat v2))∧((eqN r5 2)=false→v2+1<2 ^ 63∧nx3 (v2+1))))∧((ltN v2 p0.length)=false→k1 ())) 0) (fun _=>K (Int.negSucc 0))
theorem cf_unknownI_walk {p0:(List Nat)}{K:Int→Prop} (hm:cf_unknownI_wp p0 K) {h0:Heap} (hB:HasB vars h0):∃ r,K r∧CallD Tryz.prog NG 100 ⟨[(encL 1 n8) p0,(.func (.func 109) ⟨[]⟩ ⟨[]⟩)]⟩ h0 (z64 r) h0:=by
 unfold cf_unknownI_wp at hm
 refine fnW hM Tryz.func100 rfl (hP _ _ rfl Tryz.func100) (lbE rfl) hB (enc:=z64) (fun r=>PureV.flat rfl) fun O=>?_;conv=>whnf
 apply Cs;conv=>whnf
 apply Cs;(conv=>whnf);repeat(first|apply Hs|apply Hx);conv=>whnf
 refine CodeS.joinWS hm (nn:=19) (σ:=Unit×Unit) (fun s=>s.1) (fun (_,_) h=>Own vars h0 [] h∧True) (fun (_,_)=>[]) rfl (fun hm'=>?_) ?_
 ·replace hm:=hm'
  apply Cs;(conv=>whnf);repeat(first|apply Cs|apply Hs|apply Hx);conv=>whnf
  refine lenM (s:=1) (enc:=n8) (l:=p0) rfl rfl ?_;(conv=>whnf);repeat(first|apply Cs|apply Hs|apply Hx);conv=>whnf
  refine loopWK hM (by kernel_rfl) (nn:=19) (S:=Nat) (σ:=Nat×Unit) (fun s=>s.1) (fun (v2,_) h=>Own vars h0 [] h∧True) (fun (v2,_)=>[(0,((encL 1 n8) p0)),(1,(.func (.func 109) ⟨[]⟩ ⟨[]⟩)),(7,(i64 p0.length)),(8,(i64 v2))]) rfl (0,()) hm ⟨O,trivial⟩ ⟨VLe.refl _ _,VLe.refl _ _,VLe.refl _ _,VLe.refl _ _,trivial⟩ ?_
  clear hm;rintro⟨v2,_⟩ nx3 base h hm ⟨O,_⟩
  ((conv=>whnf);repeat(first|apply Cs|apply Hs|apply Hx);conv=>whnf)
  refine⟨_,rfl,fun hc=>?_,fun hc=>?_⟩
  ·replace hm:=hm.1 hc
   apply Cs;(conv=>whnf);repeat(first|apply Cs|apply Hs|apply Hx);conv=>whnf
   obtain⟨x4,hx4,hm⟩:=hm
   refine flAtM (s:=1) (enc:=n8) (j:=v2) rfl rfl rfl rfl hx4 ?_;(conv=>whnf);repeat(first|apply Hs|apply Hx);conv=>whnf
   refine⟨_,(rfl:aread _ _ _ _=some _),?_⟩;(conv=>whnf);repeat(first|apply Hs|apply Hx);conv=>whnf
   refine fnG hM Tryz.func109 rfl (hP _ _ rfl Tryz.func109) (lbE rfl) ?_;(conv=>whnf);repeat(first|apply Cs|apply Hs|apply Hx);conv=>whnf
   obtain⟨r5,hm,hcall⟩:=logic_Clean_walk hm O.has
   refine⟨_,_,hcall,?_⟩;(conv=>whnf);repeat(first|apply Cs|apply Hs|apply Hx);conv=>whnf
   refine⟨_,rfl,fun hc=>?_,fun hc=>?_⟩
   ·replace hm:=hm.1 hc
    apply Cs;(conv=>whnf);repeat(first|apply Cs|apply Hs|apply Hx);conv=>whnf
    exact⟨(Int.ofNat v2),hm,O.ext,fun h2 F=>VLe.refl _ _⟩
   ·replace hm:=hm.2 hc
    apply Cs;(conv=>whnf);repeat(first|apply Cs|apply Hs|apply Hx);conv=>whnf
    refine⟨_,addK (a:=v2) (b:=1) rfl rfl hm.1,?_⟩;(conv=>whnf);repeat(first|apply Hs|apply Hx);conv=>whnf
    replace hm:=hm.2
    exact⟨((v2+1),()),hm,⟨O,trivial⟩,VLe.refl _ _,VLe.refl _ _,VLe.refl _ _,VLe.refl _ _,trivial⟩
  ·replace hm:=hm.2 hc
   apply Cs;(conv=>whnf);repeat(first|apply Cs|apply Hs|apply Hx);conv=>whnf
   exact⟨((),()),hm,⟨O,trivial⟩,trivial⟩
 ·clear hm;rintro⟨_,_⟩ base h hm ⟨O,_⟩
  ((conv=>whnf);repeat(first|apply Cs|apply Hs|apply Hx);conv=>whnf)
  exact⟨(Int.negSucc 0),hm,O.ext,fun h2 F=>VLe.refl _ _⟩
def cf_unknown_wp (p0:(List Nat)) (K:Bool→Prop):Prop :=
 cf_unknownI_wp p0 (fun r1=>K (!ltI r1 (Int.ofNat 0)))
theorem cf_unknown_walk {p0:(List Nat)}{K:Bool→Prop} (hm:cf_unknown_wp p0 K) {h0:Heap} (hB:HasB vars h0):∃ r,K r∧CallD Tryz.prog NG 70 ⟨[(encL 1 n8) p0,(.func (.func 109) ⟨[]⟩ ⟨[]⟩)]⟩ h0 (Value.bool r) h0:=by
 unfold cf_unknown_wp at hm
 refine fnW hM Tryz.func70 rfl (hP _ _ rfl Tryz.func70) (lbE rfl) hB (enc:=Value.bool) (fun r=>PureV.flat rfl) fun O=>?_;conv=>whnf
 apply Cs;(conv=>whnf);repeat(first|apply Cs|apply Hs|apply Hx);conv=>whnf
 obtain⟨r1,hm,hcall⟩:=cf_unknownI_walk hm O.has
 refine⟨_,_,hcall,?_⟩;(conv=>whnf);repeat(first|apply Cs|apply Hs|apply Hx);conv=>whnf
 exact⟨(!ltI r1 (Int.ofNat 0)),hm,O.ext,fun h2 F=>VLe.refl _ _⟩
def if_driven_wp (p0:(List Nat)) (K:Int→Prop):Prop :=
 joinW (α:=Unit) (fun k1=>loopW (S:=Nat) (fun v2 nx3=>((ltN v2 p0.length)=true→∃ x4,p0[v2]?=some x4∧((neN x4 3)=true→K (Int.ofNat v2))∧((neN x4 3)=false→v2+1<2 ^ 63∧nx3 (v2+1)))∧((ltN v2 p0.length)=false→k1 ())) 0) (fun _=>K (Int.negSucc 0))
theorem if_driven_walk {p0:(List Nat)}{K:Int→Prop} (hm:if_driven_wp p0 K) {h0:Heap} (hB:HasB vars h0):∃ r,K r∧CallD Tryz.prog NG 100 ⟨[(encL 1 n8) p0,(.func (.func 110) ⟨[]⟩ ⟨[]⟩)]⟩ h0 (z64 r) h0:=by
 unfold if_driven_wp at hm
 refine fnW hM Tryz.func100 rfl (hP _ _ rfl Tryz.func100) (lbE rfl) hB (enc:=z64) (fun r=>PureV.flat rfl) fun O=>?_;conv=>whnf
 apply Cs;conv=>whnf
 apply Cs;(conv=>whnf);repeat(first|apply Hs|apply Hx);conv=>whnf
 refine CodeS.joinWS hm (nn:=19) (σ:=Unit×Unit) (fun s=>s.1) (fun (_,_) h=>Own vars h0 [] h∧True) (fun (_,_)=>[]) rfl (fun hm'=>?_) ?_
 ·replace hm:=hm'
  apply Cs;(conv=>whnf);repeat(first|apply Cs|apply Hs|apply Hx);conv=>whnf
  refine lenM (s:=1) (enc:=n8) (l:=p0) rfl rfl ?_;(conv=>whnf);repeat(first|apply Cs|apply Hs|apply Hx);conv=>whnf
  refine loopWK hM (by kernel_rfl) (nn:=19) (S:=Nat) (σ:=Nat×Unit) (fun s=>s.1) (fun (v2,_) h=>Own vars h0 [] h∧True) (fun (v2,_)=>[(0,((encL 1 n8) p0)),(1,(.func (.func 110) ⟨[]⟩ ⟨[]⟩)),(7,(i64 p0.length)),(8,(i64 v2))]) rfl (0,()) hm ⟨O,trivial⟩ ⟨VLe.refl _ _,VLe.refl _ _,VLe.refl _ _,VLe.refl _ _,trivial⟩ ?_
  clear hm;rintro⟨v2,_⟩ nx3 base h hm ⟨O,_⟩
  ((conv=>whnf);repeat(first|apply Cs|apply Hs|apply Hx);conv=>whnf)
  refine⟨_,rfl,fun hc=>?_,fun hc=>?_⟩
  ·replace hm:=hm.1 hc
   apply Cs;(conv=>whnf);repeat(first|apply Cs|apply Hs|apply Hx);conv=>whnf
   obtain⟨x4,hx4,hm⟩:=hm
   refine flAtM (s:=1) (enc:=n8) (j:=v2) rfl rfl rfl rfl hx4 ?_;(conv=>whnf);repeat(first|apply Hs|apply Hx);conv=>whnf
   refine⟨_,(rfl:aread _ _ _ _=some _),?_⟩;(conv=>whnf);repeat(first|apply Hs|apply Hx);conv=>whnf
   refine fnG hM Tryz.func110 rfl (hP _ _ rfl Tryz.func110) (lbE rfl) ?_;(conv=>whnf);repeat(first|apply Cs|apply Hs|apply Hx);conv=>whnf
   refine⟨_,rfl,fun hc=>?_,fun hc=>?_⟩
   ·replace hm:=hm.1 hc
    apply Cs;(conv=>whnf);repeat(first|apply Cs|apply Hs|apply Hx);conv=>whnf
    exact⟨(Int.ofNat v2),hm,O.ext,fun h2 F=>VLe.refl _ _⟩
   ·replace hm:=hm.2 hc
    apply Cs;(conv=>whnf);repeat(first|apply Cs|apply Hs|apply Hx);conv=>whnf
    refine⟨_,addK (a:=v2) (b:=1) rfl rfl hm.1,?_⟩;(conv=>whnf);repeat(first|apply Hs|apply Hx);conv=>whnf
    replace hm:=hm.2
    exact⟨((v2+1),()),hm,⟨O,trivial⟩,VLe.refl _ _,VLe.refl _ _,VLe.refl _ _,VLe.refl _ _,trivial⟩
  ·replace hm:=hm.2 hc
   apply Cs;(conv=>whnf);repeat(first|apply Cs|apply Hs|apply Hx);conv=>whnf
   exact⟨((),()),hm,⟨O,trivial⟩,trivial⟩
 ·clear hm;rintro⟨_,_⟩ base h hm ⟨O,_⟩
  ((conv=>whnf);repeat(first|apply Cs|apply Hs|apply Hx);conv=>whnf)
  exact⟨(Int.negSucc 0),hm,O.ext,fun h2 F=>VLe.refl _ _⟩
def logic_Known_wp (p0:Nat) (K:Bool→Prop):Prop :=
 K (!ltN 1 p0)
theorem logic_Known_walk {p0:Nat}{K:Bool→Prop} (hm:logic_Known_wp p0 K) {h0:Heap} (hB:HasB vars h0):∃ r,K r∧CallD Tryz.prog NG 40 ⟨[n8 p0]⟩ h0 (Value.bool r) h0:=by
 unfold logic_Known_wp at hm
 refine fnW hM Tryz.func40 rfl (hP _ _ rfl Tryz.func40) (lbE rfl) hB (enc:=Value.bool) (fun r=>PureV.flat rfl) fun O=>?_;conv=>whnf
 apply Cs;(conv=>whnf);repeat(first|apply Cs|apply Hs|apply Hx);conv=>whnf
 exact⟨(!ltN 1 p0),hm,O.ext,fun h2 F=>VLe.refl _ _⟩
def logic_Not_wp (p0:Nat) (K:Nat→Prop):Prop :=
 logic_Known_wp p0 (fun r1=>(r1=true→p0≤1∧1<256∧K (1-p0))∧(r1=false→K 2))
theorem logic_Not_walk {p0:Nat}{K:Nat→Prop} (hm:logic_Not_wp p0 K) {h0:Heap} (hB:HasB vars h0):∃ r,K r∧CallD Tryz.prog NG 83 ⟨[n8 p0]⟩ h0 (n8 r) h0:=by
 unfold logic_Not_wp at hm
 refine fnW hM Tryz.func83 rfl (hP _ _ rfl Tryz.func83) (lbE rfl) hB (enc:=n8) (fun r=>PureV.flat rfl) fun O=>?_;conv=>whnf
 apply Cs;(conv=>whnf);repeat(first|apply Cs|apply Hs|apply Hx);conv=>whnf
 obtain⟨r1,hm,hcall⟩:=logic_Known_walk hm O.has
 refine⟨_,_,hcall,?_⟩;(conv=>whnf);repeat(first|apply Cs|apply Hs|apply Hx);conv=>whnf
 refine⟨_,rfl,fun hc=>?_,fun hc=>?_⟩
 ·replace hm:=hm.1 hc
  apply Cs;(conv=>whnf);repeat(first|apply Cs|apply Hs|apply Hx);conv=>whnf
  refine⟨_,subU8K (a:=1) (b:=p0) rfl rfl hm.1 hm.2.1,?_⟩;(conv=>whnf);repeat(first|apply Cs|apply Hs|apply Hx);conv=>whnf
  replace hm:=hm.2.2
  exact⟨(1-p0),hm,O.ext,fun h2 F=>VLe.refl _ _⟩
 ·replace hm:=hm.2 hc
  apply Cs;(conv=>whnf);repeat(first|apply Cs|apply Hs|apply Hx);conv=>whnf
  exact⟨2,hm,O.ext,fun h2 F=>VLe.refl _ _⟩
def logic_Read_wp (p0:Nat) (K:Nat→Prop):Prop :=
 K (min p0 2)
theorem logic_Read_walk {p0:Nat}{K:Nat→Prop} (hm:logic_Read_wp p0 K) {h0:Heap} (hB:HasB vars h0):∃ r,K r∧CallD Tryz.prog NG 68 ⟨[n8 p0]⟩ h0 (n8 r) h0:=by
 unfold logic_Read_wp at hm
 refine fnW hM Tryz.func68 rfl (hP _ _ rfl Tryz.func68) (lbE rfl) hB (enc:=n8) (fun r=>PureV.flat rfl) fun O=>?_;conv=>whnf
 apply Cs;(conv=>whnf);repeat(first|apply Cs|apply Hs|apply Hx);conv=>whnf
 refine⟨_,minK (a:=p0) (b:=2) rfl rfl,?_⟩;(conv=>whnf);repeat(first|apply Cs|apply Hs|apply Hx);conv=>whnf
 exact⟨(min p0 2),hm,O.ext,fun h2 F=>VLe.refl _ _⟩
def logic_decided_wp (p0:(List Nat)) (p1:Nat) (p2:Nat) (K:Nat→Prop):Prop :=
 joinW (α:=Nat) (fun k2=>loopW (S:=(Nat×Nat)) (fun (v3,v4) nx5=>((ltN v4 p0.length)=true→joinW (α:=Nat) (fun k7=>∃ x8,p0[v4]?=some x8∧((eqN x8 p1)=true→K p1)∧((eqN x8 p1)=false→((neN x8 p2)=true→k7 2)∧((neN x8 p2)=false→k7 v3))) (fun v6=>v4+1<2 ^ 63∧nx5 (v6,(v4+1))))∧((ltN v4 p0.length)=false→k2 v3)) (p2,0)) (fun v1=>K v1)
theorem logic_decided_walk {p0:(List Nat)}{p1:Nat}{p2:Nat}{K:Nat→Prop} (hm:logic_decided_wp p0 p1 p2 K) {h0:Heap} (hB:HasB vars h0):∃ r,K r∧CallD Tryz.prog NG 108 ⟨[(encL 1 n8) p0,n8 p1,n8 p2]⟩ h0 (n8 r) h0:=by
 unfold logic_decided_wp at hm
 refine fnW hM Tryz.func108 rfl (hP _ _ rfl Tryz.func108) (lbE rfl) hB (enc:=n8) (fun r=>PureV.flat rfl) fun O=>?_;conv=>whnf
 apply Cs;conv=>whnf
 apply Cs;(conv=>whnf);repeat(first|apply Hs|apply Hx);conv=>whnf
 apply Cs;conv=>whnf
 apply Cs;(conv=>whnf);repeat(first|apply Hs|apply Hx);conv=>whnf
 refine CodeS.joinWS hm (nn:=28) (σ:=Nat×Unit) (fun s=>s.1) (fun (v1,_) h=>Own vars h0 [] h∧True) (fun (v1,_)=>[(7,(n8 v1))]) rfl (fun hm'=>?_) ?_
 ·replace hm:=hm'
  apply Cs;(conv=>whnf);repeat(first|apply Cs|apply Hs|apply Hx);conv=>whnf
  refine lenM (s:=1) (enc:=n8) (l:=p0) rfl rfl ?_;(conv=>whnf);repeat(first|apply Cs|apply Hs|apply Hx);conv=>whnf
  refine loopWK hM (by kernel_rfl) (nn:=28) (S:=(Nat×Nat)) (σ:=(Nat×Nat)×Unit) (fun s=>s.1) (fun ((v3,v4),_) h=>Own vars h0 [] h∧True) (fun ((v3,v4),_)=>[(1,(n8 p1)),(2,(n8 p2)),(7,(n8 v3)),(11,((encL 1 n8) p0)),(12,(i64 p0.length)),(13,(i64 v4))]) rfl ((p2,0),()) hm ⟨O,trivial⟩ ⟨VLe.refl _ _,VLe.refl _ _,VLe.refl _ _,VLe.refl _ _,VLe.refl _ _,VLe.refl _ _,trivial⟩ ?_
  clear hm;rintro⟨⟨v3,v4⟩,_⟩ nx5 base h hm ⟨O,_⟩
  ((conv=>whnf);repeat(first|apply Cs|apply Hs|apply Hx);conv=>whnf)
  refine⟨_,rfl,fun hc=>?_,fun hc=>?_⟩
  ·replace hm:=hm.1 hc
   apply Cs;conv=>whnf
   refine CodeS.joinWS hm (nn:=28) (σ:=Nat×Unit) (fun s=>s.1) (fun (v6,_) h=>Own vars h0 [] h∧True) (fun (v6,_)=>[(1,(n8 p1)),(2,(n8 p2)),(7,(n8 v6)),(11,((encL 1 n8) p0)),(12,(i64 p0.length)),(13,(i64 v4))]) rfl (fun hm'=>?_) ?_
   ·replace hm:=hm'
    apply Cs;(conv=>whnf);repeat(first|apply Cs|apply Hs|apply Hx);conv=>whnf
    obtain⟨x8,hx8,hm⟩:=hm
    refine flAtM (s:=1) (enc:=n8) (j:=v4) rfl rfl rfl rfl hx8 ?_;(conv=>whnf);repeat(first|apply Hs|apply Hx);conv=>whnf
    refine⟨_,(rfl:aread _ _ _ _=some _),?_⟩;(conv=>whnf);repeat(first|apply Cs|apply Hs|apply Hx);conv=>whnf
    refine⟨_,rfl,fun hc=>?_,fun hc=>?_⟩
    ·replace hm:=hm.1 hc
     apply Cs;(conv=>whnf);repeat(first|apply Cs|apply Hs|apply Hx);conv=>whnf
     exact⟨p1,hm,O.ext,fun h2 F=>VLe.refl _ _⟩
    ·replace hm:=hm.2 hc
     apply Cs;(conv=>whnf);repeat(first|apply Cs|apply Hs|apply Hx);conv=>whnf
     refine⟨_,rfl,fun hc=>?_,fun hc=>?_⟩
     ·replace hm:=hm.1 hc
      apply Cs;(conv=>whnf);repeat(first|apply Cs|apply Hs|apply Hx);conv=>whnf
      exact⟨(2,()),hm,⟨O,trivial⟩,VLe.refl _ _,VLe.refl _ _,VLe.refl _ _,VLe.refl _ _,VLe.refl _ _,VLe.refl _ _,trivial⟩
     ·replace hm:=hm.2 hc
      apply Cs;(conv=>whnf);repeat(first|apply Cs|apply Hs|apply Hx);conv=>whnf
      exact⟨(v3,()),hm,⟨O,trivial⟩,VLe.refl _ _,VLe.refl _ _,VLe.refl _ _,VLe.refl _ _,VLe.refl _ _,VLe.refl _ _,trivial⟩
   ·clear hm;rintro⟨v6,_⟩ base h hm ⟨O,_⟩
    ((conv=>whnf);repeat(first|apply Cs|apply Hs|apply Hx);conv=>whnf)
    refine⟨_,addK (a:=v4) (b:=1) rfl rfl hm.1,?_⟩;(conv=>whnf);repeat(first|apply Hs|apply Hx);conv=>whnf
    replace hm:=hm.2
    exact⟨((v6,(v4+1)),()),hm,⟨O,trivial⟩,VLe.refl _ _,VLe.refl _ _,VLe.refl _ _,VLe.refl _ _,VLe.refl _ _,VLe.refl _ _,trivial⟩
  ·replace hm:=hm.2 hc
   apply Cs;(conv=>whnf);repeat(first|apply Cs|apply Hs|apply Hx);conv=>whnf
   exact⟨(v3,()),hm,⟨O,trivial⟩,VLe.refl _ _,trivial⟩
 ·clear hm;rintro⟨v1,_⟩ base h hm ⟨O,_⟩
  ((conv=>whnf);repeat(first|apply Cs|apply Hs|apply Hx);conv=>whnf)
  exact⟨v1,hm,O.ext,fun h2 F=>VLe.refl _ _⟩
def logic_And_wp (p0:(List Nat)) (K:Nat→Prop):Prop :=
 logic_decided_wp p0 0 1 (fun r1=>K r1)
theorem logic_And_walk {p0:(List Nat)}{K:Nat→Prop} (hm:logic_And_wp p0 K) {h0:Heap} (hB:HasB vars h0):∃ r,K r∧CallD Tryz.prog NG 84 ⟨[(encL 1 n8) p0]⟩ h0 (n8 r) h0:=by
 unfold logic_And_wp at hm
 refine fnW hM Tryz.func84 rfl (hP _ _ rfl Tryz.func84) (lbE rfl) hB (enc:=n8) (fun r=>PureV.flat rfl) fun O=>?_;conv=>whnf
 apply Cs;(conv=>whnf);repeat(first|apply Cs|apply Hs|apply Hx);conv=>whnf
 obtain⟨r1,hm,hcall⟩:=logic_decided_walk hm O.has
 refine⟨_,_,hcall,?_⟩;(conv=>whnf);repeat(first|apply Cs|apply Hs|apply Hx);conv=>whnf
 exact⟨r1,hm,O.ext,fun h2 F=>VLe.refl _ _⟩
def logic_Or_wp (p0:(List Nat)) (K:Nat→Prop):Prop :=
 logic_decided_wp p0 1 0 (fun r1=>K r1)
theorem logic_Or_walk {p0:(List Nat)}{K:Nat→Prop} (hm:logic_Or_wp p0 K) {h0:Heap} (hB:HasB vars h0):∃ r,K r∧CallD Tryz.prog NG 85 ⟨[(encL 1 n8) p0]⟩ h0 (n8 r) h0:=by
 unfold logic_Or_wp at hm
 refine fnW hM Tryz.func85 rfl (hP _ _ rfl Tryz.func85) (lbE rfl) hB (enc:=n8) (fun r=>PureV.flat rfl) fun O=>?_;conv=>whnf
 apply Cs;(conv=>whnf);repeat(first|apply Cs|apply Hs|apply Hx);conv=>whnf
 obtain⟨r1,hm,hcall⟩:=logic_decided_walk hm O.has
 refine⟨_,_,hcall,?_⟩;(conv=>whnf);repeat(first|apply Cs|apply Hs|apply Hx);conv=>whnf
 exact⟨r1,hm,O.ext,fun h2 F=>VLe.refl _ _⟩
def logic_Xor_wp (p0:(List Nat)) (K:Nat→Prop):Prop :=
 joinW (α:=Nat) (fun k2=>loopW (S:=(Nat×Nat)) (fun (v3,v4) nx5=>((ltN v4 p0.length)=true→∃ x6,p0[v4]?=some x6∧logic_Known_wp x6 (fun r7=>((!r7)=true→K 2)∧((!r7)=false→v3<256∧x6<256∧v4+1<2 ^ 63∧nx5 ((v3 ^^^ x6),(v4+1)))))∧((ltN v4 p0.length)=false→k2 v3)) (0,0)) (fun v1=>K v1)
theorem logic_Xor_walk {p0:(List Nat)}{K:Nat→Prop} (hm:logic_Xor_wp p0 K) {h0:Heap} (hB:HasB vars h0):∃ r,K r∧CallD Tryz.prog NG 86 ⟨[(encL 1 n8) p0]⟩ h0 (n8 r) h0:=by
 unfold logic_Xor_wp at hm
 refine fnW hM Tryz.func86 rfl (hP _ _ rfl Tryz.func86) (lbE rfl) hB (enc:=n8) (fun r=>PureV.flat rfl) fun O=>?_;conv=>whnf
 apply Cs;conv=>whnf
 apply Cs;(conv=>whnf);repeat(first|apply Hs|apply Hx);conv=>whnf
 apply Cs;conv=>whnf
 apply Cs;(conv=>whnf);repeat(first|apply Hs|apply Hx);conv=>whnf
 refine CodeS.joinWS hm (nn:=20) (σ:=Nat×Unit) (fun s=>s.1) (fun (v1,_) h=>Own vars h0 [] h∧True) (fun (v1,_)=>[(3,(n8 v1))]) rfl (fun hm'=>?_) ?_
 ·replace hm:=hm'
  apply Cs;(conv=>whnf);repeat(first|apply Cs|apply Hs|apply Hx);conv=>whnf
  refine lenM (s:=1) (enc:=n8) (l:=p0) rfl rfl ?_;(conv=>whnf);repeat(first|apply Cs|apply Hs|apply Hx);conv=>whnf
  refine loopWK hM (by kernel_rfl) (nn:=20) (S:=(Nat×Nat)) (σ:=(Nat×Nat)×Unit) (fun s=>s.1) (fun ((v3,v4),_) h=>Own vars h0 [] h∧True) (fun ((v3,v4),_)=>[(3,(n8 v3)),(6,((encL 1 n8) p0)),(7,(i64 p0.length)),(8,(i64 v4))]) rfl ((0,0),()) hm ⟨O,trivial⟩ ⟨VLe.refl _ _,VLe.refl _ _,VLe.refl _ _,VLe.refl _ _,trivial⟩ ?_
  clear hm;rintro⟨⟨v3,v4⟩,_⟩ nx5 base h hm ⟨O,_⟩
  ((conv=>whnf);repeat(first|apply Cs|apply Hs|apply Hx);conv=>whnf)
  refine⟨_,rfl,fun hc=>?_,fun hc=>?_⟩
  ·replace hm:=hm.1 hc
   apply Cs;(conv=>whnf);repeat(first|apply Cs|apply Hs|apply Hx);conv=>whnf
   obtain⟨x6,hx6,hm⟩:=hm
   refine flAtM (s:=1) (enc:=n8) (j:=v4) rfl rfl rfl rfl hx6 ?_;(conv=>whnf);repeat(first|apply Hs|apply Hx);conv=>whnf
   refine⟨_,(rfl:aread _ _ _ _=some _),?_⟩;(conv=>whnf);repeat(first|apply Cs|apply Hs|apply Hx);conv=>whnf
   obtain⟨r7,hm,hcall⟩:=logic_Known_walk hm O.has
   refine⟨_,_,hcall,?_⟩;(conv=>whnf);repeat(first|apply Cs|apply Hs|apply Hx);conv=>whnf
   refine⟨_,rfl,fun hc=>?_,fun hc=>?_⟩
   ·replace hm:=hm.1 hc
    apply Cs;(conv=>whnf);repeat(first|apply Cs|apply Hs|apply Hx);conv=>whnf
    exact⟨2,hm,O.ext,fun h2 F=>VLe.refl _ _⟩
   ·replace hm:=hm.2 hc
    apply Cs;(conv=>whnf);repeat(first|apply Cs|apply Hs|apply Hx);conv=>whnf
    refine⟨_,xorU8K (a:=v3) (b:=x6) rfl rfl hm.1 hm.2.1,?_⟩;(conv=>whnf);repeat(first|apply Cs|apply Hs|apply Hx);conv=>whnf
    replace hm:=hm.2.2
    refine⟨_,addK (a:=v4) (b:=1) rfl rfl hm.1,?_⟩;(conv=>whnf);repeat(first|apply Hs|apply Hx);conv=>whnf
    replace hm:=hm.2
    exact⟨(((v3 ^^^ x6),(v4+1)),()),hm,⟨O,trivial⟩,VLe.refl _ _,VLe.refl _ _,VLe.refl _ _,VLe.refl _ _,trivial⟩
  ·replace hm:=hm.2 hc
   apply Cs;(conv=>whnf);repeat(first|apply Cs|apply Hs|apply Hx);conv=>whnf
   exact⟨(v3,()),hm,⟨O,trivial⟩,VLe.refl _ _,trivial⟩
 ·clear hm;rintro⟨v1,_⟩ base h hm ⟨O,_⟩
  ((conv=>whnf);repeat(first|apply Cs|apply Hs|apply Hx);conv=>whnf)
  exact⟨v1,hm,O.ext,fun h2 F=>VLe.refl _ _⟩
def logic_Mux_wp (p0:Nat) (p1:Nat) (p2:Nat) (K:Nat→Prop):Prop :=
 ((eqN p0 0)=true→logic_Read_wp p1 (fun r1=>K r1))∧((eqN p0 0)=false→((eqN p0 1)=true→logic_Read_wp p2 (fun r2=>K r2))∧((eqN p0 1)=false→((eqN p1 p2)=true→logic_Read_wp p1 (fun r3=>K r3))∧((eqN p1 p2)=false→K 2)))
theorem logic_Mux_walk {p0:Nat}{p1:Nat}{p2:Nat}{K:Nat→Prop} (hm:logic_Mux_wp p0 p1 p2 K) {h0:Heap} (hB:HasB vars h0):∃ r,K r∧CallD Tryz.prog NG 87 ⟨[n8 p0,n8 p1,n8 p2]⟩ h0 (n8 r) h0:=by
 unfold logic_Mux_wp at hm
 refine fnW hM Tryz.func87 rfl (hP _ _ rfl Tryz.func87) (lbE rfl) hB (enc:=n8) (fun r=>PureV.flat rfl) fun O=>?_;conv=>whnf
 apply Cs;(conv=>whnf);repeat(first|apply Cs|apply Hs|apply Hx);conv=>whnf
 refine⟨_,rfl,fun hc=>?_,fun hc=>?_⟩
 ·replace hm:=hm.1 hc
  apply Cs;(conv=>whnf);repeat(first|apply Cs|apply Hs|apply Hx);conv=>whnf
  obtain⟨r1,hm,hcall⟩:=logic_Read_walk hm O.has
  refine⟨_,_,hcall,?_⟩;(conv=>whnf);repeat(first|apply Cs|apply Hs|apply Hx);conv=>whnf
  exact⟨r1,hm,O.ext,fun h2 F=>VLe.refl _ _⟩
 ·replace hm:=hm.2 hc
  apply Cs;(conv=>whnf);repeat(first|apply Cs|apply Hs|apply Hx);conv=>whnf
  refine⟨_,rfl,fun hc=>?_,fun hc=>?_⟩
  ·replace hm:=hm.1 hc
   apply Cs;(conv=>whnf);repeat(first|apply Cs|apply Hs|apply Hx);conv=>whnf
   obtain⟨r2,hm,hcall⟩:=logic_Read_walk hm O.has
   refine⟨_,_,hcall,?_⟩;(conv=>whnf);repeat(first|apply Cs|apply Hs|apply Hx);conv=>whnf
   exact⟨r2,hm,O.ext,fun h2 F=>VLe.refl _ _⟩
  ·replace hm:=hm.2 hc
   apply Cs;(conv=>whnf);repeat(first|apply Cs|apply Hs|apply Hx);conv=>whnf
   refine⟨_,rfl,fun hc=>?_,fun hc=>?_⟩
   ·replace hm:=hm.1 hc
    apply Cs;(conv=>whnf);repeat(first|apply Cs|apply Hs|apply Hx);conv=>whnf
    obtain⟨r3,hm,hcall⟩:=logic_Read_walk hm O.has
    refine⟨_,_,hcall,?_⟩;(conv=>whnf);repeat(first|apply Cs|apply Hs|apply Hx);conv=>whnf
    exact⟨r3,hm,O.ext,fun h2 F=>VLe.refl _ _⟩
   ·replace hm:=hm.2 hc
    apply Cs;(conv=>whnf);repeat(first|apply Cs|apply Hs|apply Hx);conv=>whnf
    exact⟨2,hm,O.ext,fun h2 F=>VLe.refl _ _⟩
def logic_Tri_wp (p0:Nat) (p1:Nat) (K:Nat→Prop):Prop :=
 ((eqN p0 0)=true→K 3)∧((eqN p0 0)=false→((eqN p0 1)=true→logic_Read_wp p1 (fun r1=>K r1))∧((eqN p0 1)=false→K 2))
theorem logic_Tri_walk {p0:Nat}{p1:Nat}{K:Nat→Prop} (hm:logic_Tri_wp p0 p1 K) {h0:Heap} (hB:HasB vars h0):∃ r,K r∧CallD Tryz.prog NG 88 ⟨[n8 p0,n8 p1]⟩ h0 (n8 r) h0:=by
 unfold logic_Tri_wp at hm
 refine fnW hM Tryz.func88 rfl (hP _ _ rfl Tryz.func88) (lbE rfl) hB (enc:=n8) (fun r=>PureV.flat rfl) fun O=>?_;conv=>whnf
 apply Cs;(conv=>whnf);repeat(first|apply Cs|apply Hs|apply Hx);conv=>whnf
 refine⟨_,rfl,fun hc=>?_,fun hc=>?_⟩
 ·replace hm:=hm.1 hc
  apply Cs;(conv=>whnf);repeat(first|apply Cs|apply Hs|apply Hx);conv=>whnf
  exact⟨3,hm,O.ext,fun h2 F=>VLe.refl _ _⟩
 ·replace hm:=hm.2 hc
  apply Cs;(conv=>whnf);repeat(first|apply Cs|apply Hs|apply Hx);conv=>whnf
  refine⟨_,rfl,fun hc=>?_,fun hc=>?_⟩
  ·replace hm:=hm.1 hc
   apply Cs;(conv=>whnf);repeat(first|apply Cs|apply Hs|apply Hx);conv=>whnf
   obtain⟨r1,hm,hcall⟩:=logic_Read_walk hm O.has
   refine⟨_,_,hcall,?_⟩;(conv=>whnf);repeat(first|apply Cs|apply Hs|apply Hx);conv=>whnf
   exact⟨r1,hm,O.ext,fun h2 F=>VLe.refl _ _⟩
  ·replace hm:=hm.2 hc
   apply Cs;(conv=>whnf);repeat(first|apply Cs|apply Hs|apply Hx);conv=>whnf
   exact⟨2,hm,O.ext,fun h2 F=>VLe.refl _ _⟩
def logic_Conflict_wp (p0:(List Nat)) (K:Bool→Prop):Prop :=
 sl_ContainsV_wp p0 0 (fun r1=>(r1=true→sl_ContainsV_wp p0 1 (fun r2=>K r2))∧(r1=false→K false))
theorem logic_Conflict_walk {p0:(List Nat)}{K:Bool→Prop} (hm:logic_Conflict_wp p0 K) {h0:Heap} (hB:HasB vars h0):∃ r,K r∧CallD Tryz.prog NG 111 ⟨[(encL 1 n8) p0]⟩ h0 (Value.bool r) h0:=by
 unfold logic_Conflict_wp at hm
 refine fnW hM Tryz.func111 rfl (hP _ _ rfl Tryz.func111) (lbE rfl) hB (enc:=Value.bool) (fun r=>PureV.flat rfl) fun O=>?_;conv=>whnf
 apply Cs;(conv=>whnf);repeat(first|apply Cs|apply Hs|apply Hx);conv=>whnf
 obtain⟨r1,hm,hcall⟩:=sl_ContainsV_walk hm O.has
 refine⟨_,_,hcall,?_⟩;(conv=>whnf);repeat(first|apply Hs|apply Hx);conv=>whnf
 refine⟨_,rfl,fun hc=>?_,fun hc=>?_⟩
 ·replace hm:=hm.1 hc;(conv=>whnf);repeat(first|apply Hs|apply Hx);conv=>whnf
  obtain⟨r2,hm,hcall⟩:=sl_ContainsV_walk hm O.has
  refine⟨_,_,hcall,?_⟩;(conv=>whnf);repeat(first|apply Cs|apply Hs|apply Hx);conv=>whnf
  exact⟨r2,hm,O.ext,fun h2 F=>VLe.refl _ _⟩
 ·replace hm:=hm.2 hc;(conv=>whnf);repeat(first|apply Cs|apply Hs|apply Hx);conv=>whnf
  exact⟨false,hm,O.ext,fun h2 F=>VLe.refl _ _⟩
def logic_Bus_wp (p0:(List Nat)) (K:Nat→Prop):Prop :=
 if_driven_wp p0 (fun r1=>((ltI r1 (Int.ofNat 0))=true→K 3)∧((ltI r1 (Int.ofNat 0))=false→joinW (α:=Bool) (fun k3=>logic_Conflict_wp p0 (fun r4=>(r4=true→k3 true)∧(r4=false→cf_unknown_wp p0 (fun r5=>k3 r5)))) (fun v2=>(v2=true→K 2)∧(v2=false→∃ j7:Nat,r1=Int.ofNat j7∧∃ x6,p0[j7]?=some x6∧K x6))))
theorem logic_Bus_walk {p0:(List Nat)}{K:Nat→Prop} (hm:logic_Bus_wp p0 K) {h0:Heap} (hB:HasB vars h0):∃ r,K r∧CallD Tryz.prog NG 89 ⟨[(encL 1 n8) p0]⟩ h0 (n8 r) h0:=by
 unfold logic_Bus_wp at hm
 refine fnW hM Tryz.func89 rfl (hP _ _ rfl Tryz.func89) (lbE rfl) hB (enc:=n8) (fun r=>PureV.flat rfl) fun O=>?_;conv=>whnf
 apply Cs;(conv=>whnf);repeat(first|apply Cs|apply Hs|apply Hx);conv=>whnf
 obtain⟨r1,hm,hcall⟩:=if_driven_walk hm O.has
 refine⟨_,_,hcall,?_⟩;(conv=>whnf);repeat(first|apply Cs|apply Hs|apply Hx);conv=>whnf
 refine⟨_,rfl,fun hc=>?_,fun hc=>?_⟩
 ·replace hm:=hm.1 hc
  apply Cs;(conv=>whnf);repeat(first|apply Cs|apply Hs|apply Hx);conv=>whnf
  exact⟨3,hm,O.ext,fun h2 F=>VLe.refl _ _⟩
 ·replace hm:=hm.2 hc
  refine CodeS.joinWS hm (nn:=24) (σ:=Bool×Unit) (fun s=>s.1) (fun (v2,_) h=>Own vars h0 [] h∧True) (fun (v2,_)=>[(0,((encL 1 n8) p0)),(5,(z64 r1)),(12,(.bool v2))]) rfl (fun hm'=>?_) ?_
  ·replace hm:=hm'
   apply Cs;(conv=>whnf);repeat(first|apply Cs|apply Hs|apply Hx);conv=>whnf
   obtain⟨r4,hm,hcall⟩:=logic_Conflict_walk hm O.has
   refine⟨_,_,hcall,?_⟩;(conv=>whnf);repeat(first|apply Hs|apply Hx);conv=>whnf
   refine⟨_,rfl,fun hc=>?_,fun hc=>?_⟩
   ·replace hm:=hm.1 hc;(conv=>whnf);repeat(first|apply Hs|apply Hx);conv=>whnf
    exact⟨(true,()),hm,⟨O,trivial⟩,VLe.refl _ _,VLe.refl _ _,VLe.refl _ _,trivial⟩
   ·replace hm:=hm.2 hc;(conv=>whnf);repeat(first|apply Hs|apply Hx);conv=>whnf
    obtain⟨r5,hm,hcall⟩:=cf_unknown_walk hm O.has
    refine⟨_,_,hcall,?_⟩;(conv=>whnf);repeat(first|apply Hs|apply Hx);conv=>whnf
    exact⟨(r5,()),hm,⟨O,trivial⟩,VLe.refl _ _,VLe.refl _ _,VLe.refl _ _,trivial⟩
  ·clear hm;rintro⟨v2,_⟩ base h hm ⟨O,_⟩
   ((conv=>whnf);repeat(first|apply Cs|apply Hs|apply Hx);conv=>whnf)
   refine⟨_,rfl,fun hc=>?_,fun hc=>?_⟩
   ·replace hm:=hm.1 hc
    apply Cs;(conv=>whnf);repeat(first|apply Cs|apply Hs|apply Hx);conv=>whnf
    exact⟨2,hm,O.ext,fun h2 F=>VLe.refl _ _⟩
   ·replace hm:=hm.2 hc
    apply Cs;(conv=>whnf);repeat(first|apply Cs|apply Hs|apply Hx);conv=>whnf
    obtain⟨j7,hz,x6,hx6,hm⟩:=hm
    refine flAtM (s:=1) (enc:=n8) (j:=j7) rfl rfl rfl (congrArg (Value.int .i64) hz) hx6 ?_;(conv=>whnf);repeat(first|apply Hs|apply Hx);conv=>whnf
    refine⟨_,(rfl:aread _ _ _ _=some _),?_⟩;(conv=>whnf);repeat(first|apply Cs|apply Hs|apply Hx);conv=>whnf
    exact⟨x6,hm,O.ext,fun h2 F=>VLe.refl _ _⟩
def logic_Eval_wp (p0:Nat) (p1:(List Nat)) (K:Nat→Prop):Prop :=
 logic_Fanin_wp p0 (fun r1=>joinW (α:=Bool) (fun k3=>((ltN p1.length r1.1)=true→k3 true)∧((ltN p1.length r1.1)=false→k3 (ltI r1.2 (Int.ofNat p1.length)))) (fun v2=>(v2=true→K 2)∧(v2=false→((eqN p0 1)=true→K 0)∧((eqN p0 1)=false→((eqN p0 2)=true→K 1)∧((eqN p0 2)=false→((eqN p0 3)=true→∃ x4,p1[0]?=some x4∧logic_Read_wp x4 (fun r5=>K r5))∧((eqN p0 3)=false→((eqN p0 4)=true→∃ x6,p1[0]?=some x6∧logic_Not_wp x6 (fun r7=>K r7))∧((eqN p0 4)=false→((eqN p0 5)=true→logic_And_wp p1 (fun r8=>K r8))∧((eqN p0 5)=false→((eqN p0 6)=true→logic_And_wp p1 (fun r9=>logic_Not_wp r9 (fun r10=>K r10)))∧((eqN p0 6)=false→((eqN p0 7)=true→logic_Or_wp p1 (fun r11=>K r11))∧((eqN p0 7)=false→((eqN p0 8)=true→logic_Or_wp p1 (fun r12=>logic_Not_wp r12 (fun r13=>K r13)))∧((eqN p0 8)=false→((eqN p0 9)=true→logic_Xor_wp p1 (fun r14=>K r14))∧((eqN p0 9)=false→((eqN p0 10)=true→logic_Xor_wp p1 (fun r15=>logic_Not_wp r15 (fun r16=>K r16)))∧((eqN p0 10)=false→((eqN p0 11)=true→∃ x17,p1[0]?=some x17∧∃ x18,p1[1]?=some x18∧∃ x19,p1[2]?=some x19∧logic_Mux_wp x17 x18 x19 (fun r20=>K r20))∧((eqN p0 11)=false→((eqN p0 12)=true→∃ x21,p1[0]?=some x21∧∃ x22,p1[1]?=some x22∧logic_Tri_wp x21 x22 (fun r23=>K r23))∧((eqN p0 12)=false→((eqN p0 13)=true→logic_Bus_wp p1 (fun r24=>K r24))∧((eqN p0 13)=false→K 2))))))))))))))))
theorem logic_Eval_walk {p0:Nat}{p1:(List Nat)}{K:Nat→Prop} (hm:logic_Eval_wp p0 p1 K) {h0:Heap} (hB:HasB vars h0):∃ r,K r∧CallD Tryz.prog NG 52 ⟨[n8 p0,(encL 1 n8) p1]⟩ h0 (n8 r) h0:=by
 unfold logic_Eval_wp at hm
 refine fnW hM Tryz.func52 rfl (hP _ _ rfl Tryz.func52) (lbE rfl) hB (enc:=n8) (fun r=>PureV.flat rfl) fun O=>?_;conv=>whnf
 apply Cs;(conv=>whnf);repeat(first|apply Cs|apply Hs|apply Hx);conv=>whnf
 obtain⟨r1,hm,hcall⟩:=logic_Fanin_walk hm O.has
 refine⟨_,_,hcall,?_⟩;(conv=>whnf);repeat(first|apply Hs|apply Hx);conv=>whnf
 refine CodeS.joinWS hm (nn:=91) (σ:=Bool×Unit) (fun s=>s.1) (fun (v2,_) h=>Own vars h0 [] h∧True) (fun (v2,_)=>[(0,(n8 p0)),(1,((encL 1 n8) p1)),(21,(.bool v2))]) rfl (fun hm'=>?_) ?_
 ·replace hm:=hm'
  apply Cs;(conv=>whnf);repeat(first|apply Cs|apply Hs|apply Hx);conv=>whnf
  refine lenM (s:=1) (enc:=n8) (l:=p1) rfl rfl ?_;(conv=>whnf);repeat(first|apply Hs|apply Hx);conv=>whnf
  refine⟨_,rfl,fun hc=>?_,fun hc=>?_⟩
  ·replace hm:=hm.1 hc;(conv=>whnf);repeat(first|apply Hs|apply Hx);conv=>whnf
   exact⟨(true,()),hm,⟨O,trivial⟩,VLe.refl _ _,VLe.refl _ _,VLe.refl _ _,trivial⟩
  ·replace hm:=hm.2 hc;(conv=>whnf);repeat(first|apply Hs|apply Hx);conv=>whnf
   refine lenM (s:=1) (enc:=n8) (l:=p1) rfl rfl ?_;(conv=>whnf);repeat(first|apply Hs|apply Hx);conv=>whnf
   exact⟨((ltI r1.2 (Int.ofNat p1.length)),()),hm,⟨O,trivial⟩,VLe.refl _ _,VLe.refl _ _,VLe.refl _ _,trivial⟩
 ·clear hm;rintro⟨v2,_⟩ base h hm ⟨O,_⟩
  ((conv=>whnf);repeat(first|apply Cs|apply Hs|apply Hx);conv=>whnf)
  refine⟨_,rfl,fun hc=>?_,fun hc=>?_⟩
  ·replace hm:=hm.1 hc
   apply Cs;(conv=>whnf);repeat(first|apply Cs|apply Hs|apply Hx);conv=>whnf
   exact⟨2,hm,O.ext,fun h2 F=>VLe.refl _ _⟩
  ·replace hm:=hm.2 hc
   apply Cs;(conv=>whnf);repeat(first|apply Cs|apply Hs|apply Hx);conv=>whnf
   refine⟨_,rfl,fun hc=>?_,fun hc=>?_⟩
   ·replace hm:=hm.1 hc
    apply Cs;(conv=>whnf);repeat(first|apply Cs|apply Hs|apply Hx);conv=>whnf
    exact⟨0,hm,O.ext,fun h2 F=>VLe.refl _ _⟩
   ·replace hm:=hm.2 hc
    apply Cs;(conv=>whnf);repeat(first|apply Cs|apply Hs|apply Hx);conv=>whnf
    refine⟨_,rfl,fun hc=>?_,fun hc=>?_⟩
    ·replace hm:=hm.1 hc
     apply Cs;(conv=>whnf);repeat(first|apply Cs|apply Hs|apply Hx);conv=>whnf
     exact⟨1,hm,O.ext,fun h2 F=>VLe.refl _ _⟩
    ·replace hm:=hm.2 hc
     apply Cs;(conv=>whnf);repeat(first|apply Cs|apply Hs|apply Hx);conv=>whnf
     refine⟨_,rfl,fun hc=>?_,fun hc=>?_⟩
     ·replace hm:=hm.1 hc
      apply Cs;(conv=>whnf);repeat(first|apply Cs|apply Hs|apply Hx);conv=>whnf
      obtain⟨x4,hx4,hm⟩:=hm
      refine flAtM (s:=1) (enc:=n8) (j:=0) rfl rfl rfl rfl hx4 ?_;(conv=>whnf);repeat(first|apply Hs|apply Hx);conv=>whnf
      refine⟨_,(rfl:aread _ _ _ _=some _),?_⟩;(conv=>whnf);repeat(first|apply Hs|apply Hx);conv=>whnf
      obtain⟨r5,hm,hcall⟩:=logic_Read_walk hm O.has
      refine⟨_,_,hcall,?_⟩;(conv=>whnf);repeat(first|apply Cs|apply Hs|apply Hx);conv=>whnf
      exact⟨r5,hm,O.ext,fun h2 F=>VLe.refl _ _⟩
     ·replace hm:=hm.2 hc
      apply Cs;(conv=>whnf);repeat(first|apply Cs|apply Hs|apply Hx);conv=>whnf
      refine⟨_,rfl,fun hc=>?_,fun hc=>?_⟩
      ·replace hm:=hm.1 hc
       apply Cs;(conv=>whnf);repeat(first|apply Cs|apply Hs|apply Hx);conv=>whnf
       obtain⟨x6,hx6,hm⟩:=hm
       refine flAtM (s:=1) (enc:=n8) (j:=0) rfl rfl rfl rfl hx6 ?_;(conv=>whnf);repeat(first|apply Hs|apply Hx);conv=>whnf
       refine⟨_,(rfl:aread _ _ _ _=some _),?_⟩;(conv=>whnf);repeat(first|apply Hs|apply Hx);conv=>whnf
       obtain⟨r7,hm,hcall⟩:=logic_Not_walk hm O.has
       refine⟨_,_,hcall,?_⟩;(conv=>whnf);repeat(first|apply Cs|apply Hs|apply Hx);conv=>whnf
       exact⟨r7,hm,O.ext,fun h2 F=>VLe.refl _ _⟩
      ·replace hm:=hm.2 hc
       apply Cs;(conv=>whnf);repeat(first|apply Cs|apply Hs|apply Hx);conv=>whnf
       refine⟨_,rfl,fun hc=>?_,fun hc=>?_⟩
       ·replace hm:=hm.1 hc
        apply Cs;(conv=>whnf);repeat(first|apply Cs|apply Hs|apply Hx);conv=>whnf
        obtain⟨r8,hm,hcall⟩:=logic_And_walk hm O.has
        refine⟨_,_,hcall,?_⟩;(conv=>whnf);repeat(first|apply Cs|apply Hs|apply Hx);conv=>whnf
        exact⟨r8,hm,O.ext,fun h2 F=>VLe.refl _ _⟩
       ·replace hm:=hm.2 hc
        apply Cs;(conv=>whnf);repeat(first|apply Cs|apply Hs|apply Hx);conv=>whnf
        refine⟨_,rfl,fun hc=>?_,fun hc=>?_⟩
        ·replace hm:=hm.1 hc
         apply Cs;(conv=>whnf);repeat(first|apply Cs|apply Hs|apply Hx);conv=>whnf
         obtain⟨r9,hm,hcall⟩:=logic_And_walk hm O.has
         refine⟨_,_,hcall,?_⟩;(conv=>whnf);repeat(first|apply Hs|apply Hx);conv=>whnf
         obtain⟨r10,hm,hcall⟩:=logic_Not_walk hm O.has
         refine⟨_,_,hcall,?_⟩;(conv=>whnf);repeat(first|apply Cs|apply Hs|apply Hx);conv=>whnf
         exact⟨r10,hm,O.ext,fun h2 F=>VLe.refl _ _⟩
        ·replace hm:=hm.2 hc
         apply Cs;(conv=>whnf);repeat(first|apply Cs|apply Hs|apply Hx);conv=>whnf
         refine⟨_,rfl,fun hc=>?_,fun hc=>?_⟩
         ·replace hm:=hm.1 hc
          apply Cs;(conv=>whnf);repeat(first|apply Cs|apply Hs|apply Hx);conv=>whnf
          obtain⟨r11,hm,hcall⟩:=logic_Or_walk hm O.has
          refine⟨_,_,hcall,?_⟩;(conv=>whnf);repeat(first|apply Cs|apply Hs|apply Hx);conv=>whnf
          exact⟨r11,hm,O.ext,fun h2 F=>VLe.refl _ _⟩
         ·replace hm:=hm.2 hc
          apply Cs;(conv=>whnf);repeat(first|apply Cs|apply Hs|apply Hx);conv=>whnf
          refine⟨_,rfl,fun hc=>?_,fun hc=>?_⟩
          ·replace hm:=hm.1 hc
           apply Cs;(conv=>whnf);repeat(first|apply Cs|apply Hs|apply Hx);conv=>whnf
           obtain⟨r12,hm,hcall⟩:=logic_Or_walk hm O.has
           refine⟨_,_,hcall,?_⟩;(conv=>whnf);repeat(first|apply Hs|apply Hx);conv=>whnf
           obtain⟨r13,hm,hcall⟩:=logic_Not_walk hm O.has
           refine⟨_,_,hcall,?_⟩;(conv=>whnf);repeat(first|apply Cs|apply Hs|apply Hx);conv=>whnf
           exact⟨r13,hm,O.ext,fun h2 F=>VLe.refl _ _⟩
          ·replace hm:=hm.2 hc
           apply Cs;(conv=>whnf);repeat(first|apply Cs|apply Hs|apply Hx);conv=>whnf
           refine⟨_,rfl,fun hc=>?_,fun hc=>?_⟩
           ·replace hm:=hm.1 hc
            apply Cs;(conv=>whnf);repeat(first|apply Cs|apply Hs|apply Hx);conv=>whnf
            obtain⟨r14,hm,hcall⟩:=logic_Xor_walk hm O.has
            refine⟨_,_,hcall,?_⟩;(conv=>whnf);repeat(first|apply Cs|apply Hs|apply Hx);conv=>whnf
            exact⟨r14,hm,O.ext,fun h2 F=>VLe.refl _ _⟩
           ·replace hm:=hm.2 hc
            apply Cs;(conv=>whnf);repeat(first|apply Cs|apply Hs|apply Hx);conv=>whnf
            refine⟨_,rfl,fun hc=>?_,fun hc=>?_⟩
            ·replace hm:=hm.1 hc
             apply Cs;(conv=>whnf);repeat(first|apply Cs|apply Hs|apply Hx);conv=>whnf
             obtain⟨r15,hm,hcall⟩:=logic_Xor_walk hm O.has
             refine⟨_,_,hcall,?_⟩;(conv=>whnf);repeat(first|apply Hs|apply Hx);conv=>whnf
             obtain⟨r16,hm,hcall⟩:=logic_Not_walk hm O.has
             refine⟨_,_,hcall,?_⟩;(conv=>whnf);repeat(first|apply Cs|apply Hs|apply Hx);conv=>whnf
             exact⟨r16,hm,O.ext,fun h2 F=>VLe.refl _ _⟩
            ·replace hm:=hm.2 hc
             apply Cs;(conv=>whnf);repeat(first|apply Cs|apply Hs|apply Hx);conv=>whnf
             refine⟨_,rfl,fun hc=>?_,fun hc=>?_⟩
             ·replace hm:=hm.1 hc
              apply Cs;(conv=>whnf);repeat(first|apply Cs|apply Hs|apply Hx);conv=>whnf
              obtain⟨x17,hx17,hm⟩:=hm
              refine flAtM (s:=1) (enc:=n8) (j:=0) rfl rfl rfl rfl hx17 ?_;(conv=>whnf);repeat(first|apply Hs|apply Hx);conv=>whnf
              refine⟨_,(rfl:aread _ _ _ _=some _),?_⟩;(conv=>whnf);repeat(first|apply Hs|apply Hx);conv=>whnf
              refine⟨.inl rfl,?_⟩;(conv=>whnf);repeat(first|apply Hs|apply Hx);conv=>whnf
              obtain⟨x18,hx18,hm⟩:=hm
              refine flAtM (s:=1) (enc:=n8) (j:=1) rfl rfl rfl rfl hx18 ?_;(conv=>whnf);repeat(first|apply Hs|apply Hx);conv=>whnf
              refine⟨_,(rfl:aread _ _ _ _=some _),?_⟩;(conv=>whnf);repeat(first|apply Hs|apply Hx);conv=>whnf
              refine⟨.inl rfl,?_⟩;(conv=>whnf);repeat(first|apply Hs|apply Hx);conv=>whnf
              obtain⟨x19,hx19,hm⟩:=hm
              refine flAtM (s:=1) (enc:=n8) (j:=2) rfl rfl rfl rfl hx19 ?_;(conv=>whnf);repeat(first|apply Hs|apply Hx);conv=>whnf
              refine⟨_,(rfl:aread _ _ _ _=some _),?_⟩;(conv=>whnf);repeat(first|apply Hs|apply Hx);conv=>whnf
              refine⟨.inl rfl,?_⟩;(conv=>whnf);repeat(first|apply Hs|apply Hx);conv=>whnf
              obtain⟨r20,hm,hcall⟩:=logic_Mux_walk hm O.has
              refine⟨_,_,hcall,?_⟩;(conv=>whnf);repeat(first|apply Hs|apply Hx);conv=>whnf
              refine⟨.inl (Ext.refl _),?_⟩;(conv=>whnf);repeat(first|apply Hs|apply Hx);conv=>whnf
              apply Cs;(conv=>whnf);repeat(first|apply Cs|apply Hs|apply Hx);conv=>whnf
              exact⟨r20,hm,O.ext,fun h2 F=>VLe.refl _ _⟩
             ·replace hm:=hm.2 hc
              apply Cs;(conv=>whnf);repeat(first|apply Cs|apply Hs|apply Hx);conv=>whnf
              refine⟨_,rfl,fun hc=>?_,fun hc=>?_⟩
              ·replace hm:=hm.1 hc
               apply Cs;(conv=>whnf);repeat(first|apply Cs|apply Hs|apply Hx);conv=>whnf
               obtain⟨x21,hx21,hm⟩:=hm
               refine flAtM (s:=1) (enc:=n8) (j:=0) rfl rfl rfl rfl hx21 ?_;(conv=>whnf);repeat(first|apply Hs|apply Hx);conv=>whnf
               refine⟨_,(rfl:aread _ _ _ _=some _),?_⟩;(conv=>whnf);repeat(first|apply Hs|apply Hx);conv=>whnf
               refine⟨.inl rfl,?_⟩;(conv=>whnf);repeat(first|apply Hs|apply Hx);conv=>whnf
               obtain⟨x22,hx22,hm⟩:=hm
               refine flAtM (s:=1) (enc:=n8) (j:=1) rfl rfl rfl rfl hx22 ?_;(conv=>whnf);repeat(first|apply Hs|apply Hx);conv=>whnf
               refine⟨_,(rfl:aread _ _ _ _=some _),?_⟩;(conv=>whnf);repeat(first|apply Hs|apply Hx);conv=>whnf
               refine⟨.inl rfl,?_⟩;(conv=>whnf);repeat(first|apply Hs|apply Hx);conv=>whnf
               obtain⟨r23,hm,hcall⟩:=logic_Tri_walk hm O.has
               refine⟨_,_,hcall,?_⟩;(conv=>whnf);repeat(first|apply Hs|apply Hx);conv=>whnf
               refine⟨.inl (Ext.refl _),?_⟩;(conv=>whnf);repeat(first|apply Hs|apply Hx);conv=>whnf
               apply Cs;(conv=>whnf);repeat(first|apply Cs|apply Hs|apply Hx);conv=>whnf
               exact⟨r23,hm,O.ext,fun h2 F=>VLe.refl _ _⟩
              ·replace hm:=hm.2 hc
               apply Cs;(conv=>whnf);repeat(first|apply Cs|apply Hs|apply Hx);conv=>whnf
               refine⟨_,rfl,fun hc=>?_,fun hc=>?_⟩
               ·replace hm:=hm.1 hc
                apply Cs;(conv=>whnf);repeat(first|apply Cs|apply Hs|apply Hx);conv=>whnf
                obtain⟨r24,hm,hcall⟩:=logic_Bus_walk hm O.has
                refine⟨_,_,hcall,?_⟩;(conv=>whnf);repeat(first|apply Cs|apply Hs|apply Hx);conv=>whnf
                exact⟨r24,hm,O.ext,fun h2 F=>VLe.refl _ _⟩
               ·replace hm:=hm.2 hc
                apply Cs;(conv=>whnf);repeat(first|apply Cs|apply Hs|apply Hx);conv=>whnf
                exact⟨2,hm,O.ext,fun h2 F=>VLe.refl _ _⟩
def sl_IndexK_wp (p0:(List Nat)) (p1:Nat) (K:Int→Prop):Prop :=
 joinW (α:=Unit) (fun k1=>loopW (S:=Nat) (fun v2 nx3=>((ltN v2 p0.length)=true→∃ x4,p0[v2]?=some x4∧((eqN p1 x4)=true→K (Int.ofNat v2))∧((eqN p1 x4)=false→v2+1<2 ^ 63∧nx3 (v2+1)))∧((ltN v2 p0.length)=false→k1 ())) 0) (fun _=>K (Int.negSucc 0))
theorem sl_IndexK_walk {p0:(List Nat)}{p1:Nat}{K:Int→Prop} (hm:sl_IndexK_wp p0 p1 K) {h0:Heap} (hB:HasB vars h0):∃ r,K r∧CallD Tryz.prog NG 104 ⟨[(encL 1 n8) p0,n8 p1]⟩ h0 (z64 r) h0:=by
 unfold sl_IndexK_wp at hm
 refine fnW hM Tryz.func104 rfl (hP _ _ rfl Tryz.func104) (lbE rfl) hB (enc:=z64) (fun r=>PureV.flat rfl) fun O=>?_;conv=>whnf
 apply Cs;conv=>whnf
 apply Cs;(conv=>whnf);repeat(first|apply Hs|apply Hx);conv=>whnf
 refine CodeS.joinWS hm (nn:=19) (σ:=Unit×Unit) (fun s=>s.1) (fun (_,_) h=>Own vars h0 [] h∧True) (fun (_,_)=>[]) rfl (fun hm'=>?_) ?_
 ·replace hm:=hm'
  apply Cs;(conv=>whnf);repeat(first|apply Cs|apply Hs|apply Hx);conv=>whnf
  refine lenM (s:=1) (enc:=n8) (l:=p0) rfl rfl ?_;(conv=>whnf);repeat(first|apply Cs|apply Hs|apply Hx);conv=>whnf
  refine loopWK hM (by kernel_rfl) (nn:=19) (S:=Nat) (σ:=Nat×Unit) (fun s=>s.1) (fun (v2,_) h=>Own vars h0 [] h∧True) (fun (v2,_)=>[(0,((encL 1 n8) p0)),(1,(n8 p1)),(7,(i64 p0.length)),(8,(i64 v2))]) rfl (0,()) hm ⟨O,trivial⟩ ⟨VLe.refl _ _,VLe.refl _ _,VLe.refl _ _,VLe.refl _ _,trivial⟩ ?_
  clear hm;rintro⟨v2,_⟩ nx3 base h hm ⟨O,_⟩
  ((conv=>whnf);repeat(first|apply Cs|apply Hs|apply Hx);conv=>whnf)
  refine⟨_,rfl,fun hc=>?_,fun hc=>?_⟩
  ·replace hm:=hm.1 hc
   apply Cs;(conv=>whnf);repeat(first|apply Cs|apply Hs|apply Hx);conv=>whnf
   obtain⟨x4,hx4,hm⟩:=hm
   refine flAtM (s:=1) (enc:=n8) (j:=v2) rfl rfl rfl rfl hx4 ?_;(conv=>whnf);repeat(first|apply Hs|apply Hx);conv=>whnf
   refine⟨_,(rfl:aread _ _ _ _=some _),?_⟩;(conv=>whnf);repeat(first|apply Cs|apply Hs|apply Hx);conv=>whnf
   refine⟨_,rfl,fun hc=>?_,fun hc=>?_⟩
   ·replace hm:=hm.1 hc
    apply Cs;(conv=>whnf);repeat(first|apply Cs|apply Hs|apply Hx);conv=>whnf
    exact⟨(Int.ofNat v2),hm,O.ext,fun h2 F=>VLe.refl _ _⟩
   ·replace hm:=hm.2 hc
    apply Cs;(conv=>whnf);repeat(first|apply Cs|apply Hs|apply Hx);conv=>whnf
    refine⟨_,addK (a:=v2) (b:=1) rfl rfl hm.1,?_⟩;(conv=>whnf);repeat(first|apply Hs|apply Hx);conv=>whnf
    replace hm:=hm.2
    exact⟨((v2+1),()),hm,⟨O,trivial⟩,VLe.refl _ _,VLe.refl _ _,VLe.refl _ _,VLe.refl _ _,trivial⟩
  ·replace hm:=hm.2 hc
   apply Cs;(conv=>whnf);repeat(first|apply Cs|apply Hs|apply Hx);conv=>whnf
   exact⟨((),()),hm,⟨O,trivial⟩,trivial⟩
 ·clear hm;rintro⟨_,_⟩ base h hm ⟨O,_⟩
  ((conv=>whnf);repeat(first|apply Cs|apply Hs|apply Hx);conv=>whnf)
  exact⟨(Int.negSucc 0),hm,O.ext,fun h2 F=>VLe.refl _ _⟩
def sl_ContainsK_wp (p0:(List Nat)) (p1:Nat) (K:Bool→Prop):Prop :=
 sl_IndexK_wp p0 p1 (fun r1=>K (!ltI r1 (Int.ofNat 0)))
theorem sl_ContainsK_walk {p0:(List Nat)}{p1:Nat}{K:Bool→Prop} (hm:sl_ContainsK_wp p0 p1 K) {h0:Heap} (hB:HasB vars h0):∃ r,K r∧CallD Tryz.prog NG 77 ⟨[(encL 1 n8) p0,n8 p1]⟩ h0 (Value.bool r) h0:=by
 unfold sl_ContainsK_wp at hm
 refine fnW hM Tryz.func77 rfl (hP _ _ rfl Tryz.func77) (lbE rfl) hB (enc:=Value.bool) (fun r=>PureV.flat rfl) fun O=>?_;conv=>whnf
 apply Cs;(conv=>whnf);repeat(first|apply Cs|apply Hs|apply Hx);conv=>whnf
 obtain⟨r1,hm,hcall⟩:=sl_IndexK_walk hm O.has
 refine⟨_,_,hcall,?_⟩;(conv=>whnf);repeat(first|apply Cs|apply Hs|apply Hx);conv=>whnf
 exact⟨(!ltI r1 (Int.ofNat 0)),hm,O.ext,fun h2 F=>VLe.refl _ _⟩
def cf_outsideI_wp (p0:(List Nat)) (c:Circ) (K:Int→Prop):Prop :=
 joinW (α:=Unit) (fun k1=>loopW (S:=Nat) (fun v2 nx3=>((ltN v2 p0.length)=true→∃ x4,p0[v2]?=some x4∧((ltN x4 0)=true→K (Int.ofNat v2))∧((ltN x4 0)=false→((!ltN x4 c.nodes.length)=true→K (Int.ofNat v2))∧((!ltN x4 c.nodes.length)=false→v2+1<2 ^ 63∧nx3 (v2+1))))∧((ltN v2 p0.length)=false→k1 ())) 0) (fun _=>K (Int.negSucc 0))
theorem cf_outsideI_walk {p0:(List Nat)}{c:Circ}{K:Int→Prop} (hm:cf_outsideI_wp p0 c K) {h0:Heap} (hB:HasB vars h0):∃ r,K r∧CallD Tryz.prog NG 144 ⟨[(encL 1 i64) p0,(.func (.func 101) ⟨[]⟩ ⟨[(FP (encCirc c))]⟩)]⟩ h0 (z64 r) h0:=by
 unfold cf_outsideI_wp at hm
 refine fnW hM Tryz.func144 rfl (hP _ _ rfl Tryz.func144) (lbE rfl) hB (enc:=z64) (fun r=>PureV.flat rfl) fun O=>?_;conv=>whnf
 apply Cs;conv=>whnf
 apply Cs;(conv=>whnf);repeat(first|apply Hs|apply Hx);conv=>whnf
 refine CodeS.joinWS hm (nn:=19) (σ:=Unit×Unit) (fun s=>s.1) (fun (_,_) h=>Own vars h0 [] h∧True) (fun (_,_)=>[]) rfl (fun hm'=>?_) ?_
 ·replace hm:=hm'
  apply Cs;(conv=>whnf);repeat(first|apply Cs|apply Hs|apply Hx);conv=>whnf
  refine lenM (s:=1) (enc:=i64) (l:=p0) rfl rfl ?_;(conv=>whnf);repeat(first|apply Cs|apply Hs|apply Hx);conv=>whnf
  refine loopWK hM (by kernel_rfl) (nn:=19) (S:=Nat) (σ:=Nat×Unit) (fun s=>s.1) (fun (v2,_) h=>Own vars h0 [] h∧True) (fun (v2,_)=>[(0,((encL 1 i64) p0)),(1,(.func (.func 101) ⟨[]⟩ ⟨[(FP (encCirc c))]⟩)),(7,(i64 p0.length)),(8,(i64 v2))]) rfl (0,()) hm ⟨O,trivial⟩ ⟨VLe.refl _ _,VLe.refl _ _,VLe.refl _ _,VLe.refl _ _,trivial⟩ ?_
  clear hm;rintro⟨v2,_⟩ nx3 base h hm ⟨O,_⟩
  ((conv=>whnf);repeat(first|apply Cs|apply Hs|apply Hx);conv=>whnf)
  refine⟨_,rfl,fun hc=>?_,fun hc=>?_⟩
  ·replace hm:=hm.1 hc
   apply Cs;(conv=>whnf);repeat(first|apply Cs|apply Hs|apply Hx);conv=>whnf
   obtain⟨x4,hx4,hm⟩:=hm
   refine flAtM (s:=1) (enc:=i64) (j:=v2) rfl rfl rfl rfl hx4 ?_;(conv=>whnf);repeat(first|apply Hs|apply Hx);conv=>whnf
   refine⟨_,(rfl:aread _ _ _ _=some _),?_⟩;(conv=>whnf);repeat(first|apply Hs|apply Hx);conv=>whnf
   refine fnG hM Tryz.func101 rfl (hP _ _ rfl Tryz.func101) (lbE rfl) ?_;(conv=>whnf);repeat(first|apply Cs|apply Hs|apply Hx);conv=>whnf
   refine⟨_,rfl,fun hc=>?_,fun hc=>?_⟩
   ·replace hm:=hm.1 hc;(conv=>whnf);repeat(first|apply Cs|apply Hs|apply Hx);conv=>whnf
    refine⟨true,rfl,fun _=>?_,(fun hc=>nomatch hc)⟩
    apply Cs;(conv=>whnf);repeat(first|apply Cs|apply Hs|apply Hx);conv=>whnf
    exact⟨(Int.ofNat v2),hm,O.ext,fun h2 F=>VLe.refl _ _⟩
   ·replace hm:=hm.2 hc;(conv=>whnf);repeat(first|apply Hs|apply Hx);conv=>whnf
    refine⟨_,(rfl:aread _ _ _ _=some _),?_⟩;(conv=>whnf);repeat(first|apply Hs|apply Hx);conv=>whnf
    refine lenM (s:=4) (enc:=encNode) (l:=c.nodes) rfl rfl ?_;(conv=>whnf);repeat(first|apply Cs|apply Hs|apply Hx);conv=>whnf
    refine⟨_,rfl,fun hc=>?_,fun hc=>?_⟩
    ·replace hm:=hm.1 hc
     apply Cs;(conv=>whnf);repeat(first|apply Cs|apply Hs|apply Hx);conv=>whnf
     exact⟨(Int.ofNat v2),hm,O.ext,fun h2 F=>VLe.refl _ _⟩
    ·replace hm:=hm.2 hc
     apply Cs;(conv=>whnf);repeat(first|apply Cs|apply Hs|apply Hx);conv=>whnf
     refine⟨_,addK (a:=v2) (b:=1) rfl rfl hm.1,?_⟩;(conv=>whnf);repeat(first|apply Hs|apply Hx);conv=>whnf
     replace hm:=hm.2
     exact⟨((v2+1),()),hm,⟨O,trivial⟩,VLe.refl _ _,VLe.refl _ _,VLe.refl _ _,VLe.refl _ _,trivial⟩
  ·replace hm:=hm.2 hc
   apply Cs;(conv=>whnf);repeat(first|apply Cs|apply Hs|apply Hx);conv=>whnf
   exact⟨((),()),hm,⟨O,trivial⟩,trivial⟩
 ·clear hm;rintro⟨_,_⟩ base h hm ⟨O,_⟩
  ((conv=>whnf);repeat(first|apply Cs|apply Hs|apply Hx);conv=>whnf)
  exact⟨(Int.negSucc 0),hm,O.ext,fun h2 F=>VLe.refl _ _⟩
def cf_outside_wp (p0:(List Nat)) (c:Circ) (K:Bool→Prop):Prop :=
 cf_outsideI_wp p0 c (fun r1=>K (!ltI r1 (Int.ofNat 0)))
theorem cf_outside_walk {p0:(List Nat)}{c:Circ}{K:Bool→Prop} (hm:cf_outside_wp p0 c K) {h0:Heap} (hB:HasB vars h0):∃ r,K r∧CallD Tryz.prog NG 131 ⟨[(encL 1 i64) p0,(.func (.func 101) ⟨[]⟩ ⟨[(FP (encCirc c))]⟩)]⟩ h0 (Value.bool r) h0:=by
 unfold cf_outside_wp at hm
 refine fnW hM Tryz.func131 rfl (hP _ _ rfl Tryz.func131) (lbE rfl) hB (enc:=Value.bool) (fun r=>PureV.flat rfl) fun O=>?_;conv=>whnf
 apply Cs;(conv=>whnf);repeat(first|apply Cs|apply Hs|apply Hx);conv=>whnf
 obtain⟨r1,hm,hcall⟩:=cf_outsideI_walk hm O.has
 refine⟨_,_,hcall,?_⟩;(conv=>whnf);repeat(first|apply Cs|apply Hs|apply Hx);conv=>whnf
 exact⟨(!ltI r1 (Int.ofNat 0)),hm,O.ext,fun h2 F=>VLe.refl _ _⟩
def cf_notTriI_wp (p0:(List Nat)) (c:Circ) (K:Int→Prop):Prop :=
 joinW (α:=Unit) (fun k1=>loopW (S:=Nat) (fun v2 nx3=>((ltN v2 p0.length)=true→∃ x4,p0[v2]?=some x4∧∃ x5,c.nodes[x4]?=some x5∧((neN x5.kind 12)=true→K (Int.ofNat v2))∧((neN x5.kind 12)=false→v2+1<2 ^ 63∧nx3 (v2+1)))∧((ltN v2 p0.length)=false→k1 ())) 0) (fun _=>K (Int.negSucc 0))
theorem cf_notTriI_walk {p0:(List Nat)}{c:Circ}{K:Int→Prop} (hm:cf_notTriI_wp p0 c K) {h0:Heap} (hB:HasB vars h0):∃ r,K r∧CallD Tryz.prog NG 144 ⟨[(encL 1 i64) p0,(.func (.func 140) ⟨[]⟩ ⟨[(FP (encCirc c))]⟩)]⟩ h0 (z64 r) h0:=by
 unfold cf_notTriI_wp at hm
 refine fnW hM Tryz.func144 rfl (hP _ _ rfl Tryz.func144) (lbE rfl) hB (enc:=z64) (fun r=>PureV.flat rfl) fun O=>?_;conv=>whnf
 apply Cs;conv=>whnf
 apply Cs;(conv=>whnf);repeat(first|apply Hs|apply Hx);conv=>whnf
 refine CodeS.joinWS hm (nn:=19) (σ:=Unit×Unit) (fun s=>s.1) (fun (_,_) h=>Own vars h0 [] h∧True) (fun (_,_)=>[]) rfl (fun hm'=>?_) ?_
 ·replace hm:=hm'
  apply Cs;(conv=>whnf);repeat(first|apply Cs|apply Hs|apply Hx);conv=>whnf
  refine lenM (s:=1) (enc:=i64) (l:=p0) rfl rfl ?_;(conv=>whnf);repeat(first|apply Cs|apply Hs|apply Hx);conv=>whnf
  refine loopWK hM (by kernel_rfl) (nn:=19) (S:=Nat) (σ:=Nat×Unit) (fun s=>s.1) (fun (v2,_) h=>Own vars h0 [] h∧True) (fun (v2,_)=>[(0,((encL 1 i64) p0)),(1,(.func (.func 140) ⟨[]⟩ ⟨[(FP (encCirc c))]⟩)),(7,(i64 p0.length)),(8,(i64 v2))]) rfl (0,()) hm ⟨O,trivial⟩ ⟨VLe.refl _ _,VLe.refl _ _,VLe.refl _ _,VLe.refl _ _,trivial⟩ ?_
  clear hm;rintro⟨v2,_⟩ nx3 base h hm ⟨O,_⟩
  ((conv=>whnf);repeat(first|apply Cs|apply Hs|apply Hx);conv=>whnf)
  refine⟨_,rfl,fun hc=>?_,fun hc=>?_⟩
  ·replace hm:=hm.1 hc
   apply Cs;(conv=>whnf);repeat(first|apply Cs|apply Hs|apply Hx);conv=>whnf
   obtain⟨x4,hx4,hm⟩:=hm
   refine flAtM (s:=1) (enc:=i64) (j:=v2) rfl rfl rfl rfl hx4 ?_;(conv=>whnf);repeat(first|apply Hs|apply Hx);conv=>whnf
   refine⟨_,(rfl:aread _ _ _ _=some _),?_⟩;(conv=>whnf);repeat(first|apply Hs|apply Hx);conv=>whnf
   refine fnG hM Tryz.func140 rfl (hP _ _ rfl Tryz.func140) (lbE rfl) ?_;(conv=>whnf);repeat(first|apply Cs|apply Hs|apply Hx);conv=>whnf
   refine⟨_,(rfl:aread _ _ _ _=some _),?_⟩;(conv=>whnf);repeat(first|apply Hs|apply Hx);conv=>whnf
   obtain⟨x5,hx5,hm⟩:=hm
   refine flAtM (s:=4) (enc:=encNode) (j:=x4) rfl rfl rfl rfl hx5 ?_;(conv=>whnf);repeat(first|apply Hs|apply Hx);conv=>whnf
   refine⟨_,(rfl:aread _ _ _ _=some _),?_⟩;(conv=>whnf);repeat(first|apply Cs|apply Hs|apply Hx);conv=>whnf
   refine⟨_,rfl,fun hc=>?_,fun hc=>?_⟩
   ·replace hm:=hm.1 hc
    apply Cs;(conv=>whnf);repeat(first|apply Cs|apply Hs|apply Hx);conv=>whnf
    exact⟨(Int.ofNat v2),hm,O.ext,fun h2 F=>VLe.refl _ _⟩
   ·replace hm:=hm.2 hc
    apply Cs;(conv=>whnf);repeat(first|apply Cs|apply Hs|apply Hx);conv=>whnf
    refine⟨_,addK (a:=v2) (b:=1) rfl rfl hm.1,?_⟩;(conv=>whnf);repeat(first|apply Hs|apply Hx);conv=>whnf
    replace hm:=hm.2
    exact⟨((v2+1),()),hm,⟨O,trivial⟩,VLe.refl _ _,VLe.refl _ _,VLe.refl _ _,VLe.refl _ _,trivial⟩
  ·replace hm:=hm.2 hc
   apply Cs;(conv=>whnf);repeat(first|apply Cs|apply Hs|apply Hx);conv=>whnf
   exact⟨((),()),hm,⟨O,trivial⟩,trivial⟩
 ·clear hm;rintro⟨_,_⟩ base h hm ⟨O,_⟩
  ((conv=>whnf);repeat(first|apply Cs|apply Hs|apply Hx);conv=>whnf)
  exact⟨(Int.negSucc 0),hm,O.ext,fun h2 F=>VLe.refl _ _⟩
def cf_notTri_wp (p0:(List Nat)) (c:Circ) (K:Bool→Prop):Prop :=
 cf_notTriI_wp p0 c (fun r1=>K (!ltI r1 (Int.ofNat 0)))
theorem cf_notTri_walk {p0:(List Nat)}{c:Circ}{K:Bool→Prop} (hm:cf_notTri_wp p0 c K) {h0:Heap} (hB:HasB vars h0):∃ r,K r∧CallD Tryz.prog NG 131 ⟨[(encL 1 i64) p0,(.func (.func 140) ⟨[]⟩ ⟨[(FP (encCirc c))]⟩)]⟩ h0 (Value.bool r) h0:=by
 unfold cf_notTri_wp at hm
 refine fnW hM Tryz.func131 rfl (hP _ _ rfl Tryz.func131) (lbE rfl) hB (enc:=Value.bool) (fun r=>PureV.flat rfl) fun O=>?_;conv=>whnf
 apply Cs;(conv=>whnf);repeat(first|apply Cs|apply Hs|apply Hx);conv=>whnf
 obtain⟨r1,hm,hcall⟩:=cf_notTriI_walk hm O.has
 refine⟨_,_,hcall,?_⟩;(conv=>whnf);repeat(first|apply Cs|apply Hs|apply Hx);conv=>whnf
 exact⟨(!ltI r1 (Int.ofNat 0)),hm,O.ext,fun h2 F=>VLe.refl _ _⟩
def netlists_Comb_wp (p0:Nat) (K:Bool→Prop):Prop :=
 ((!ltN p0 1)=true→K (!ltN 13 p0))∧((!ltN p0 1)=false→K false)
theorem netlists_Comb_walk {p0:Nat}{K:Bool→Prop} (hm:netlists_Comb_wp p0 K) {h0:Heap} (hB:HasB vars h0):∃ r,K r∧CallD Tryz.prog NG 51 ⟨[n8 p0]⟩ h0 (Value.bool r) h0:=by
 unfold netlists_Comb_wp at hm
 refine fnW hM Tryz.func51 rfl (hP _ _ rfl Tryz.func51) (lbE rfl) hB (enc:=Value.bool) (fun r=>PureV.flat rfl) fun O=>?_;conv=>whnf
 apply Cs;(conv=>whnf);repeat(first|apply Cs|apply Hs|apply Hx);conv=>whnf
 refine⟨_,rfl,fun hc=>?_,fun hc=>?_⟩
 ·replace hm:=hm.1 hc;(conv=>whnf);repeat(first|apply Cs|apply Hs|apply Hx);conv=>whnf
  exact⟨(!ltN 13 p0),hm,O.ext,fun h2 F=>VLe.refl _ _⟩
 ·replace hm:=hm.2 hc;(conv=>whnf);repeat(first|apply Cs|apply Hs|apply Hx);conv=>whnf
  exact⟨false,hm,O.ext,fun h2 F=>VLe.refl _ _⟩
def netlists_bit_wp (p0:Circ) (p1:Node) (K:Bool→Prop):Prop :=
 ((neN p1.kind 15)=true→((eqN p1.mem 0)=true→K (eqN p1.bit 0))∧((eqN p1.mem 0)=false→K false))∧((neN p1.kind 15)=false→((!ltN p1.mem 0)=true→((ltN p1.mem p0.mems.length)=true→((!ltN p1.bit 0)=true→∃ x1,p0.mems[p1.mem]?=some x1∧K (ltN p1.bit x1.data.length))∧((!ltN p1.bit 0)=false→K false))∧((ltN p1.mem p0.mems.length)=false→K false))∧((!ltN p1.mem 0)=false→K false))
theorem netlists_bit_walk {p0:Circ}{p1:Node}{K:Bool→Prop} (hm:netlists_bit_wp p0 p1 K) {h0:Heap} (hB:HasB vars h0):∃ r,K r∧CallD Tryz.prog NG 141 ⟨[encCirc p0,encNode p1]⟩ h0 (Value.bool r) h0:=by
 unfold netlists_bit_wp at hm
 refine fnW hM Tryz.func141 rfl (hP _ _ rfl Tryz.func141) (lbE rfl) hB (enc:=Value.bool) (fun r=>PureV.flat rfl) fun O=>?_;conv=>whnf
 apply Cs;(conv=>whnf);repeat(first|apply Cs|apply Hs|apply Hx);conv=>whnf
 refine NewG.frz rfl ?_;(conv=>whnf);repeat(first|apply Hs|apply Hx);conv=>whnf
 refine NewG.frz rfl ?_;(conv=>whnf);repeat(first|apply Cs|apply Hs|apply Hx);conv=>whnf
 refine⟨_,(rfl:aread _ _ _ _=some _),?_⟩;(conv=>whnf);repeat(first|apply Cs|apply Hs|apply Hx);conv=>whnf
 refine⟨_,rfl,fun hc=>?_,fun hc=>?_⟩
 ·replace hm:=hm.1 hc
  apply Cs;(conv=>whnf);repeat(first|apply Cs|apply Hs|apply Hx);conv=>whnf
  refine⟨_,(rfl:aread _ _ _ _=some _),?_⟩;(conv=>whnf);repeat(first|apply Hs|apply Hx);conv=>whnf
  refine⟨_,rfl,fun hc=>?_,fun hc=>?_⟩
  ·replace hm:=hm.1 hc;(conv=>whnf);repeat(first|apply Hs|apply Hx);conv=>whnf
   refine⟨_,(rfl:aread _ _ _ _=some _),?_⟩;(conv=>whnf);repeat(first|apply Cs|apply Hs|apply Hx);conv=>whnf
   exact⟨(eqN p1.bit 0),hm,O.ext,fun h2 F=>VLe.refl _ _⟩
  ·replace hm:=hm.2 hc;(conv=>whnf);repeat(first|apply Cs|apply Hs|apply Hx);conv=>whnf
   exact⟨false,hm,O.ext,fun h2 F=>VLe.refl _ _⟩
 ·replace hm:=hm.2 hc
  apply Cs;(conv=>whnf);repeat(first|apply Cs|apply Hs|apply Hx);conv=>whnf
  refine⟨_,(rfl:aread _ _ _ _=some _),?_⟩;(conv=>whnf);repeat(first|apply Hs|apply Hx);conv=>whnf
  refine⟨.inl rfl,?_⟩;(conv=>whnf);repeat(first|apply Hs|apply Hx);conv=>whnf
  refine⟨_,rfl,fun hc=>?_,fun hc=>?_⟩
  ·replace hm:=hm.1 hc;(conv=>whnf);repeat(first|apply Hs|apply Hx);conv=>whnf
   refine⟨_,(rfl:aread _ _ _ _=some _),?_⟩;(conv=>whnf);repeat(first|apply Hs|apply Hx);conv=>whnf
   refine⟨.inl rfl,?_⟩;(conv=>whnf);repeat(first|apply Hs|apply Hx);conv=>whnf
   refine⟨_,(rfl:aread _ _ _ _=some _),?_⟩;(conv=>whnf);repeat(first|apply Hs|apply Hx);conv=>whnf
   first|refine⟨.inr (.inr (rfl)),?_⟩|refine⟨.inr (.inl (by kernel_rfl)),?_⟩
   ((conv=>whnf);repeat(first|apply Cs|apply Hs|apply Hx);conv=>whnf)
   refine lenM (s:=3) (enc:=encMem) (l:=p0.mems) rfl rfl ?_;(conv=>whnf);repeat(first|apply Hs|apply Hx);conv=>whnf
   refine⟨_,rfl,fun hc=>?_,fun hc=>?_⟩
   ·replace hm:=hm.1 hc;(conv=>whnf);repeat(first|apply Hs|apply Hx);conv=>whnf
    refine⟨_,(rfl:aread _ _ _ _=some _),?_⟩;(conv=>whnf);repeat(first|apply Hs|apply Hx);conv=>whnf
    refine⟨.inl rfl,?_⟩;(conv=>whnf);repeat(first|apply Hs|apply Hx);conv=>whnf
    refine⟨_,rfl,fun hc=>?_,fun hc=>?_⟩
    ·replace hm:=hm.1 hc;(conv=>whnf);repeat(first|apply Hs|apply Hx);conv=>whnf
     refine⟨_,(rfl:aread _ _ _ _=some _),?_⟩;(conv=>whnf);repeat(first|apply Hs|apply Hx);conv=>whnf
     refine⟨.inl rfl,?_⟩;(conv=>whnf);repeat(first|apply Hs|apply Hx);conv=>whnf
     refine⟨_,(rfl:aread _ _ _ _=some _),?_⟩;(conv=>whnf);repeat(first|apply Hs|apply Hx);conv=>whnf
     first|refine⟨.inr (.inr (rfl)),?_⟩|refine⟨.inr (.inl (by kernel_rfl)),?_⟩
     ((conv=>whnf);repeat(first|apply Cs|apply Hs|apply Hx);conv=>whnf)
     refine⟨_,(rfl:aread _ _ _ _=some _),?_⟩;(conv=>whnf);repeat(first|apply Hs|apply Hx);conv=>whnf
     refine⟨.inl rfl,?_⟩;(conv=>whnf);repeat(first|apply Hs|apply Hx);conv=>whnf
     obtain⟨x1,hx1,hm⟩:=hm
     refine flAtM (s:=3) (enc:=encMem) (j:=p1.mem) rfl rfl rfl rfl hx1 ?_;(conv=>whnf);repeat(first|apply Hs|apply Hx);conv=>whnf
     refine⟨_,(rfl:aread _ _ _ _=some _),?_⟩;(conv=>whnf);repeat(first|apply Hs|apply Hx);conv=>whnf
     first|refine⟨.inr (.inr (rfl)),?_⟩|refine⟨.inr (.inl (by kernel_rfl)),?_⟩
     ((conv=>whnf);repeat(first|apply Cs|apply Hs|apply Hx);conv=>whnf)
     refine lenM (s:=1) (enc:=i64) (l:=x1.data) rfl rfl ?_;(conv=>whnf);repeat(first|apply Cs|apply Hs|apply Hx);conv=>whnf
     exact⟨(ltN p1.bit x1.data.length),hm,O.ext,fun h2 F=>VLe.refl _ _⟩
    ·replace hm:=hm.2 hc;(conv=>whnf);repeat(first|apply Cs|apply Hs|apply Hx);conv=>whnf
     exact⟨false,hm,O.ext,fun h2 F=>VLe.refl _ _⟩
   ·replace hm:=hm.2 hc;(conv=>whnf);repeat(first|apply Hs|apply Hx);conv=>whnf
    refine⟨false,rfl,(fun hc=>nomatch hc),fun _=>?_⟩;(conv=>whnf);repeat(first|apply Cs|apply Hs|apply Hx);conv=>whnf
    exact⟨false,hm,O.ext,fun h2 F=>VLe.refl _ _⟩
  ·replace hm:=hm.2 hc;(conv=>whnf);repeat(first|apply Hs|apply Hx);conv=>whnf
   refine⟨false,rfl,(fun hc=>nomatch hc),fun _=>?_⟩;(conv=>whnf);repeat(first|apply Hs|apply Hx);conv=>whnf
   refine⟨false,rfl,(fun hc=>nomatch hc),fun _=>?_⟩;(conv=>whnf);repeat(first|apply Cs|apply Hs|apply Hx);conv=>whnf
   exact⟨false,hm,O.ext,fun h2 F=>VLe.refl _ _⟩
def netlists_node_wp (p0:Circ) (p1:Node) (K:Nat→Prop):Prop :=
 logic_Fanin_wp p1.kind (fun r1=>((ltN 15 p1.kind)=true→K 7)∧((ltN 15 p1.kind)=false→joinW (α:=Bool) (fun k3=>((ltN p1.ins.length r1.1)=true→k3 true)∧((ltN p1.ins.length r1.1)=false→k3 (ltI r1.2 (Int.ofNat p1.ins.length)))) (fun v2=>(v2=true→K 8)∧(v2=false→cf_outside_wp p1.ins p0 (fun r4=>(r4=true→K 1)∧(r4=false→joinW (α:=Bool) (fun k6=>((eqN p1.kind 13)=true→cf_notTri_wp p1.ins p0 (fun r7=>k6 r7))∧((eqN p1.kind 13)=false→k6 false)) (fun v5=>(v5=true→K 7)∧(v5=false→netlists_bit_wp p0 p1 (fun r8=>((!r8)=true→K 1)∧((!r8)=false→K 0))))))))))
theorem netlists_node_walk {p0:Circ}{p1:Node}{K:Nat→Prop} (hm:netlists_node_wp p0 p1 K) {h0:Heap} (hB:HasB vars h0):∃ r,K r∧CallD Tryz.prog NG 128 ⟨[encCirc p0,encNode p1]⟩ h0 (i64 r) h0:=by
 unfold netlists_node_wp at hm
 refine fnW hM Tryz.func128 rfl (hP _ _ rfl Tryz.func128) (lbE rfl) hB (enc:=i64) (fun r=>PureV.flat rfl) fun O=>?_;conv=>whnf
 apply Cs;(conv=>whnf);repeat(first|apply Cs|apply Hs|apply Hx);conv=>whnf
 refine NewG.frz rfl ?_;(conv=>whnf);repeat(first|apply Hs|apply Hx);conv=>whnf
 refine NewG.frz rfl ?_;(conv=>whnf);repeat(first|apply Cs|apply Hs|apply Hx);conv=>whnf
 refine⟨_,(rfl:aread _ _ _ _=some _),?_⟩;(conv=>whnf);repeat(first|apply Hs|apply Hx);conv=>whnf
 obtain⟨r1,hm,hcall⟩:=logic_Fanin_walk hm O.has
 refine⟨_,_,hcall,?_⟩;(conv=>whnf);repeat(first|apply Cs|apply Hs|apply Hx);conv=>whnf
 refine makeFuncK rfl rfl ?_;(conv=>whnf);repeat(first|apply Cs|apply Hs|apply Hx);conv=>whnf
 refine⟨_,(rfl:aread _ _ _ _=some _),?_⟩;(conv=>whnf);repeat(first|apply Cs|apply Hs|apply Hx);conv=>whnf
 refine⟨_,rfl,fun hc=>?_,fun hc=>?_⟩
 ·replace hm:=hm.1 hc
  apply Cs;(conv=>whnf);repeat(first|apply Cs|apply Hs|apply Hx);conv=>whnf
  exact⟨7,hm,O.ext,fun h2 F=>VLe.refl _ _⟩
 ·replace hm:=hm.2 hc
  refine CodeS.joinWS hm (nn:=53) (σ:=Bool×Unit) (fun s=>s.1) (fun (v2,_) h=>Own vars h0 [] h∧True) (fun (v2,_)=>[(2,(FP (encCirc p0))),(3,(FP (encNode p1))),(7,(.func (.func 140) ⟨[]⟩ ⟨[(FP (encCirc p0))]⟩)),(19,(.bool v2))]) rfl (fun hm'=>?_) ?_
  ·replace hm:=hm'
   apply Cs;(conv=>whnf);repeat(first|apply Cs|apply Hs|apply Hx);conv=>whnf
   refine⟨_,(rfl:aread _ _ _ _=some _),?_⟩;(conv=>whnf);repeat(first|apply Hs|apply Hx);conv=>whnf
   refine lenM (s:=1) (enc:=i64) (l:=p1.ins) rfl rfl ?_;(conv=>whnf);repeat(first|apply Hs|apply Hx);conv=>whnf
   refine⟨_,rfl,fun hc=>?_,fun hc=>?_⟩
   ·replace hm:=hm.1 hc;(conv=>whnf);repeat(first|apply Hs|apply Hx);conv=>whnf
    exact⟨(true,()),hm,⟨O,trivial⟩,VLe.refl _ _,VLe.refl _ _,VLe.refl _ _,VLe.refl _ _,trivial⟩
   ·replace hm:=hm.2 hc;(conv=>whnf);repeat(first|apply Hs|apply Hx);conv=>whnf
    refine⟨_,(rfl:aread _ _ _ _=some _),?_⟩;(conv=>whnf);repeat(first|apply Hs|apply Hx);conv=>whnf
    refine lenM (s:=1) (enc:=i64) (l:=p1.ins) rfl rfl ?_;(conv=>whnf);repeat(first|apply Hs|apply Hx);conv=>whnf
    exact⟨((ltI r1.2 (Int.ofNat p1.ins.length)),()),hm,⟨O,trivial⟩,VLe.refl _ _,VLe.refl _ _,VLe.refl _ _,VLe.refl _ _,trivial⟩
  ·clear hm;rintro⟨v2,_⟩ base h hm ⟨O,_⟩
   ((conv=>whnf);repeat(first|apply Cs|apply Hs|apply Hx);conv=>whnf)
   refine⟨_,rfl,fun hc=>?_,fun hc=>?_⟩
   ·replace hm:=hm.1 hc
    apply Cs;(conv=>whnf);repeat(first|apply Cs|apply Hs|apply Hx);conv=>whnf
    exact⟨8,hm,O.ext,fun h2 F=>VLe.refl _ _⟩
   ·replace hm:=hm.2 hc
    apply Cs;(conv=>whnf);repeat(first|apply Cs|apply Hs|apply Hx);conv=>whnf
    refine⟨_,(rfl:aread _ _ _ _=some _),?_⟩;(conv=>whnf);repeat(first|apply Hs|apply Hx);conv=>whnf
    first|refine⟨.inr (.inr (rfl)),?_⟩|refine⟨.inr (.inl (by kernel_rfl)),?_⟩
    ((conv=>whnf);repeat(first|apply Cs|apply Hs|apply Hx);conv=>whnf)
    refine⟨_,(rfl:aread _ _ _ _=some _),?_⟩;(conv=>whnf);repeat(first|apply Hs|apply Hx);conv=>whnf
    first|refine⟨.inr (.inr (rfl)),?_⟩|refine⟨.inr (.inl (by kernel_rfl)),?_⟩
    ((conv=>whnf);repeat(first|apply Cs|apply Hs|apply Hx);conv=>whnf)
    refine fnG hM Tryz.func73 rfl (hP _ _ rfl Tryz.func73) (lbE rfl) ?_;(conv=>whnf);repeat(first|apply Cs|apply Hs|apply Hx);conv=>whnf
    refine NewG.frz rfl ?_;(conv=>whnf);repeat(first|apply Cs|apply Hs|apply Hx);conv=>whnf
    refine makeFuncK rfl rfl ?_;(conv=>whnf);repeat(first|apply Cs|apply Hs|apply Hx);conv=>whnf
    refine⟨.inl (Ext.refl _),?_⟩;(conv=>whnf);repeat(first|apply Hs|apply Hx);conv=>whnf
    obtain⟨r4,hm,hcall⟩:=cf_outside_walk hm O.has
    refine⟨_,_,hcall,?_⟩;(conv=>whnf);repeat(first|apply Hs|apply Hx);conv=>whnf
    refine⟨.inl (Ext.refl _),?_⟩;(conv=>whnf);repeat(first|apply Hs|apply Hx);conv=>whnf
    apply Cs;(conv=>whnf);repeat(first|apply Cs|apply Hs|apply Hx);conv=>whnf
    refine⟨_,rfl,fun hc=>?_,fun hc=>?_⟩
    ·replace hm:=hm.1 hc
     apply Cs;(conv=>whnf);repeat(first|apply Cs|apply Hs|apply Hx);conv=>whnf
     exact⟨1,hm,O.ext,fun h2 F=>VLe.refl _ _⟩
    ·replace hm:=hm.2 hc
     refine CodeS.joinWS hm (nn:=53) (σ:=Bool×Unit) (fun s=>s.1) (fun (v5,_) h=>Own vars h0 [] h∧True) (fun (v5,_)=>[(2,(FP (encCirc p0))),(3,(FP (encNode p1))),(38,(.bool v5))]) rfl (fun hm'=>?_) ?_
     ·replace hm:=hm'
      apply Cs;(conv=>whnf);repeat(first|apply Cs|apply Hs|apply Hx);conv=>whnf
      refine⟨_,(rfl:aread _ _ _ _=some _),?_⟩;(conv=>whnf);repeat(first|apply Hs|apply Hx);conv=>whnf
      refine⟨_,rfl,fun hc=>?_,fun hc=>?_⟩
      ·replace hm:=hm.1 hc;(conv=>whnf);repeat(first|apply Hs|apply Hx);conv=>whnf
       refine⟨_,(rfl:aread _ _ _ _=some _),?_⟩;(conv=>whnf);repeat(first|apply Hs|apply Hx);conv=>whnf
       obtain⟨r7,hm,hcall⟩:=cf_notTri_walk hm O.has
       refine⟨_,_,hcall,?_⟩;(conv=>whnf);repeat(first|apply Hs|apply Hx);conv=>whnf
       exact⟨(r7,()),hm,⟨O,trivial⟩,VLe.refl _ _,VLe.refl _ _,VLe.refl _ _,trivial⟩
      ·replace hm:=hm.2 hc;(conv=>whnf);repeat(first|apply Hs|apply Hx);conv=>whnf
       exact⟨(false,()),hm,⟨O,trivial⟩,VLe.refl _ _,VLe.refl _ _,VLe.refl _ _,trivial⟩
     ·clear hm;rintro⟨v5,_⟩ base h hm ⟨O,_⟩
      ((conv=>whnf);repeat(first|apply Cs|apply Hs|apply Hx);conv=>whnf)
      refine⟨_,rfl,fun hc=>?_,fun hc=>?_⟩
      ·replace hm:=hm.1 hc
       apply Cs;(conv=>whnf);repeat(first|apply Cs|apply Hs|apply Hx);conv=>whnf
       exact⟨7,hm,O.ext,fun h2 F=>VLe.refl _ _⟩
      ·replace hm:=hm.2 hc
       apply Cs;(conv=>whnf);repeat(first|apply Cs|apply Hs|apply Hx);conv=>whnf
       refine⟨_,(rfl:aread _ _ _ _=some _),?_⟩;(conv=>whnf);repeat(first|apply Hs|apply Hx);conv=>whnf
       refine⟨_,(rfl:aread _ _ _ _=some _),?_⟩;(conv=>whnf);repeat(first|apply Hs|apply Hx);conv=>whnf
       obtain⟨r8,hm,hcall⟩:=netlists_bit_walk hm O.has
       refine⟨_,_,hcall,?_⟩;(conv=>whnf);repeat(first|apply Cs|apply Hs|apply Hx);conv=>whnf
       refine⟨_,rfl,fun hc=>?_,fun hc=>?_⟩
       ·replace hm:=hm.1 hc
        apply Cs;(conv=>whnf);repeat(first|apply Cs|apply Hs|apply Hx);conv=>whnf
        exact⟨1,hm,O.ext,fun h2 F=>VLe.refl _ _⟩
       ·replace hm:=hm.2 hc
        apply Cs;(conv=>whnf);repeat(first|apply Cs|apply Hs|apply Hx);conv=>whnf
        exact⟨0,hm,O.ext,fun h2 F=>VLe.refl _ _⟩
def netlists_memory_wp (p0:Circ) (p1:Memo) (K:Nat→Prop):Prop :=
 joinW (α:=Bool) (fun k2=>((eqN p1.addr.length 0)=true→k2 true)∧((eqN p1.addr.length 0)=false→((ltN 8 p1.addr.length)=true→k2 true)∧((ltN 8 p1.addr.length)=false→((eqN p1.data.length 0)=true→k2 true)∧((eqN p1.data.length 0)=false→k2 (ltN 32 p1.data.length))))) (fun v1=>(v1=true→K 8)∧(v1=false→joinW (α:=Bool) (fun k4=>cf_outside_wp p1.addr p0 (fun r5=>(r5=true→k4 true)∧(r5=false→cf_outside_wp p1.data p0 (fun r6=>(r6=true→k4 true)∧(r6=false→((ltN p1.write 0)=true→k4 true)∧((ltN p1.write 0)=false→k4 (!ltN p1.write p0.nodes.length))))))) (fun v3=>(v3=true→K 1)∧(v3=false→K 0))))
theorem netlists_memory_walk {p0:Circ}{p1:Memo}{K:Nat→Prop} (hm:netlists_memory_wp p0 p1 K) {h0:Heap} (hB:HasB vars h0):∃ r,K r∧CallD Tryz.prog NG 130 ⟨[encCirc p0,encMem p1]⟩ h0 (i64 r) h0:=by
 unfold netlists_memory_wp at hm
 refine fnW hM Tryz.func130 rfl (hP _ _ rfl Tryz.func130) (lbE rfl) hB (enc:=i64) (fun r=>PureV.flat rfl) fun O=>?_;conv=>whnf
 apply Cs;(conv=>whnf);repeat(first|apply Cs|apply Hs|apply Hx);conv=>whnf
 refine NewG.frz rfl ?_;(conv=>whnf);repeat(first|apply Hs|apply Hx);conv=>whnf
 refine NewG.frz rfl ?_;(conv=>whnf);repeat(first|apply Cs|apply Hs|apply Hx);conv=>whnf
 refine⟨_,(rfl:aread _ _ _ _=some _),?_⟩;(conv=>whnf);repeat(first|apply Hs|apply Hx);conv=>whnf
 refine fnG hM Tryz.func73 rfl (hP _ _ rfl Tryz.func73) (lbE rfl) ?_;(conv=>whnf);repeat(first|apply Cs|apply Hs|apply Hx);conv=>whnf
 refine NewG.frz rfl ?_;(conv=>whnf);repeat(first|apply Cs|apply Hs|apply Hx);conv=>whnf
 refine makeFuncK rfl rfl ?_;(conv=>whnf);repeat(first|apply Hs|apply Hx);conv=>whnf
 apply Cs;conv=>whnf
 ((conv=>whnf);repeat(first|apply Hs|apply Hx);conv=>whnf)
 apply Cs;conv=>whnf
 apply Cs;conv=>whnf
 refine CodeS.joinWS hm (nn:=37) (σ:=Bool×Unit) (fun s=>s.1) (fun (v1,_) h=>Own vars h0 [] h∧True) (fun (v1,_)=>[(3,(FP (encMem p1))),(6,(.func (.func 101) ⟨[]⟩ ⟨[(FP (encCirc p0))]⟩)),(9,(.bool v1))]) rfl (fun hm'=>?_) ?_
 ·replace hm:=hm'
  apply Cs;(conv=>whnf);repeat(first|apply Cs|apply Hs|apply Hx);conv=>whnf
  refine⟨_,(rfl:aread _ _ _ _=some _),?_⟩;(conv=>whnf);repeat(first|apply Hs|apply Hx);conv=>whnf
  refine fnG hM Tryz.func143 rfl (hP _ _ rfl Tryz.func143) (lbE rfl) ?_;(conv=>whnf);repeat(first|apply Cs|apply Hs|apply Hx);conv=>whnf
  refine lenM (s:=1) (enc:=i64) (l:=p1.addr) rfl rfl ?_;(conv=>whnf);repeat(first|apply Hs|apply Hx);conv=>whnf
  refine⟨_,rfl,fun hc=>?_,fun hc=>?_⟩
  ·replace hm:=hm.1 hc;(conv=>whnf);repeat(first|apply Cs|apply Hs|apply Hx);conv=>whnf
   refine⟨true,rfl,fun _=>?_,(fun hc=>nomatch hc)⟩;(conv=>whnf);repeat(first|apply Hs|apply Hx);conv=>whnf
   exact⟨(true,()),hm,⟨O,trivial⟩,VLe.refl _ _,VLe.refl _ _,VLe.refl _ _,trivial⟩
  ·replace hm:=hm.2 hc;(conv=>whnf);repeat(first|apply Hs|apply Hx);conv=>whnf
   refine lenM (s:=1) (enc:=i64) (l:=p1.addr) rfl rfl ?_;(conv=>whnf);repeat(first|apply Cs|apply Hs|apply Hx);conv=>whnf
   refine⟨_,rfl,fun hc=>?_,fun hc=>?_⟩
   ·replace hm:=hm.1 hc;(conv=>whnf);repeat(first|apply Hs|apply Hx);conv=>whnf
    exact⟨(true,()),hm,⟨O,trivial⟩,VLe.refl _ _,VLe.refl _ _,VLe.refl _ _,trivial⟩
   ·replace hm:=hm.2 hc;(conv=>whnf);repeat(first|apply Hs|apply Hx);conv=>whnf
    refine⟨_,(rfl:aread _ _ _ _=some _),?_⟩;(conv=>whnf);repeat(first|apply Hs|apply Hx);conv=>whnf
    refine fnG hM Tryz.func143 rfl (hP _ _ rfl Tryz.func143) (lbE rfl) ?_;(conv=>whnf);repeat(first|apply Cs|apply Hs|apply Hx);conv=>whnf
    refine lenM (s:=1) (enc:=i64) (l:=p1.data) rfl rfl ?_;(conv=>whnf);repeat(first|apply Hs|apply Hx);conv=>whnf
    refine⟨_,rfl,fun hc=>?_,fun hc=>?_⟩
    ·replace hm:=hm.1 hc;(conv=>whnf);repeat(first|apply Cs|apply Hs|apply Hx);conv=>whnf
     exact⟨(true,()),hm,⟨O,trivial⟩,VLe.refl _ _,VLe.refl _ _,VLe.refl _ _,trivial⟩
    ·replace hm:=hm.2 hc;(conv=>whnf);repeat(first|apply Hs|apply Hx);conv=>whnf
     refine lenM (s:=1) (enc:=i64) (l:=p1.data) rfl rfl ?_;(conv=>whnf);repeat(first|apply Cs|apply Hs|apply Hx);conv=>whnf
     exact⟨((ltN 32 p1.data.length),()),hm,⟨O,trivial⟩,VLe.refl _ _,VLe.refl _ _,VLe.refl _ _,trivial⟩
 ·clear hm;rintro⟨v1,_⟩ base h hm ⟨O,_⟩
  ((conv=>whnf);repeat(first|apply Cs|apply Hs|apply Hx);conv=>whnf)
  refine⟨_,rfl,fun hc=>?_,fun hc=>?_⟩
  ·replace hm:=hm.1 hc
   apply Cs;(conv=>whnf);repeat(first|apply Cs|apply Hs|apply Hx);conv=>whnf
   exact⟨8,hm,O.ext,fun h2 F=>VLe.refl _ _⟩
  ·replace hm:=hm.2 hc
   refine CodeS.joinWS hm (nn:=37) (σ:=Bool×Unit) (fun s=>s.1) (fun (v3,_) h=>Own vars h0 [] h∧True) (fun (v3,_)=>[(20,(.bool v3))]) rfl (fun hm'=>?_) ?_
   ·replace hm:=hm'
    apply Cs;(conv=>whnf);repeat(first|apply Cs|apply Hs|apply Hx);conv=>whnf
    refine⟨_,(rfl:aread _ _ _ _=some _),?_⟩;(conv=>whnf);repeat(first|apply Hs|apply Hx);conv=>whnf
    obtain⟨r5,hm,hcall⟩:=cf_outside_walk hm O.has
    refine⟨_,_,hcall,?_⟩;(conv=>whnf);repeat(first|apply Hs|apply Hx);conv=>whnf
    refine⟨_,rfl,fun hc=>?_,fun hc=>?_⟩
    ·replace hm:=hm.1 hc;(conv=>whnf);repeat(first|apply Hs|apply Hx);conv=>whnf
     refine⟨true,rfl,fun _=>?_,(fun hc=>nomatch hc)⟩;(conv=>whnf);repeat(first|apply Hs|apply Hx);conv=>whnf
     exact⟨(true,()),hm,⟨O,trivial⟩,VLe.refl _ _,trivial⟩
    ·replace hm:=hm.2 hc;(conv=>whnf);repeat(first|apply Hs|apply Hx);conv=>whnf
     refine⟨_,(rfl:aread _ _ _ _=some _),?_⟩;(conv=>whnf);repeat(first|apply Hs|apply Hx);conv=>whnf
     obtain⟨r6,hm,hcall⟩:=cf_outside_walk hm O.has
     refine⟨_,_,hcall,?_⟩;(conv=>whnf);repeat(first|apply Hs|apply Hx);conv=>whnf
     refine⟨_,rfl,fun hc=>?_,fun hc=>?_⟩
     ·replace hm:=hm.1 hc;(conv=>whnf);repeat(first|apply Hs|apply Hx);conv=>whnf
      exact⟨(true,()),hm,⟨O,trivial⟩,VLe.refl _ _,trivial⟩
     ·replace hm:=hm.2 hc;(conv=>whnf);repeat(first|apply Hs|apply Hx);conv=>whnf
      refine⟨_,(rfl:aread _ _ _ _=some _),?_⟩;(conv=>whnf);repeat(first|apply Hs|apply Hx);conv=>whnf
      refine fnG hM Tryz.func101 rfl (hP _ _ rfl Tryz.func101) (lbE rfl) ?_;(conv=>whnf);repeat(first|apply Cs|apply Hs|apply Hx);conv=>whnf
      refine⟨_,rfl,fun hc=>?_,fun hc=>?_⟩
      ·replace hm:=hm.1 hc;(conv=>whnf);repeat(first|apply Cs|apply Hs|apply Hx);conv=>whnf
       exact⟨(true,()),hm,⟨O,trivial⟩,VLe.refl _ _,trivial⟩
      ·replace hm:=hm.2 hc;(conv=>whnf);repeat(first|apply Hs|apply Hx);conv=>whnf
       refine⟨_,(rfl:aread _ _ _ _=some _),?_⟩;(conv=>whnf);repeat(first|apply Hs|apply Hx);conv=>whnf
       refine lenM (s:=4) (enc:=encNode) (l:=p0.nodes) rfl rfl ?_;(conv=>whnf);repeat(first|apply Cs|apply Hs|apply Hx);conv=>whnf
       exact⟨((!ltN p1.write p0.nodes.length),()),hm,⟨O,trivial⟩,VLe.refl _ _,trivial⟩
   ·clear hm;rintro⟨v3,_⟩ base h hm ⟨O,_⟩
    ((conv=>whnf);repeat(first|apply Cs|apply Hs|apply Hx);conv=>whnf)
    refine⟨_,rfl,fun hc=>?_,fun hc=>?_⟩
    ·replace hm:=hm.1 hc
     apply Cs;(conv=>whnf);repeat(first|apply Cs|apply Hs|apply Hx);conv=>whnf
     exact⟨1,hm,O.ext,fun h2 F=>VLe.refl _ _⟩
    ·replace hm:=hm.2 hc
     apply Cs;(conv=>whnf);repeat(first|apply Cs|apply Hs|apply Hx);conv=>whnf
     exact⟨0,hm,O.ext,fun h2 F=>VLe.refl _ _⟩
def netlists_shape_wp (p0:Circ) (K:Nat→Prop):Prop :=
 joinW (α:=Bool) (fun k2=>((ltN 16384 p0.nodes.length)=true→k2 true)∧((ltN 16384 p0.nodes.length)=false→((ltN 16 p0.mems.length)=true→k2 true)∧((ltN 16 p0.mems.length)=false→k2 (ltN 16384 p0.outs.length)))) (fun v1=>(v1=true→K 3)∧(v1=false→((neN p0.names.length p0.nodes.length)=true→K 8)∧((neN p0.names.length p0.nodes.length)=false→joinW (α:=Unit) (fun k3=>loopW (S:=Nat) (fun v4 nx5=>((ltN v4 p0.nodes.length)=true→∃ x6,p0.nodes[v4]?=some x6∧netlists_node_wp p0 x6 (fun r9=>((neN r9 0)=true→K r9)∧((neN r9 0)=false→v4+1<2 ^ 63∧nx5 (v4+1))))∧((ltN v4 p0.nodes.length)=false→k3 ())) 0) (fun _=>netlists_names_wp p0 (fun r10=>((neN r10 0)=true→K r10)∧((neN r10 0)=false→joinW (α:=Unit) (fun k11=>loopW (S:=Nat) (fun v12 nx13=>((ltN v12 p0.mems.length)=true→∃ x14,p0.mems[v12]?=some x14∧netlists_memory_wp p0 x14 (fun r17=>((neN r17 0)=true→K r17)∧((neN r17 0)=false→v12+1<2 ^ 63∧nx13 (v12+1))))∧((ltN v12 p0.mems.length)=false→k11 ())) 0) (fun _=>cf_outside_wp p0.outs p0 (fun r18=>(r18=true→K 1)∧(r18=false→K 0)))))))))
theorem netlists_shape_walk {p0:Circ}{K:Nat→Prop} (hm:netlists_shape_wp p0 K) {h0:Heap} (hB:HasB vars h0):∃ r,K r∧CallD Tryz.prog NG 105 ⟨[encCirc p0]⟩ h0 (i64 r) h0:=by
 unfold netlists_shape_wp at hm
 refine fnW hM Tryz.func105 rfl (hP _ _ rfl Tryz.func105) (lbE rfl) hB (enc:=i64) (fun r=>PureV.flat rfl) fun O=>?_;conv=>whnf
 apply Cs;(conv=>whnf);repeat(first|apply Cs|apply Hs|apply Hx);conv=>whnf
 refine NewG.frz rfl ?_;(conv=>whnf);repeat(first|apply Hs|apply Hx);conv=>whnf
 apply Cs;conv=>whnf
 apply Cs;conv=>whnf
 refine CodeS.joinWS hm (nn:=73) (σ:=Bool×Unit) (fun s=>s.1) (fun (v1,_) h=>Own vars h0 [] h∧True) (fun (v1,_)=>[(1,(FP (encCirc p0))),(10,(.bool v1))]) rfl (fun hm'=>?_) ?_
 ·replace hm:=hm'
  apply Cs;(conv=>whnf);repeat(first|apply Cs|apply Hs|apply Hx);conv=>whnf
  refine⟨_,(rfl:aread _ _ _ _=some _),?_⟩;(conv=>whnf);repeat(first|apply Hs|apply Hx);conv=>whnf
  refine lenM (s:=4) (enc:=encNode) (l:=p0.nodes) rfl rfl ?_;(conv=>whnf);repeat(first|apply Hs|apply Hx);conv=>whnf
  refine⟨_,rfl,fun hc=>?_,fun hc=>?_⟩
  ·replace hm:=hm.1 hc;(conv=>whnf);repeat(first|apply Hs|apply Hx);conv=>whnf
   refine⟨true,rfl,fun _=>?_,(fun hc=>nomatch hc)⟩;(conv=>whnf);repeat(first|apply Hs|apply Hx);conv=>whnf
   exact⟨(true,()),hm,⟨O,trivial⟩,VLe.refl _ _,VLe.refl _ _,trivial⟩
  ·replace hm:=hm.2 hc;(conv=>whnf);repeat(first|apply Hs|apply Hx);conv=>whnf
   refine⟨_,(rfl:aread _ _ _ _=some _),?_⟩;(conv=>whnf);repeat(first|apply Hs|apply Hx);conv=>whnf
   refine lenM (s:=3) (enc:=encMem) (l:=p0.mems) rfl rfl ?_;(conv=>whnf);repeat(first|apply Hs|apply Hx);conv=>whnf
   refine⟨_,rfl,fun hc=>?_,fun hc=>?_⟩
   ·replace hm:=hm.1 hc;(conv=>whnf);repeat(first|apply Hs|apply Hx);conv=>whnf
    exact⟨(true,()),hm,⟨O,trivial⟩,VLe.refl _ _,VLe.refl _ _,trivial⟩
   ·replace hm:=hm.2 hc;(conv=>whnf);repeat(first|apply Hs|apply Hx);conv=>whnf
    refine⟨_,(rfl:aread _ _ _ _=some _),?_⟩;(conv=>whnf);repeat(first|apply Hs|apply Hx);conv=>whnf
    refine lenM (s:=1) (enc:=i64) (l:=p0.outs) rfl rfl ?_;(conv=>whnf);repeat(first|apply Hs|apply Hx);conv=>whnf
    exact⟨((ltN 16384 p0.outs.length),()),hm,⟨O,trivial⟩,VLe.refl _ _,VLe.refl _ _,trivial⟩
 ·clear hm;rintro⟨v1,_⟩ base h hm ⟨O,_⟩
  ((conv=>whnf);repeat(first|apply Cs|apply Hs|apply Hx);conv=>whnf)
  refine⟨_,rfl,fun hc=>?_,fun hc=>?_⟩
  ·replace hm:=hm.1 hc
   apply Cs;(conv=>whnf);repeat(first|apply Cs|apply Hs|apply Hx);conv=>whnf
   exact⟨3,hm,O.ext,fun h2 F=>VLe.refl _ _⟩
  ·replace hm:=hm.2 hc
   apply Cs;(conv=>whnf);repeat(first|apply Cs|apply Hs|apply Hx);conv=>whnf
   refine⟨_,(rfl:aread _ _ _ _=some _),?_⟩;(conv=>whnf);repeat(first|apply Hs|apply Hx);conv=>whnf
   refine lenM (s:=1) (enc:=Value.string) (l:=p0.names) rfl rfl ?_;(conv=>whnf);repeat(first|apply Hs|apply Hx);conv=>whnf
   refine⟨_,(rfl:aread _ _ _ _=some _),?_⟩;(conv=>whnf);repeat(first|apply Hs|apply Hx);conv=>whnf
   refine lenM (s:=4) (enc:=encNode) (l:=p0.nodes) rfl rfl ?_;(conv=>whnf);repeat(first|apply Cs|apply Hs|apply Hx);conv=>whnf
   refine⟨_,rfl,fun hc=>?_,fun hc=>?_⟩
   ·replace hm:=hm.1 hc
    apply Cs;(conv=>whnf);repeat(first|apply Cs|apply Hs|apply Hx);conv=>whnf
    exact⟨8,hm,O.ext,fun h2 F=>VLe.refl _ _⟩
   ·replace hm:=hm.2 hc
    apply Cs;conv=>whnf
    refine CodeS.joinWS hm (nn:=73) (σ:=Unit×Unit) (fun s=>s.1) (fun (_,_) h=>Own vars h0 [] h∧True) (fun (_,_)=>[(1,(FP (encCirc p0)))]) rfl (fun hm'=>?_) ?_
    ·replace hm:=hm'
     apply Cs;(conv=>whnf);repeat(first|apply Cs|apply Hs|apply Hx);conv=>whnf
     refine⟨_,(rfl:aread _ _ _ _=some _),?_⟩;(conv=>whnf);repeat(first|apply Hs|apply Hx);conv=>whnf
     refine lenM (s:=4) (enc:=encNode) (l:=p0.nodes) rfl rfl ?_;(conv=>whnf);repeat(first|apply Cs|apply Hs|apply Hx);conv=>whnf
     refine loopWK hM (by kernel_rfl) (nn:=73) (S:=Nat) (σ:=Nat×Unit) (fun s=>s.1) (fun (v4,_) h=>Own vars h0 [] h∧True) (fun (v4,_)=>[(1,(FP (encCirc p0))),(36,((encL 4 encNode) p0.nodes)),(37,(i64 p0.nodes.length)),(38,(i64 v4))]) rfl (0,()) hm ⟨O,trivial⟩ ⟨VLe.refl _ _,VLe.refl _ _,VLe.refl _ _,VLe.refl _ _,trivial⟩ ?_
     clear hm;rintro⟨v4,_⟩ nx5 base h hm ⟨O,_⟩
     ((conv=>whnf);repeat(first|apply Cs|apply Hs|apply Hx);conv=>whnf)
     refine⟨_,rfl,fun hc=>?_,fun hc=>?_⟩
     ·replace hm:=hm.1 hc
      apply Cs;(conv=>whnf);repeat(first|apply Cs|apply Hs|apply Hx);conv=>whnf
      obtain⟨x6,hx6,hm⟩:=hm
      refine flAtM (s:=4) (enc:=encNode) (j:=v4) rfl rfl rfl rfl hx6 ?_;(conv=>whnf);repeat(first|apply Hs|apply Hx);conv=>whnf
      refine⟨_,(rfl:aread _ _ _ _=some _),?_⟩;(conv=>whnf);repeat(first|apply Hs|apply Hx);conv=>whnf
      refine O.new (anew_alloc (l:=[(n8 0),(.slice none 0 0),(i64 0),(i64 0)]) rfl rfl rfl) fun g7 h O=>?_;(conv=>whnf);repeat(first|apply Hs|apply Hx);conv=>whnf
      refine O.store (n:=4) (cs':=[(n8 x6.kind),((encL 1 i64) x6.ins),(i64 x6.mem),(i64 x6.bit)]) (.head _) rfl rfl rfl rfl (lbE rfl) rfl rfl fun h O=>?_;(conv=>whnf);repeat(first|apply Cs|apply Hs|apply Hx);conv=>whnf
      refine⟨_,(rfl:aread _ _ _ _=some _),?_⟩;(conv=>whnf);repeat(first|apply Hs|apply Hx);conv=>whnf
      refine⟨_,loadAggK rfl (O.at (.head _)) rfl rfl (lbE rfl) rfl,?_⟩;(conv=>whnf);repeat(first|apply Hs|apply Hx);conv=>whnf
      obtain⟨r9,hm,hcall⟩:=netlists_node_walk hm O.has
      refine⟨_,_,hcall,?_⟩;(conv=>whnf);repeat(first|apply Cs|apply Hs|apply Hx);conv=>whnf
      refine⟨_,rfl,fun hc=>?_,fun hc=>?_⟩
      ·replace hm:=hm.1 hc
       apply Cs;(conv=>whnf);repeat(first|apply Cs|apply Hs|apply Hx);conv=>whnf
       exact⟨r9,hm,O.ext,fun h2 F=>VLe.refl _ _⟩
      ·replace hm:=hm.2 hc
       apply Cs;(conv=>whnf);repeat(first|apply Cs|apply Hs|apply Hx);conv=>whnf
       refine⟨_,addK (a:=v4) (b:=1) rfl rfl hm.1,?_⟩;(conv=>whnf);repeat(first|apply Hs|apply Hx);conv=>whnf
       replace hm:=hm.2
       exact⟨((v4+1),()),hm,⟨(O.sel [] (by decide)),trivial⟩,VLe.refl _ _,VLe.refl _ _,VLe.refl _ _,VLe.refl _ _,trivial⟩
     ·replace hm:=hm.2 hc
      apply Cs;(conv=>whnf);repeat(first|apply Cs|apply Hs|apply Hx);conv=>whnf
      exact⟨((),()),hm,⟨O,trivial⟩,VLe.refl _ _,trivial⟩
    ·clear hm;rintro⟨_,_⟩ base h hm ⟨O,_⟩
     ((conv=>whnf);repeat(first|apply Cs|apply Hs|apply Hx);conv=>whnf)
     refine⟨_,(rfl:aread _ _ _ _=some _),?_⟩;(conv=>whnf);repeat(first|apply Hs|apply Hx);conv=>whnf
     obtain⟨r10,hm,hcall⟩:=netlists_names_walk hm O.has
     refine⟨_,_,hcall,?_⟩;(conv=>whnf);repeat(first|apply Cs|apply Hs|apply Hx);conv=>whnf
     refine⟨_,rfl,fun hc=>?_,fun hc=>?_⟩
     ·replace hm:=hm.1 hc
      apply Cs;(conv=>whnf);repeat(first|apply Cs|apply Hs|apply Hx);conv=>whnf
      exact⟨r10,hm,O.ext,fun h2 F=>VLe.refl _ _⟩
     ·replace hm:=hm.2 hc
      apply Cs;conv=>whnf
      refine CodeS.joinWS hm (nn:=73) (σ:=Unit×Unit) (fun s=>s.1) (fun (_,_) h=>Own vars h0 [] h∧True) (fun (_,_)=>[(1,(FP (encCirc p0)))]) rfl (fun hm'=>?_) ?_
      ·replace hm:=hm'
       apply Cs;(conv=>whnf);repeat(first|apply Cs|apply Hs|apply Hx);conv=>whnf
       refine⟨_,(rfl:aread _ _ _ _=some _),?_⟩;(conv=>whnf);repeat(first|apply Hs|apply Hx);conv=>whnf
       refine lenM (s:=3) (enc:=encMem) (l:=p0.mems) rfl rfl ?_;(conv=>whnf);repeat(first|apply Cs|apply Hs|apply Hx);conv=>whnf
       refine loopWK hM (by kernel_rfl) (nn:=73) (S:=Nat) (σ:=Nat×Unit) (fun s=>s.1) (fun (v12,_) h=>Own vars h0 [] h∧True) (fun (v12,_)=>[(1,(FP (encCirc p0))),(55,((encL 3 encMem) p0.mems)),(56,(i64 p0.mems.length)),(57,(i64 v12))]) rfl (0,()) hm ⟨O,trivial⟩ ⟨VLe.refl _ _,VLe.refl _ _,VLe.refl _ _,VLe.refl _ _,trivial⟩ ?_
       clear hm;rintro⟨v12,_⟩ nx13 base h hm ⟨O,_⟩
       ((conv=>whnf);repeat(first|apply Cs|apply Hs|apply Hx);conv=>whnf)
       refine⟨_,rfl,fun hc=>?_,fun hc=>?_⟩
       ·replace hm:=hm.1 hc
        apply Cs;(conv=>whnf);repeat(first|apply Cs|apply Hs|apply Hx);conv=>whnf
        obtain⟨x14,hx14,hm⟩:=hm
        refine flAtM (s:=3) (enc:=encMem) (j:=v12) rfl rfl rfl rfl hx14 ?_;(conv=>whnf);repeat(first|apply Hs|apply Hx);conv=>whnf
        refine⟨_,(rfl:aread _ _ _ _=some _),?_⟩;(conv=>whnf);repeat(first|apply Hs|apply Hx);conv=>whnf
        refine O.new (anew_alloc (l:=[(.slice none 0 0),(.slice none 0 0),(i64 0)]) rfl rfl rfl) fun g15 h O=>?_;(conv=>whnf);repeat(first|apply Hs|apply Hx);conv=>whnf
        refine O.store (n:=3) (cs':=[((encL 1 i64) x14.addr),((encL 1 i64) x14.data),(i64 x14.write)]) (.head _) rfl rfl rfl rfl (lbE rfl) rfl rfl fun h O=>?_;(conv=>whnf);repeat(first|apply Cs|apply Hs|apply Hx);conv=>whnf
        refine⟨_,(rfl:aread _ _ _ _=some _),?_⟩;(conv=>whnf);repeat(first|apply Hs|apply Hx);conv=>whnf
        refine⟨_,loadAggK rfl (O.at (.head _)) rfl rfl (lbE rfl) rfl,?_⟩;(conv=>whnf);repeat(first|apply Hs|apply Hx);conv=>whnf
        obtain⟨r17,hm,hcall⟩:=netlists_memory_walk hm O.has
        refine⟨_,_,hcall,?_⟩;(conv=>whnf);repeat(first|apply Cs|apply Hs|apply Hx);conv=>whnf
        refine⟨_,rfl,fun hc=>?_,fun hc=>?_⟩
        ·replace hm:=hm.1 hc
         apply Cs;(conv=>whnf);repeat(first|apply Cs|apply Hs|apply Hx);conv=>whnf
         exact⟨r17,hm,O.ext,fun h2 F=>VLe.refl _ _⟩
        ·replace hm:=hm.2 hc
         apply Cs;(conv=>whnf);repeat(first|apply Cs|apply Hs|apply Hx);conv=>whnf
         refine⟨_,addK (a:=v12) (b:=1) rfl rfl hm.1,?_⟩;(conv=>whnf);repeat(first|apply Hs|apply Hx);conv=>whnf
         replace hm:=hm.2
         exact⟨((v12+1),()),hm,⟨(O.sel [] (by decide)),trivial⟩,VLe.refl _ _,VLe.refl _ _,VLe.refl _ _,VLe.refl _ _,trivial⟩
       ·replace hm:=hm.2 hc
        apply Cs;(conv=>whnf);repeat(first|apply Cs|apply Hs|apply Hx);conv=>whnf
        exact⟨((),()),hm,⟨O,trivial⟩,VLe.refl _ _,trivial⟩
      ·clear hm;rintro⟨_,_⟩ base h hm ⟨O,_⟩
       ((conv=>whnf);repeat(first|apply Cs|apply Hs|apply Hx);conv=>whnf)
       refine⟨_,(rfl:aread _ _ _ _=some _),?_⟩;(conv=>whnf);repeat(first|apply Hs|apply Hx);conv=>whnf
       first|refine⟨.inr (.inr (rfl)),?_⟩|refine⟨.inr (.inl (by kernel_rfl)),?_⟩
       ((conv=>whnf);repeat(first|apply Cs|apply Hs|apply Hx);conv=>whnf)
       refine⟨_,(rfl:aread _ _ _ _=some _),?_⟩;(conv=>whnf);repeat(first|apply Hs|apply Hx);conv=>whnf
       first|refine⟨.inr (.inr (rfl)),?_⟩|refine⟨.inr (.inl (by kernel_rfl)),?_⟩
       ((conv=>whnf);repeat(first|apply Cs|apply Hs|apply Hx);conv=>whnf)
       refine fnG hM Tryz.func73 rfl (hP _ _ rfl Tryz.func73) (lbE rfl) ?_;(conv=>whnf);repeat(first|apply Cs|apply Hs|apply Hx);conv=>whnf
       refine NewG.frz rfl ?_;(conv=>whnf);repeat(first|apply Cs|apply Hs|apply Hx);conv=>whnf
       refine makeFuncK rfl rfl ?_;(conv=>whnf);repeat(first|apply Cs|apply Hs|apply Hx);conv=>whnf
       refine⟨.inl (Ext.refl _),?_⟩;(conv=>whnf);repeat(first|apply Hs|apply Hx);conv=>whnf
       obtain⟨r18,hm,hcall⟩:=cf_outside_walk hm O.has
       refine⟨_,_,hcall,?_⟩;(conv=>whnf);repeat(first|apply Hs|apply Hx);conv=>whnf
       refine⟨.inl (Ext.refl _),?_⟩;(conv=>whnf);repeat(first|apply Hs|apply Hx);conv=>whnf
       apply Cs;(conv=>whnf);repeat(first|apply Cs|apply Hs|apply Hx);conv=>whnf
       refine⟨_,rfl,fun hc=>?_,fun hc=>?_⟩
       ·replace hm:=hm.1 hc
        apply Cs;(conv=>whnf);repeat(first|apply Cs|apply Hs|apply Hx);conv=>whnf
        exact⟨1,hm,O.ext,fun h2 F=>VLe.refl _ _⟩
       ·replace hm:=hm.2 hc
        apply Cs;(conv=>whnf);repeat(first|apply Cs|apply Hs|apply Hx);conv=>whnf
        exact⟨0,hm,O.ext,fun h2 F=>VLe.refl _ _⟩
def netlists_Of_wp (p0:Circ) (p1:(List Nat)) (K:(List Nat)→Prop):Prop :=
 joinW (α:=(List Nat)) (fun k5=>loopW (S:=((List Nat)×Nat)) (fun (v7,v8) nx10=>((ltN v8 p0.nodes.length)=true→joinW (α:=(List Nat)) (fun k14=>∃ x15,p0.nodes[v8]?=some x15∧sl_ContainsK_wp p1 x15.kind (fun r18=>(r18=true→(v7.length+([v8]:(List Nat)).length)*8≤2 ^ 47∧k14 (v7++([v8]:(List Nat))))∧(r18=false→k14 v7))) (fun v12=>v8+1<2 ^ 63∧nx10 (v12,(v8+1))))∧((ltN v8 p0.nodes.length)=false→k5 v7)) (([]:List Nat),0)) (fun v3=>K v3)
theorem netlists_Of_walk {p0:Circ}{p1:(List Nat)}{K:(List Nat)→Prop} (hm:netlists_Of_wp p0 p1 K) {h0:Heap} (hB:HasB vars h0):∃ r,K r∧CallD Tryz.prog NG 47 ⟨[encCirc p0,(encL 1 n8) p1]⟩ h0 ((encL 1 i64) r) h0:=by
 unfold netlists_Of_wp at hm
 refine fnW hM Tryz.func47 rfl (hP _ _ rfl Tryz.func47) (lbE rfl) hB (enc:=(encL 1 i64)) (fun r=>pureL (fun _=>AllPure.cons (PureV.flat rfl) AllPure.nil)) fun O=>?_;conv=>whnf
 apply Cs;(conv=>whnf);repeat(first|apply Cs|apply Hs|apply Hx);conv=>whnf
 refine NewG.frz rfl ?_;(conv=>whnf);repeat(first|apply Hs|apply Hx);conv=>whnf
 apply Cs;conv=>whnf
 apply Cs;(conv=>whnf);repeat(first|apply Hs|apply Hx);conv=>whnf
 have O:=O.addNil (.cells (flatC ((([]:List Nat)).map i64)) false)
 refine CodeS.joinWS hm (nn:=27) (σ:=(List Nat)×Option Nat) (fun s=>s.1) (fun (v3,a2) h=>(a2=none→v3=[])∧Own vars h0 [(a2,.cells (flatC (v3.map i64)) false)] h∧True) (fun (v3,a2)=>[(5,(growV 1 a2 (v3.map i64)))]) rfl (fun hm'=>?_) ?_
 ·replace hm:=hm'
  apply Cs;(conv=>whnf);repeat(first|apply Cs|apply Hs|apply Hx);conv=>whnf
  refine⟨_,(rfl:aread _ _ _ _=some _),?_⟩;(conv=>whnf);repeat(first|apply Hs|apply Hx);conv=>whnf
  refine lenM (s:=4) (enc:=encNode) (l:=p0.nodes) rfl rfl ?_;(conv=>whnf);repeat(first|apply Cs|apply Hs|apply Hx);conv=>whnf
  refine loopWK hM (by kernel_rfl) (nn:=27) (S:=((List Nat)×Nat)) (σ:=((List Nat)×Nat)×Option Nat) (fun s=>s.1) (fun ((v7,v8),a6) h=>(a6=none→v7=[])∧Own vars h0 [(a6,.cells (flatC (v7.map i64)) false)] h∧True) (fun ((v7,v8),a6)=>[(1,((encL 1 n8) p1)),(5,(growV 1 a6 (v7.map i64))),(9,((encL 4 encNode) p0.nodes)),(10,(i64 p0.nodes.length)),(11,(i64 v8))]) rfl ((([]:List Nat),0),none) hm ⟨(fun _=>rfl),O,trivial⟩ ⟨VLe.refl _ _,VLe.refl _ _,VLe.refl _ _,VLe.refl _ _,VLe.refl _ _,trivial⟩ ?_
  clear hm;rintro⟨⟨v7,v8⟩,a6⟩ nx10 base h hm ⟨ha9,O,_⟩
  ((conv=>whnf);repeat(first|apply Cs|apply Hs|apply Hx);conv=>whnf)
  refine⟨_,rfl,fun hc=>?_,fun hc=>?_⟩
  ·replace hm:=hm.1 hc
   apply Cs;conv=>whnf
   refine CodeS.joinWS hm (nn:=27) (σ:=(List Nat)×Option Nat) (fun s=>s.1) (fun (v12,a11) h=>(a11=none→v12=[])∧Own vars h0 [(a11,.cells (flatC (v12.map i64)) false)] h∧True) (fun (v12,a11)=>[(1,((encL 1 n8) p1)),(5,(growV 1 a11 (v12.map i64))),(9,((encL 4 encNode) p0.nodes)),(10,(i64 p0.nodes.length)),(11,(i64 v8))]) rfl (fun hm'=>?_) ?_
   ·replace hm:=hm'
    apply Cs;(conv=>whnf);repeat(first|apply Cs|apply Hs|apply Hx);conv=>whnf
    obtain⟨x15,hx15,hm⟩:=hm
    refine flAtM (s:=4) (enc:=encNode) (j:=v8) rfl rfl rfl rfl hx15 ?_;(conv=>whnf);repeat(first|apply Hs|apply Hx);conv=>whnf
    refine⟨_,(rfl:aread _ _ _ _=some _),?_⟩;(conv=>whnf);repeat(first|apply Hs|apply Hx);conv=>whnf
    refine O.new (anew_alloc (l:=[(n8 0),(.slice none 0 0),(i64 0),(i64 0)]) rfl rfl rfl) fun g16 h O=>?_;(conv=>whnf);repeat(first|apply Hs|apply Hx);conv=>whnf
    refine O.store (n:=4) (cs':=[(n8 x15.kind),((encL 1 i64) x15.ins),(i64 x15.mem),(i64 x15.bit)]) (.head _) rfl rfl rfl rfl (lbE rfl) rfl rfl fun h O=>?_;(conv=>whnf);repeat(first|apply Cs|apply Hs|apply Hx);conv=>whnf
    refine⟨_,loadK rfl (O.at (.head _)) rfl rfl,?_⟩;(conv=>whnf);repeat(first|apply Hs|apply Hx);conv=>whnf
    obtain⟨r18,hm,hcall⟩:=sl_ContainsK_walk hm O.has
    refine⟨_,_,hcall,?_⟩;(conv=>whnf);repeat(first|apply Cs|apply Hs|apply Hx);conv=>whnf
    refine⟨_,rfl,fun hc=>?_,fun hc=>?_⟩
    ·replace hm:=hm.1 hc
     apply Cs;(conv=>whnf);repeat(first|apply Cs|apply Hs|apply Hx);conv=>whnf
     refine NewG.frz rfl ?_;(conv=>whnf);repeat(first|apply Hs|apply Hx);conv=>whnf
     refine O.appendL (enc:=i64) (l:=v7) (new:=([v8]:(List Nat))) (s:=1) (b:=8) (.tail _ (.head _)) ha9 rfl rfl rfl rfl rfl rfl rfl rfl (YOk.fl rfl) (fun _=>rfl) (fun _=>rfl) (by decide) hm.1 fun a19 h ha20 O=>?_;(conv=>whnf);repeat(first|apply Hs|apply Hx);conv=>whnf
     replace hm:=hm.2
     exact⟨((v7++([v8]:(List Nat))),a19),hm,⟨ha20,(O.sel [1] (by decide)),trivial⟩,VLe.refl _ _,VLe.refl _ _,VLe.refl _ _,VLe.refl _ _,VLe.refl _ _,trivial⟩
    ·replace hm:=hm.2 hc
     apply Cs;(conv=>whnf);repeat(first|apply Cs|apply Hs|apply Hx);conv=>whnf
     exact⟨(v7,a6),hm,⟨ha9,(O.sel [1] (by decide)),trivial⟩,VLe.refl _ _,VLe.refl _ _,VLe.refl _ _,VLe.refl _ _,VLe.refl _ _,trivial⟩
   ·clear hm;rintro⟨v12,a11⟩ base h hm ⟨ha13,O,_⟩
    ((conv=>whnf);repeat(first|apply Cs|apply Hs|apply Hx);conv=>whnf)
    refine⟨_,addK (a:=v8) (b:=1) rfl rfl hm.1,?_⟩;(conv=>whnf);repeat(first|apply Hs|apply Hx);conv=>whnf
    replace hm:=hm.2
    exact⟨((v12,(v8+1)),a11),hm,⟨ha13,O,trivial⟩,VLe.refl _ _,VLe.refl _ _,VLe.refl _ _,VLe.refl _ _,VLe.refl _ _,trivial⟩
  ·replace hm:=hm.2 hc
   apply Cs;(conv=>whnf);repeat(first|apply Cs|apply Hs|apply Hx);conv=>whnf
   exact⟨(v7,a6),hm,⟨ha9,O,trivial⟩,VLe.refl _ _,trivial⟩
 ·clear hm;rintro⟨v3,a2⟩ base h hm ⟨ha4,O,_⟩
  ((conv=>whnf);repeat(first|apply Cs|apply Hs|apply Hx);conv=>whnf)
  refine fnG hM Tryz.func72 rfl (hP _ _ rfl Tryz.func72) (lbE rfl) ?_;(conv=>whnf);repeat(first|apply Cs|apply Hs|apply Hx);conv=>whnf
  refine lenG (enc:=i64) (l:=v3) rfl rfl ?_;(conv=>whnf);repeat(first|apply Hs|apply Hx);conv=>whnf
  refine lenG (enc:=i64) (l:=v3) rfl rfl ?_;(conv=>whnf);repeat(first|apply Hs|apply Hx);conv=>whnf
  refine clipK (s:=1) (enc:=i64) (l:=v3) (n:=v3.length) (m:=v3.length) rfl rfl rfl rfl rfl rfl rfl ?_;(conv=>whnf);repeat(first|apply Cs|apply Hs|apply Hx);conv=>whnf
  exact⟨v3,hm,O.ext,fun h2 F=>O.clipL F (Nat.le_refl _) (.head _) ha4 (fun _=>rfl)⟩
def netlists_Levels_wp (p0:Circ) (K:((List Nat)×Nat)→Prop):Prop :=
 netlists_shape_wp p0 (fun r1=>((neN r1 0)=true→K ([],r1))∧((neN r1 0)=false→8*p0.nodes.length≤2 ^ 48∧p0.nodes.length<2 ^ 63∧8*p0.nodes.length≤2 ^ 48∧p0.nodes.length<2 ^ 63∧joinW (α:=((List Nat)×(List Nat))) (fun k11=>loopW (S:=((List Nat)×(List Nat)×Nat)) (fun (v12,v14,v15) nx17=>((ltN v15 p0.nodes.length)=true→joinW (α:=((List Nat)×(List Nat))) (fun k22=>∃ x23,p0.nodes[v15]?=some x23∧joinW (α:=(List Nat)) (fun k28=>netlists_Comb_wp x23.kind (fun r29=>(r29=true→v15<p0.nodes.length∧∃ x30,v12[v15]?=some x30∧k28 (v12.set v15 x23.ins.length))∧(r29=false→k28 v12))) (fun v26=>v15<p0.nodes.length∧∃ x31,v26[v15]?=some x31∧((eqN x31 0)=true→(v14.length+([v15]:(List Nat)).length)*8≤2 ^ 47∧k22 (v26,(v14++([v15]:(List Nat)))))∧((eqN x31 0)=false→k22 (v26,v14)))) (fun (v18,v20)=>v15+1<2 ^ 63∧nx17 (v18,v20,(v15+1))))∧((ltN v15 p0.nodes.length)=false→k11 (v12,v14))) ((List.replicate p0.nodes.length (0:Nat)),([]:List Nat),0)) (fun (v7,v9)=>netlists_Fanout_wp p0 (fun r34=>joinW (α:=((List Nat)×Nat)) (fun k37=>loopW (S:=((List Nat)×(List Nat)×(List Nat)×Nat)) (fun (v38,v39,v41,v42) nx44=>((ltN v42 v41.length)=true→∃ x45,v41[v42]?=some x45∧v42+1<2 ^ 63∧∃ x47,r34[x45]?=some x47∧((eqN x47.length 0)=true→nx44 (v38,v39,v41,(v42+1)))∧((eqN x47.length 0)=false→∃ x48,r34[x45]?=some x48∧loopW (S:=((List Nat)×(List Nat)×(List Nat)×Nat)) (fun (v49,v50,v52,v53) nx55=>((ltN v53 x48.length)=true→joinW (α:=((List Nat)×(List Nat)×(List Nat))) (fun k61=>∃ x62,x48[v53]?=some x62∧∃ x65,p0.nodes[x62.node]?=some x65∧netlists_Comb_wp x65.kind (fun r66=>((!r66)=true→k61 (v49,v50,v52))∧((!r66)=false→x62.node<p0.nodes.length∧∃ x67,v49[x62.node]?=some x67∧x45<p0.nodes.length∧∃ x68,v49[x45]?=some x68∧x68+1<2 ^ 63∧x62.node<p0.nodes.length∧∃ x69,v49[x62.node]?=some x69∧x62.node<p0.nodes.length∧∃ x70,v50[x62.node]?=some x70∧1≤x70∧x70<2 ^ 63∧x62.node<p0.nodes.length∧∃ x71,v50[x62.node]?=some x71∧x62.node<p0.nodes.length∧∃ x72,(v50.set x62.node (x70-1))[x62.node]?=some x72∧((eqN x72 0)=true→(v52.length+([x62.node]:(List Nat)).length)*8≤2 ^ 47∧k61 ((v49.set x62.node (max x67 (x68+1))),(v50.set x62.node (x70-1)),(v52++([x62.node]:(List Nat)))))∧((eqN x72 0)=false→k61 ((v49.set x62.node (max x67 (x68+1))),(v50.set x62.node (x70-1)),v52))))) (fun (v56,v57,v59)=>v53+1<2 ^ 63∧nx55 (v56,v57,v59,(v53+1))))∧((ltN v53 x48.length)=false→nx44 (v49,v50,v52,(v42+1)))) (v38,v39,v41,0)))∧((ltN v42 v41.length)=false→k37 (v38,v42))) ((List.replicate p0.nodes.length (0:Nat)),v7,v9,0)) (fun (v35,v36)=>((ltN v36 p0.nodes.length)=true→K ([],6))∧((ltN v36 p0.nodes.length)=false→p0.nodes.length=v35.length∧K (v35,0)))))))
theorem netlists_Levels_walk {p0:Circ}{K:((List Nat)×Nat)→Prop} (hm:netlists_Levels_wp p0 K) {h0:Heap} (hB:HasB vars h0):∃ r,K r∧CallD Tryz.prog NG 78 ⟨[encCirc p0]⟩ h0 ((fun (r:((List Nat)×Nat))=>Value.tuple ⟨[(encL 1 i64) (r.1),i64 (r.2)]⟩) r) h0:=by
 unfold netlists_Levels_wp at hm
 refine fnW hM Tryz.func78 rfl (hP _ _ rfl Tryz.func78) (lbE rfl) hB (enc:=(fun (r:((List Nat)×Nat))=>Value.tuple ⟨[(encL 1 i64) (r.1),i64 (r.2)]⟩)) (fun r=>PureV.tup (AllPure.cons (pureL (fun _=>AllPure.cons (PureV.flat rfl) AllPure.nil)) (AllPure.cons (PureV.flat rfl) (AllPure.nil)))) fun O=>?_;conv=>whnf
 apply Cs;(conv=>whnf);repeat(first|apply Cs|apply Hs|apply Hx);conv=>whnf
 refine NewG.frz rfl ?_;(conv=>whnf);repeat(first|apply Cs|apply Hs|apply Hx);conv=>whnf
 refine⟨_,(rfl:aread _ _ _ _=some _),?_⟩;(conv=>whnf);repeat(first|apply Hs|apply Hx);conv=>whnf
 obtain⟨r1,hm,hcall⟩:=netlists_shape_walk hm O.has
 refine⟨_,_,hcall,?_⟩;(conv=>whnf);repeat(first|apply Cs|apply Hs|apply Hx);conv=>whnf
 refine⟨_,rfl,fun hc=>?_,fun hc=>?_⟩
 ·replace hm:=hm.1 hc
  apply Cs;(conv=>whnf);repeat(first|apply Cs|apply Hs|apply Hx);conv=>whnf
  exact⟨([],r1),hm,O.ext,fun h2 F=>VLe.tup (LLe.cons (VLe.nil _ _) (LLe.cons (VLe.refl _ _) (LLe.nil _)))⟩
 ·replace hm:=hm.2 hc
  apply Cs;(conv=>whnf);repeat(first|apply Cs|apply Hs|apply Hx);conv=>whnf
  refine⟨_,(rfl:aread _ _ _ _=some _),?_⟩;(conv=>whnf);repeat(first|apply Hs|apply Hx);conv=>whnf
  refine lenM (s:=4) (enc:=encNode) (l:=p0.nodes) rfl rfl ?_;(conv=>whnf);repeat(first|apply Hs|apply Hx);conv=>whnf
  refine O.makeL (enc:=i64) (z:=0) (b:=8) (s:=1) (n:=p0.nodes.length) rfl rfl rfl rfl rfl (by decide) (by kernel_rfl) rfl rfl hm.1 hm.2.1 fun g2 h O=>?_;(conv=>whnf);repeat(first|apply Cs|apply Hs|apply Hx);conv=>whnf
  replace hm:=hm.2.2
  refine⟨_,(rfl:aread _ _ _ _=some _),?_⟩;(conv=>whnf);repeat(first|apply Hs|apply Hx);conv=>whnf
  refine lenM (s:=4) (enc:=encNode) (l:=p0.nodes) rfl rfl ?_;(conv=>whnf);repeat(first|apply Hs|apply Hx);conv=>whnf
  refine O.makeL (enc:=i64) (z:=0) (b:=8) (s:=1) (n:=p0.nodes.length) rfl rfl rfl rfl rfl (by decide) (by kernel_rfl) rfl rfl hm.1 hm.2.1 fun g4 h O=>?_;(conv=>whnf);repeat(first|apply Hs|apply Hx);conv=>whnf
  replace hm:=hm.2.2
  apply Cs;conv=>whnf
  apply Cs;(conv=>whnf);repeat(first|apply Hs|apply Hx);conv=>whnf
  have O:=O.addNil (.cells (flatC ((([]:List Nat)).map i64)) false)
  refine CodeS.joinWS hm (nn:=131) (σ:=((List Nat)×(List Nat))×Option Nat) (fun s=>s.1) (fun ((v7,v9),a8) h=>(a8=none→v9=[])∧Own vars h0 [((some g2),.cells (flatC ((List.replicate p0.nodes.length (0:Nat)).map i64)) false),((some g4),.cells (flatC (v7.map i64)) false),(a8,.cells (flatC (v9.map i64)) false)] h∧True) (fun ((v7,v9),a8)=>[(1,(FP (encCirc p0))),(5,(.slice (some ⟨g2,0,none⟩) p0.nodes.length p0.nodes.length)),(6,(.slice (some ⟨g4,0,none⟩) p0.nodes.length p0.nodes.length)),(7,(growV 1 a8 (v9.map i64)))]) rfl (fun hm'=>?_) ?_
  ·replace hm:=hm'
   apply Cs;(conv=>whnf);repeat(first|apply Cs|apply Hs|apply Hx);conv=>whnf
   refine⟨_,(rfl:aread _ _ _ _=some _),?_⟩;(conv=>whnf);repeat(first|apply Hs|apply Hx);conv=>whnf
   refine lenM (s:=4) (enc:=encNode) (l:=p0.nodes) rfl rfl ?_;(conv=>whnf);repeat(first|apply Cs|apply Hs|apply Hx);conv=>whnf
   refine loopWK hM (by kernel_rfl) (nn:=131) (S:=((List Nat)×(List Nat)×Nat)) (σ:=((List Nat)×(List Nat)×Nat)×Option Nat) (fun s=>s.1) (fun ((v12,v14,v15),a13) h=>(a13=none→v14=[])∧Own vars h0 [((some g2),.cells (flatC ((List.replicate p0.nodes.length (0:Nat)).map i64)) false),((some g4),.cells (flatC (v12.map i64)) false),(a13,.cells (flatC (v14.map i64)) false)] h∧True) (fun ((v12,v14,v15),a13)=>[(1,(FP (encCirc p0))),(5,(.slice (some ⟨g2,0,none⟩) p0.nodes.length p0.nodes.length)),(6,(.slice (some ⟨g4,0,none⟩) p0.nodes.length p0.nodes.length)),(7,(growV 1 a13 (v14.map i64))),(29,((encL 4 encNode) p0.nodes)),(30,(i64 p0.nodes.length)),(31,(i64 v15))]) rfl (((List.replicate p0.nodes.length (0:Nat)),([]:List Nat),0),none) hm ⟨(fun _=>rfl),(O.sel [2,1,0] (by decide)),trivial⟩ ⟨VLe.refl _ _,VLe.refl _ _,VLe.refl _ _,VLe.refl _ _,VLe.refl _ _,VLe.refl _ _,VLe.refl _ _,trivial⟩ ?_
   clear hm;rintro⟨⟨v12,v14,v15⟩,a13⟩ nx17 base h hm ⟨ha16,O,_⟩
   ((conv=>whnf);repeat(first|apply Cs|apply Hs|apply Hx);conv=>whnf)
   refine⟨_,rfl,fun hc=>?_,fun hc=>?_⟩
   ·replace hm:=hm.1 hc
    apply Cs;conv=>whnf
    refine CodeS.joinWS hm (nn:=131) (σ:=((List Nat)×(List Nat))×Option Nat) (fun s=>s.1) (fun ((v18,v20),a19) h=>(a19=none→v20=[])∧Own vars h0 [((some g2),.cells (flatC ((List.replicate p0.nodes.length (0:Nat)).map i64)) false),((some g4),.cells (flatC (v18.map i64)) false),(a19,.cells (flatC (v20.map i64)) false)] h∧True) (fun ((v18,v20),a19)=>[(1,(FP (encCirc p0))),(5,(.slice (some ⟨g2,0,none⟩) p0.nodes.length p0.nodes.length)),(6,(.slice (some ⟨g4,0,none⟩) p0.nodes.length p0.nodes.length)),(7,(growV 1 a19 (v20.map i64))),(29,((encL 4 encNode) p0.nodes)),(30,(i64 p0.nodes.length)),(31,(i64 v15))]) rfl (fun hm'=>?_) ?_
    ·replace hm:=hm'
     apply Cs;(conv=>whnf);repeat(first|apply Cs|apply Hs|apply Hx);conv=>whnf
     obtain⟨x23,hx23,hm⟩:=hm
     refine flAtM (s:=4) (enc:=encNode) (j:=v15) rfl rfl rfl rfl hx23 ?_;(conv=>whnf);repeat(first|apply Hs|apply Hx);conv=>whnf
     refine⟨_,(rfl:aread _ _ _ _=some _),?_⟩;(conv=>whnf);repeat(first|apply Hs|apply Hx);conv=>whnf
     refine O.new (anew_alloc (l:=[(n8 0),(.slice none 0 0),(i64 0),(i64 0)]) rfl rfl rfl) fun g24 h O=>?_;(conv=>whnf);repeat(first|apply Hs|apply Hx);conv=>whnf
     refine O.store (n:=4) (cs':=[(n8 x23.kind),((encL 1 i64) x23.ins),(i64 x23.mem),(i64 x23.bit)]) (.head _) rfl rfl rfl rfl (lbE rfl) rfl rfl fun h O=>?_;(conv=>whnf);repeat(first|apply Hs|apply Hx);conv=>whnf
     refine CodeS.joinWS hm (nn:=131) (σ:=(List Nat)×Unit) (fun s=>s.1) (fun (v26,_) h=>(a13=none→v14=[])∧Own vars h0 [((some g2),.cells (flatC ((List.replicate p0.nodes.length (0:Nat)).map i64)) false),((some g4),.cells (flatC (v26.map i64)) false),(a13,.cells (flatC (v14.map i64)) false)] h∧True) (fun (v26,_)=>[(1,(FP (encCirc p0))),(5,(.slice (some ⟨g2,0,none⟩) p0.nodes.length p0.nodes.length)),(6,(.slice (some ⟨g4,0,none⟩) p0.nodes.length p0.nodes.length)),(7,(growV 1 a13 (v14.map i64))),(8,(i64 v15)),(29,((encL 4 encNode) p0.nodes)),(30,(i64 p0.nodes.length)),(31,(i64 v15))]) rfl (fun hm'=>?_) ?_
     ·replace hm:=hm'
      apply Cs;(conv=>whnf);repeat(first|apply Cs|apply Hs|apply Hx);conv=>whnf
      refine⟨_,loadK rfl (O.at (.head _)) rfl rfl,?_⟩;(conv=>whnf);repeat(first|apply Hs|apply Hx);conv=>whnf
      obtain⟨r29,hm,hcall⟩:=netlists_Comb_walk hm O.has
      refine⟨_,_,hcall,?_⟩;(conv=>whnf);repeat(first|apply Cs|apply Hs|apply Hx);conv=>whnf
      refine⟨_,rfl,fun hc=>?_,fun hc=>?_⟩
      ·replace hm:=hm.1 hc
       apply Cs;(conv=>whnf);repeat(first|apply Cs|apply Hs|apply Hx);conv=>whnf
       refine⟨_,loadK rfl (O.at (.head _)) rfl rfl,?_⟩;(conv=>whnf);repeat(first|apply Hs|apply Hx);conv=>whnf
       refine lenM (s:=1) (enc:=i64) (l:=x23.ins) rfl rfl ?_;(conv=>whnf);repeat(first|apply Hs|apply Hx);conv=>whnf
       obtain⟨hj,x30,hx30,hm⟩:=hm
       refine indexK (s:=1) (j:=v15) rfl rfl rfl rfl hj ?_;(conv=>whnf);repeat(first|apply Hs|apply Hx);conv=>whnf
       refine O.store (n:=1) (.tail _ (.tail _ (.head _))) rfl rfl rfl rfl (el_le (enc:=i64) (s:=1) (k:=0) (n:=1) (fun _=>rfl) (lt_of_get hx30) (lbE rfl)) rfl (splice_all (enc:=i64) (s:=1) (fun _=>rfl) (lt_of_get hx30) (x:=x23.ins.length) rfl) fun h O=>?_;(conv=>whnf);repeat(first|apply Hs|apply Hx);conv=>whnf
       exact⟨((v12.set v15 x23.ins.length),()),hm,⟨ha16,(O.sel [1,2,3] (by decide)),trivial⟩,VLe.refl _ _,VLe.refl _ _,VLe.refl _ _,VLe.refl _ _,VLe.refl _ _,VLe.refl _ _,VLe.refl _ _,VLe.refl _ _,trivial⟩
      ·replace hm:=hm.2 hc
       apply Cs;(conv=>whnf);repeat(first|apply Cs|apply Hs|apply Hx);conv=>whnf
       exact⟨(v12,()),hm,⟨ha16,(O.sel [1,2,3] (by decide)),trivial⟩,VLe.refl _ _,VLe.refl _ _,VLe.refl _ _,VLe.refl _ _,VLe.refl _ _,VLe.refl _ _,VLe.refl _ _,VLe.refl _ _,trivial⟩
     ·clear hm;rintro⟨v26,_⟩ base h hm ⟨ha27,O,_⟩
      ((conv=>whnf);repeat(first|apply Cs|apply Hs|apply Hx);conv=>whnf)
      obtain⟨hj,x31,hx31,hm⟩:=hm
      refine indexK (s:=1) (j:=v15) rfl rfl rfl rfl hj ?_;(conv=>whnf);repeat(first|apply Hs|apply Hx);conv=>whnf
      refine⟨_,loadK rfl (O.at (.tail _ (.head _))) rfl (cell_map (enc:=i64) (s:=1) (k:=0) (fun _=>rfl) hx31 rfl),?_⟩;(conv=>whnf);repeat(first|apply Cs|apply Hs|apply Hx);conv=>whnf
      refine⟨_,rfl,fun hc=>?_,fun hc=>?_⟩
      ·replace hm:=hm.1 hc
       apply Cs;(conv=>whnf);repeat(first|apply Cs|apply Hs|apply Hx);conv=>whnf
       refine NewG.frz rfl ?_;(conv=>whnf);repeat(first|apply Hs|apply Hx);conv=>whnf
       refine O.appendL (enc:=i64) (l:=v14) (new:=([v15]:(List Nat))) (s:=1) (b:=8) (.tail _ (.tail _ (.head _))) ha27 rfl rfl rfl rfl rfl rfl rfl rfl (YOk.fl rfl) (fun _=>rfl) (fun _=>rfl) (by decide) hm.1 fun a32 h ha33 O=>?_;(conv=>whnf);repeat(first|apply Hs|apply Hx);conv=>whnf
       replace hm:=hm.2
       exact⟨((v26,(v14++([v15]:(List Nat)))),a32),hm,⟨ha33,O,trivial⟩,VLe.refl _ _,VLe.refl _ _,VLe.refl _ _,VLe.refl _ _,VLe.refl _ _,VLe.refl _ _,VLe.refl _ _,trivial⟩
      ·replace hm:=hm.2 hc
       apply Cs;(conv=>whnf);repeat(first|apply Cs|apply Hs|apply Hx);conv=>whnf
       exact⟨((v26,v14),a13),hm,⟨ha27,O,trivial⟩,VLe.refl _ _,VLe.refl _ _,VLe.refl _ _,VLe.refl _ _,VLe.refl _ _,VLe.refl _ _,VLe.refl _ _,trivial⟩
    ·clear hm;rintro⟨⟨v18,v20⟩,a19⟩ base h hm ⟨ha21,O,_⟩
     ((conv=>whnf);repeat(first|apply Cs|apply Hs|apply Hx);conv=>whnf)
     refine⟨_,addK (a:=v15) (b:=1) rfl rfl hm.1,?_⟩;(conv=>whnf);repeat(first|apply Hs|apply Hx);conv=>whnf
     replace hm:=hm.2
     exact⟨((v18,v20,(v15+1)),a19),hm,⟨ha21,O,trivial⟩,VLe.refl _ _,VLe.refl _ _,VLe.refl _ _,VLe.refl _ _,VLe.refl _ _,VLe.refl _ _,VLe.refl _ _,trivial⟩
   ·replace hm:=hm.2 hc
    apply Cs;(conv=>whnf);repeat(first|apply Cs|apply Hs|apply Hx);conv=>whnf
    exact⟨((v12,v14),a13),hm,⟨ha16,O,trivial⟩,VLe.refl _ _,VLe.refl _ _,VLe.refl _ _,VLe.refl _ _,trivial⟩
  ·clear hm;rintro⟨⟨v7,v9⟩,a8⟩ base h hm ⟨ha10,O,_⟩
   ((conv=>whnf);repeat(first|apply Cs|apply Hs|apply Hx);conv=>whnf)
   refine⟨_,(rfl:aread _ _ _ _=some _),?_⟩;(conv=>whnf);repeat(first|apply Hs|apply Hx);conv=>whnf
   obtain⟨r34,hm,hcall⟩:=netlists_Fanout_walk hm O.has
   refine⟨_,_,hcall,?_⟩;(conv=>whnf);repeat(first|apply Hs|apply Hx);conv=>whnf
   apply Cs;conv=>whnf
   apply Cs;(conv=>whnf);repeat(first|apply Hs|apply Hx);conv=>whnf
   apply Cs;conv=>whnf
   apply Cs;conv=>whnf
   refine CodeS.joinWS hm (nn:=131) (σ:=((List Nat)×Nat)×Unit) (fun s=>s.1) (fun ((v35,v36),_) h=>Own vars h0 [((some g2),.cells (flatC (v35.map i64)) false)] h∧True) (fun ((v35,v36),_)=>[(1,(FP (encCirc p0))),(5,(.slice (some ⟨g2,0,none⟩) p0.nodes.length p0.nodes.length)),(11,(i64 v36))]) rfl (fun hm'=>?_) ?_
   ·replace hm:=hm'
    apply Cs;(conv=>whnf);repeat(first|apply Cs|apply Hs|apply Hx);conv=>whnf
    refine loopWK hM (by kernel_rfl) (nn:=131) (S:=((List Nat)×(List Nat)×(List Nat)×Nat)) (σ:=((List Nat)×(List Nat)×(List Nat)×Nat)×Option Nat) (fun s=>s.1) (fun ((v38,v39,v41,v42),a40) h=>(a40=none→v41=[])∧Own vars h0 [((some g2),.cells (flatC (v38.map i64)) false),((some g4),.cells (flatC (v39.map i64)) false),(a40,.cells (flatC (v41.map i64)) false)] h∧True) (fun ((v38,v39,v41,v42),a40)=>[(1,(FP (encCirc p0))),(5,(.slice (some ⟨g2,0,none⟩) p0.nodes.length p0.nodes.length)),(6,(.slice (some ⟨g4,0,none⟩) p0.nodes.length p0.nodes.length)),(7,(growV 1 a40 (v41.map i64))),(10,((encL 1 (encL 2 encLn)) r34)),(11,(i64 v42))]) rfl (((List.replicate p0.nodes.length (0:Nat)),v7,v9,0),a8) hm ⟨ha10,O,trivial⟩ ⟨VLe.refl _ _,VLe.refl _ _,VLe.refl _ _,VLe.refl _ _,VLe.refl _ _,VLe.refl _ _,trivial⟩ ?_
    clear hm;rintro⟨⟨v38,v39,v41,v42⟩,a40⟩ nx44 base h hm ⟨ha43,O,_⟩
    ((conv=>whnf);repeat(first|apply Cs|apply Hs|apply Hx);conv=>whnf)
    refine lenG (enc:=i64) (l:=v41) rfl rfl ?_;(conv=>whnf);repeat(first|apply Cs|apply Hs|apply Hx);conv=>whnf
    refine⟨_,rfl,fun hc=>?_,fun hc=>?_⟩
    ·replace hm:=hm.1 hc
     apply Cs;(conv=>whnf);repeat(first|apply Cs|apply Hs|apply Hx);conv=>whnf
     obtain⟨x45,hx45,hm⟩:=hm
     obtain⟨g46,rfl⟩:=addr_some ha43 hx45
     refine indexK (s:=1) (j:=v42) rfl rfl rfl rfl (by rw[List.length_map];exact lt_of_get hx45) ?_;(conv=>whnf);repeat(first|apply Hs|apply Hx);conv=>whnf
     refine⟨_,loadK rfl (O.at (.tail _ (.tail _ (.head _)))) rfl (cell_map (enc:=i64) (s:=1) (k:=0) (fun _=>rfl) hx45 rfl),?_⟩;(conv=>whnf);repeat(first|apply Cs|apply Hs|apply Hx);conv=>whnf
     refine⟨_,addK (a:=v42) (b:=1) rfl rfl hm.1,?_⟩;(conv=>whnf);repeat(first|apply Cs|apply Hs|apply Hx);conv=>whnf
     replace hm:=hm.2
     obtain⟨x47,hx47,hm⟩:=hm
     refine flAtM (s:=1) (enc:=(encL 2 encLn)) (j:=x45) rfl rfl rfl rfl hx47 ?_;(conv=>whnf);repeat(first|apply Hs|apply Hx);conv=>whnf
     refine⟨_,(rfl:aread _ _ _ _=some _),?_⟩;(conv=>whnf);repeat(first|apply Hs|apply Hx);conv=>whnf
     refine lenM (s:=2) (enc:=encLn) (l:=x47) rfl rfl ?_;(conv=>whnf);repeat(first|apply Cs|apply Hs|apply Hx);conv=>whnf
     refine⟨_,rfl,fun hc=>?_,fun hc=>?_⟩
     ·replace hm:=hm.1 hc
      apply Cs;(conv=>whnf);repeat(first|apply Cs|apply Hs|apply Hx);conv=>whnf
      exact⟨((v38,v39,v41,(v42+1)),(some g46)),hm,⟨someNone,O,trivial⟩,VLe.refl _ _,VLe.refl _ _,VLe.refl _ _,VLe.refl _ _,VLe.refl _ _,VLe.refl _ _,trivial⟩
     ·replace hm:=hm.2 hc
      apply Cs;(conv=>whnf);repeat(first|apply Cs|apply Hs|apply Hx);conv=>whnf
      obtain⟨x48,hx48,hm⟩:=hm
      refine flAtM (s:=1) (enc:=(encL 2 encLn)) (j:=x45) rfl rfl rfl rfl hx48 ?_;(conv=>whnf);repeat(first|apply Hs|apply Hx);conv=>whnf
      refine⟨_,(rfl:aread _ _ _ _=some _),?_⟩;(conv=>whnf);repeat(first|apply Hs|apply Hx);conv=>whnf
      refine lenM (s:=2) (enc:=encLn) (l:=x48) rfl rfl ?_;(conv=>whnf);repeat(first|apply Cs|apply Hs|apply Hx);conv=>whnf
      refine loopWK hM (by kernel_rfl) (nn:=131) (S:=((List Nat)×(List Nat)×(List Nat)×Nat)) (σ:=((List Nat)×(List Nat)×(List Nat)×Nat)×Option Nat) (fun s=>s.1) (fun ((v49,v50,v52,v53),a51) h=>(a51=none→v52=[])∧Own vars h0 [((some g2),.cells (flatC (v49.map i64)) false),((some g4),.cells (flatC (v50.map i64)) false),(a51,.cells (flatC (v52.map i64)) false)] h∧True) (fun ((v49,v50,v52,v53),a51)=>[(1,(FP (encCirc p0))),(5,(.slice (some ⟨g2,0,none⟩) p0.nodes.length p0.nodes.length)),(6,(.slice (some ⟨g4,0,none⟩) p0.nodes.length p0.nodes.length)),(7,(growV 1 a51 (v52.map i64))),(10,((encL 1 (encL 2 encLn)) r34)),(11,(i64 (v42+1))),(12,(i64 x45)),(76,((encL 2 encLn) x48)),(77,(i64 x48.length)),(78,(i64 v53))]) rfl ((v38,v39,v41,0),(some g46)) hm ⟨someNone,O,trivial⟩ ⟨VLe.refl _ _,VLe.refl _ _,VLe.refl _ _,VLe.refl _ _,VLe.refl _ _,VLe.refl _ _,VLe.refl _ _,VLe.refl _ _,VLe.refl _ _,VLe.refl _ _,trivial⟩ ?_
      clear hm;rintro⟨⟨v49,v50,v52,v53⟩,a51⟩ nx55 base h hm ⟨ha54,O,_⟩
      ((conv=>whnf);repeat(first|apply Cs|apply Hs|apply Hx);conv=>whnf)
      refine⟨_,rfl,fun hc=>?_,fun hc=>?_⟩
      ·replace hm:=hm.1 hc
       apply Cs;conv=>whnf
       refine CodeS.joinWS hm (nn:=131) (σ:=((List Nat)×(List Nat)×(List Nat))×Option Nat) (fun s=>s.1) (fun ((v56,v57,v59),a58) h=>(a58=none→v59=[])∧Own vars h0 [((some g2),.cells (flatC (v56.map i64)) false),((some g4),.cells (flatC (v57.map i64)) false),(a58,.cells (flatC (v59.map i64)) false)] h∧True) (fun ((v56,v57,v59),a58)=>[(1,(FP (encCirc p0))),(5,(.slice (some ⟨g2,0,none⟩) p0.nodes.length p0.nodes.length)),(6,(.slice (some ⟨g4,0,none⟩) p0.nodes.length p0.nodes.length)),(7,(growV 1 a58 (v59.map i64))),(10,((encL 1 (encL 2 encLn)) r34)),(11,(i64 (v42+1))),(12,(i64 x45)),(76,((encL 2 encLn) x48)),(77,(i64 x48.length)),(78,(i64 v53))]) rfl (fun hm'=>?_) ?_
       ·replace hm:=hm'
        apply Cs;(conv=>whnf);repeat(first|apply Cs|apply Hs|apply Hx);conv=>whnf
        obtain⟨x62,hx62,hm⟩:=hm
        refine flAtM (s:=2) (enc:=encLn) (j:=v53) rfl rfl rfl rfl hx62 ?_;(conv=>whnf);repeat(first|apply Hs|apply Hx);conv=>whnf
        refine⟨_,(rfl:aread _ _ _ _=some _),?_⟩;(conv=>whnf);repeat(first|apply Hs|apply Hx);conv=>whnf
        refine O.new (anew_alloc (l:=[(i64 0),(i64 0)]) rfl rfl rfl) fun g63 h O=>?_;(conv=>whnf);repeat(first|apply Hs|apply Hx);conv=>whnf
        refine O.store (n:=2) (cs':=[(i64 x62.node),(i64 x62.pin)]) (.head _) rfl rfl rfl rfl (lbE rfl) rfl rfl fun h O=>?_;(conv=>whnf);repeat(first|apply Cs|apply Hs|apply Hx);conv=>whnf
        refine⟨_,(rfl:aread _ _ _ _=some _),?_⟩;(conv=>whnf);repeat(first|apply Hs|apply Hx);conv=>whnf
        refine⟨_,loadK rfl (O.at (.head _)) rfl rfl,?_⟩;(conv=>whnf);repeat(first|apply Hs|apply Hx);conv=>whnf
        obtain⟨x65,hx65,hm⟩:=hm
        refine flAtM (s:=4) (enc:=encNode) (j:=x62.node) rfl rfl rfl rfl hx65 ?_;(conv=>whnf);repeat(first|apply Hs|apply Hx);conv=>whnf
        refine⟨_,(rfl:aread _ _ _ _=some _),?_⟩;(conv=>whnf);repeat(first|apply Hs|apply Hx);conv=>whnf
        obtain⟨r66,hm,hcall⟩:=netlists_Comb_walk hm O.has
        refine⟨_,_,hcall,?_⟩;(conv=>whnf);repeat(first|apply Cs|apply Hs|apply Hx);conv=>whnf
        refine⟨_,rfl,fun hc=>?_,fun hc=>?_⟩
        ·replace hm:=hm.1 hc
         apply Cs;(conv=>whnf);repeat(first|apply Cs|apply Hs|apply Hx);conv=>whnf
         exact⟨((v49,v50,v52),a51),hm,⟨ha54,(O.sel [1,2,3] (by decide)),trivial⟩,VLe.refl _ _,VLe.refl _ _,VLe.refl _ _,VLe.refl _ _,VLe.refl _ _,VLe.refl _ _,VLe.refl _ _,VLe.refl _ _,VLe.refl _ _,VLe.refl _ _,trivial⟩
        ·replace hm:=hm.2 hc
         apply Cs;(conv=>whnf);repeat(first|apply Cs|apply Hs|apply Hx);conv=>whnf
         refine⟨_,loadK rfl (O.at (.head _)) rfl rfl,?_⟩;(conv=>whnf);repeat(first|apply Hs|apply Hx);conv=>whnf
         refine⟨.inl rfl,?_⟩;(conv=>whnf);repeat(first|apply Hs|apply Hx);conv=>whnf
         refine⟨_,loadK rfl (O.at (.head _)) rfl rfl,?_⟩;(conv=>whnf);repeat(first|apply Hs|apply Hx);conv=>whnf
         refine⟨.inl rfl,?_⟩;(conv=>whnf);repeat(first|apply Hs|apply Hx);conv=>whnf
         obtain⟨hj,x67,hx67,hm⟩:=hm
         refine indexK (s:=1) (j:=x62.node) rfl rfl rfl rfl hj ?_;(conv=>whnf);repeat(first|apply Hs|apply Hx);conv=>whnf
         refine⟨_,loadK rfl (O.at (.tail _ (.head _))) rfl (cell_map (enc:=i64) (s:=1) (k:=0) (fun _=>rfl) hx67 rfl),?_⟩;(conv=>whnf);repeat(first|apply Hs|apply Hx);conv=>whnf
         refine⟨.inl rfl,?_⟩;(conv=>whnf);repeat(first|apply Hs|apply Hx);conv=>whnf
         obtain⟨hj,x68,hx68,hm⟩:=hm
         refine indexK (s:=1) (j:=x45) rfl rfl rfl rfl hj ?_;(conv=>whnf);repeat(first|apply Hs|apply Hx);conv=>whnf
         refine⟨_,loadK rfl (O.at (.tail _ (.head _))) rfl (cell_map (enc:=i64) (s:=1) (k:=0) (fun _=>rfl) hx68 rfl),?_⟩;(conv=>whnf);repeat(first|apply Hs|apply Hx);conv=>whnf
         refine⟨.inl rfl,?_⟩;(conv=>whnf);repeat(first|apply Hs|apply Hx);conv=>whnf
         refine⟨_,addK (a:=x68) (b:=1) rfl rfl hm.1,?_⟩;(conv=>whnf);repeat(first|apply Hs|apply Hx);conv=>whnf
         replace hm:=hm.2
         refine⟨_,maxK (a:=x67) (b:=(x68+1)) rfl rfl,?_⟩;(conv=>whnf);repeat(first|apply Hs|apply Hx);conv=>whnf
         obtain⟨hj,x69,hx69,hm⟩:=hm
         refine indexK (s:=1) (j:=x62.node) rfl rfl rfl rfl hj ?_;(conv=>whnf);repeat(first|apply Hs|apply Hx);conv=>whnf
         refine O.store (n:=1) (.tail _ (.head _)) rfl rfl rfl rfl (el_le (enc:=i64) (s:=1) (k:=0) (n:=1) (fun _=>rfl) (lt_of_get hx69) (lbE rfl)) rfl (splice_all (enc:=i64) (s:=1) (fun _=>rfl) (lt_of_get hx69) (x:=(max x67 (x68+1))) rfl) fun h O=>?_;(conv=>whnf);repeat(first|apply Hs|apply Hx);conv=>whnf
         refine⟨.inl rfl,?_⟩;(conv=>whnf);repeat(first|apply Hs|apply Hx);conv=>whnf
         apply Cs;(conv=>whnf);repeat(first|apply Cs|apply Hs|apply Hx);conv=>whnf
         refine⟨_,loadK rfl (O.at (.head _)) rfl rfl,?_⟩;(conv=>whnf);repeat(first|apply Hs|apply Hx);conv=>whnf
         obtain⟨hj,x70,hx70,hm⟩:=hm
         refine indexK (s:=1) (j:=x62.node) rfl rfl rfl rfl hj ?_;(conv=>whnf);repeat(first|apply Hs|apply Hx);conv=>whnf
         refine⟨_,loadK rfl (O.at (.tail _ (.tail _ (.head _)))) rfl (cell_map (enc:=i64) (s:=1) (k:=0) (fun _=>rfl) hx70 rfl),?_⟩;(conv=>whnf);repeat(first|apply Hs|apply Hx);conv=>whnf
         refine⟨_,subK (a:=x70) (b:=1) rfl rfl hm.1 hm.2.1,?_⟩;(conv=>whnf);repeat(first|apply Hs|apply Hx);conv=>whnf
         replace hm:=hm.2.2
         obtain⟨hj,x71,hx71,hm⟩:=hm
         refine indexK (s:=1) (j:=x62.node) rfl rfl rfl rfl hj ?_;(conv=>whnf);repeat(first|apply Hs|apply Hx);conv=>whnf
         refine O.store (n:=1) (.tail _ (.tail _ (.head _))) rfl rfl rfl rfl (el_le (enc:=i64) (s:=1) (k:=0) (n:=1) (fun _=>rfl) (lt_of_get hx71) (lbE rfl)) rfl (splice_all (enc:=i64) (s:=1) (fun _=>rfl) (lt_of_get hx71) (x:=(x70-1)) rfl) fun h O=>?_;(conv=>whnf);repeat(first|apply Cs|apply Hs|apply Hx);conv=>whnf
         refine⟨_,loadK rfl (O.at (.head _)) rfl rfl,?_⟩;(conv=>whnf);repeat(first|apply Hs|apply Hx);conv=>whnf
         obtain⟨hj,x72,hx72,hm⟩:=hm
         refine indexK (s:=1) (j:=x62.node) rfl rfl rfl rfl hj ?_;(conv=>whnf);repeat(first|apply Hs|apply Hx);conv=>whnf
         refine⟨_,loadK rfl (O.at (.tail _ (.tail _ (.head _)))) rfl (cell_map (enc:=i64) (s:=1) (k:=0) (fun _=>rfl) hx72 rfl),?_⟩;(conv=>whnf);repeat(first|apply Cs|apply Hs|apply Hx);conv=>whnf
         refine⟨_,rfl,fun hc=>?_,fun hc=>?_⟩
         ·replace hm:=hm.1 hc
          apply Cs;(conv=>whnf);repeat(first|apply Cs|apply Hs|apply Hx);conv=>whnf
          refine⟨_,loadK rfl (O.at (.head _)) rfl rfl,?_⟩;(conv=>whnf);repeat(first|apply Hs|apply Hx);conv=>whnf
          refine NewG.frz rfl ?_;(conv=>whnf);repeat(first|apply Hs|apply Hx);conv=>whnf
          refine O.appendL (enc:=i64) (l:=v52) (new:=([x62.node]:(List Nat))) (s:=1) (b:=8) (.tail _ (.tail _ (.tail _ (.head _)))) ha54 rfl rfl rfl rfl rfl rfl rfl rfl (YOk.fl rfl) (fun _=>rfl) (fun _=>rfl) (by decide) hm.1 fun a73 h ha74 O=>?_;(conv=>whnf);repeat(first|apply Hs|apply Hx);conv=>whnf
          replace hm:=hm.2
          exact⟨(((v49.set x62.node (max x67 (x68+1))),(v50.set x62.node (x70-1)),(v52++([x62.node]:(List Nat)))),a73),hm,⟨ha74,(O.sel [1,2,3] (by decide)),trivial⟩,VLe.refl _ _,VLe.refl _ _,VLe.refl _ _,VLe.refl _ _,VLe.refl _ _,VLe.refl _ _,VLe.refl _ _,VLe.refl _ _,VLe.refl _ _,VLe.refl _ _,trivial⟩
         ·replace hm:=hm.2 hc
          apply Cs;(conv=>whnf);repeat(first|apply Cs|apply Hs|apply Hx);conv=>whnf
          exact⟨(((v49.set x62.node (max x67 (x68+1))),(v50.set x62.node (x70-1)),v52),a51),hm,⟨ha54,(O.sel [1,2,3] (by decide)),trivial⟩,VLe.refl _ _,VLe.refl _ _,VLe.refl _ _,VLe.refl _ _,VLe.refl _ _,VLe.refl _ _,VLe.refl _ _,VLe.refl _ _,VLe.refl _ _,VLe.refl _ _,trivial⟩
       ·clear hm;rintro⟨⟨v56,v57,v59⟩,a58⟩ base h hm ⟨ha60,O,_⟩
        ((conv=>whnf);repeat(first|apply Cs|apply Hs|apply Hx);conv=>whnf)
        refine⟨_,addK (a:=v53) (b:=1) rfl rfl hm.1,?_⟩;(conv=>whnf);repeat(first|apply Hs|apply Hx);conv=>whnf
        replace hm:=hm.2
        exact⟨((v56,v57,v59,(v53+1)),a58),hm,⟨ha60,O,trivial⟩,VLe.refl _ _,VLe.refl _ _,VLe.refl _ _,VLe.refl _ _,VLe.refl _ _,VLe.refl _ _,VLe.refl _ _,VLe.refl _ _,VLe.refl _ _,VLe.refl _ _,trivial⟩
      ·replace hm:=hm.2 hc
       apply Cs;(conv=>whnf);repeat(first|apply Cs|apply Hs|apply Hx);conv=>whnf
       exact⟨((v49,v50,v52,(v42+1)),a51),hm,⟨ha54,O,trivial⟩,VLe.refl _ _,VLe.refl _ _,VLe.refl _ _,VLe.refl _ _,VLe.refl _ _,VLe.refl _ _,trivial⟩
    ·replace hm:=hm.2 hc
     apply Cs;(conv=>whnf);repeat(first|apply Cs|apply Hs|apply Hx);conv=>whnf
     exact⟨((v38,v42),()),hm,⟨(O.sel [0] (by decide)),trivial⟩,VLe.refl _ _,VLe.refl _ _,VLe.refl _ _,trivial⟩
   ·clear hm;rintro⟨⟨v35,v36⟩,_⟩ base h hm ⟨O,_⟩
    ((conv=>whnf);repeat(first|apply Cs|apply Hs|apply Hx);conv=>whnf)
    refine⟨_,(rfl:aread _ _ _ _=some _),?_⟩;(conv=>whnf);repeat(first|apply Hs|apply Hx);conv=>whnf
    refine lenM (s:=4) (enc:=encNode) (l:=p0.nodes) rfl rfl ?_;(conv=>whnf);repeat(first|apply Cs|apply Hs|apply Hx);conv=>whnf
    refine⟨_,rfl,fun hc=>?_,fun hc=>?_⟩
    ·replace hm:=hm.1 hc
     apply Cs;(conv=>whnf);repeat(first|apply Cs|apply Hs|apply Hx);conv=>whnf
     exact⟨([],6),hm,O.ext,fun h2 F=>VLe.tup (LLe.cons (VLe.nil _ _) (LLe.cons (VLe.refl _ _) (LLe.nil _)))⟩
    ·replace hm:=hm.2 hc
     apply Cs;(conv=>whnf);repeat(first|apply Cs|apply Hs|apply Hx);conv=>whnf
     obtain⟨hn75,hm⟩:=hm
     exact⟨(v35,0),hm,O.ext,fun h2 F=>VLe.tup (LLe.cons (O.flatL F (Nat.le_refl _) (.head _) (fun _=>rfl) hn75) (LLe.cons (VLe.refl _ _) (LLe.nil _)))⟩
def netlists_Check_wp (p0:Circ) (K:Nat→Prop):Prop :=
 netlists_Levels_wp p0 (fun r1=>K r1.2)
theorem netlists_Check_walk {p0:Circ}{K:Nat→Prop} (hm:netlists_Check_wp p0 K) {h0:Heap} (hB:HasB vars h0):∃ r,K r∧CallD Tryz.prog NG 65 ⟨[encCirc p0]⟩ h0 (i64 r) h0:=by
 unfold netlists_Check_wp at hm
 refine fnW hM Tryz.func65 rfl (hP _ _ rfl Tryz.func65) (lbE rfl) hB (enc:=i64) (fun r=>PureV.flat rfl) fun O=>?_;conv=>whnf
 apply Cs;(conv=>whnf);repeat(first|apply Cs|apply Hs|apply Hx);conv=>whnf
 refine NewG.frz rfl ?_;(conv=>whnf);repeat(first|apply Cs|apply Hs|apply Hx);conv=>whnf
 refine⟨_,(rfl:aread _ _ _ _=some _),?_⟩;(conv=>whnf);repeat(first|apply Hs|apply Hx);conv=>whnf
 obtain⟨r1,hm,hcall⟩:=netlists_Levels_walk hm O.has
 refine⟨_,_,hcall,?_⟩;(conv=>whnf);repeat(first|apply Cs|apply Hs|apply Hx);conv=>whnf
 exact⟨r1.2,hm,O.ext,fun h2 F=>VLe.refl _ _⟩
def cmp_isNaN_wp (p0:Nat) (K:Bool→Prop):Prop :=
 K (neN p0 p0)
theorem cmp_isNaN_walk {p0:Nat}{K:Bool→Prop} (hm:cmp_isNaN_wp p0 K) {h0:Heap} (hB:HasB vars h0):∃ r,K r∧CallD Tryz.prog NG 107 ⟨[i64 p0]⟩ h0 (Value.bool r) h0:=by
 unfold cmp_isNaN_wp at hm
 refine fnW hM Tryz.func107 rfl (hP _ _ rfl Tryz.func107) (lbE rfl) hB (enc:=Value.bool) (fun r=>PureV.flat rfl) fun O=>?_;conv=>whnf
 apply Cs;(conv=>whnf);repeat(first|apply Cs|apply Hs|apply Hx);conv=>whnf
 exact⟨(neN p0 p0),hm,O.ext,fun h2 F=>VLe.refl _ _⟩
def cmp_Compare_wp (p0:Nat) (p1:Nat) (K:Int→Prop):Prop :=
 cmp_isNaN_wp p0 (fun r1=>cmp_isNaN_wp p1 (fun r2=>(r1=true→(r2=true→K (Int.ofNat 0))∧(r2=false→K (Int.negSucc 0)))∧(r1=false→(r2=true→K (Int.ofNat 1))∧(r2=false→((ltN p0 p1)=true→K (Int.negSucc 0))∧((ltN p0 p1)=false→((ltN p1 p0)=true→K (Int.ofNat 1))∧((ltN p1 p0)=false→K (Int.ofNat 0)))))))
theorem cmp_Compare_walk {p0:Nat}{p1:Nat}{K:Int→Prop} (hm:cmp_Compare_wp p0 p1 K) {h0:Heap} (hB:HasB vars h0):∃ r,K r∧CallD Tryz.prog NG 81 ⟨[i64 p0,i64 p1]⟩ h0 (z64 r) h0:=by
 unfold cmp_Compare_wp at hm
 refine fnW hM Tryz.func81 rfl (hP _ _ rfl Tryz.func81) (lbE rfl) hB (enc:=z64) (fun r=>PureV.flat rfl) fun O=>?_;conv=>whnf
 apply Cs;(conv=>whnf);repeat(first|apply Cs|apply Hs|apply Hx);conv=>whnf
 obtain⟨r1,hm,hcall⟩:=cmp_isNaN_walk hm O.has
 refine⟨_,_,hcall,?_⟩;(conv=>whnf);repeat(first|apply Cs|apply Hs|apply Hx);conv=>whnf
 obtain⟨r2,hm,hcall⟩:=cmp_isNaN_walk hm O.has
 refine⟨_,_,hcall,?_⟩;(conv=>whnf);repeat(first|apply Cs|apply Hs|apply Hx);conv=>whnf
 refine⟨_,rfl,fun hc=>?_,fun hc=>?_⟩
 ·replace hm:=hm.1 hc
  apply Cs;(conv=>whnf);repeat(first|apply Cs|apply Hs|apply Hx);conv=>whnf
  refine⟨_,rfl,fun hc=>?_,fun hc=>?_⟩
  ·replace hm:=hm.1 hc
   apply Cs;(conv=>whnf);repeat(first|apply Cs|apply Hs|apply Hx);conv=>whnf
   exact⟨(Int.ofNat 0),hm,O.ext,fun h2 F=>VLe.refl _ _⟩
  ·replace hm:=hm.2 hc
   apply Cs;(conv=>whnf);repeat(first|apply Cs|apply Hs|apply Hx);conv=>whnf
   exact⟨(Int.negSucc 0),hm,O.ext,fun h2 F=>VLe.refl _ _⟩
 ·replace hm:=hm.2 hc
  apply Cs;(conv=>whnf);repeat(first|apply Cs|apply Hs|apply Hx);conv=>whnf
  refine⟨_,rfl,fun hc=>?_,fun hc=>?_⟩
  ·replace hm:=hm.1 hc
   apply Cs;(conv=>whnf);repeat(first|apply Cs|apply Hs|apply Hx);conv=>whnf
   exact⟨(Int.ofNat 1),hm,O.ext,fun h2 F=>VLe.refl _ _⟩
  ·replace hm:=hm.2 hc
   apply Cs;(conv=>whnf);repeat(first|apply Cs|apply Hs|apply Hx);conv=>whnf
   refine⟨_,rfl,fun hc=>?_,fun hc=>?_⟩
   ·replace hm:=hm.1 hc
    apply Cs;(conv=>whnf);repeat(first|apply Cs|apply Hs|apply Hx);conv=>whnf
    exact⟨(Int.negSucc 0),hm,O.ext,fun h2 F=>VLe.refl _ _⟩
   ·replace hm:=hm.2 hc
    apply Cs;(conv=>whnf);repeat(first|apply Cs|apply Hs|apply Hx);conv=>whnf
    refine⟨_,rfl,fun hc=>?_,fun hc=>?_⟩
    ·replace hm:=hm.1 hc
     apply Cs;(conv=>whnf);repeat(first|apply Cs|apply Hs|apply Hx);conv=>whnf
     exact⟨(Int.ofNat 1),hm,O.ext,fun h2 F=>VLe.refl _ _⟩
    ·replace hm:=hm.2 hc
     apply Cs;(conv=>whnf);repeat(first|apply Cs|apply Hs|apply Hx);conv=>whnf
     exact⟨(Int.ofNat 0),hm,O.ext,fun h2 F=>VLe.refl _ _⟩
def sort_ins_wp (data:List Nat) (lev:List Nat) (nd:Nat) (a:Nat) (b:Nat) (K:(List Nat)→Prop):Prop :=
 a+1<2 ^ 63∧loopW (S:=((List Nat)×Nat)) (fun (v1,v2) nx3=>((ltN v2 b)=true→joinW (α:=(List Nat)) (fun k5=>loopW (S:=((List Nat)×Nat)) (fun (v6,v7) nx8=>joinW (α:=Bool) (fun k10=>((ltN a v7)=true→v7<nd∧∃ x11,v6[v7]?=some x11∧1≤v7∧v7<2 ^ 63∧(v7-1)<nd∧∃ x12,v6[(v7-1)]?=some x12∧∃ x13,lev[x11]?=some x13∧∃ x14,lev[x12]?=some x14∧cmp_Compare_wp x13 x14 (fun r15=>k10 (ltI r15 (Int.ofNat 0))))∧((ltN a v7)=false→k10 false)) (fun v9=>(v9=true→1≤v7∧v7<2 ^ 63∧1≤v7∧v7<2 ^ 63∧(v7-1)<nd∧∃ x16,v6[(v7-1)]?=some x16∧v7<nd∧∃ x17,v6[v7]?=some x17∧v7<nd∧∃ x18,v6[v7]?=some x18∧(v7-1)<nd∧∃ x19,(v6.set v7 x16)[(v7-1)]?=some x19∧1≤v7∧v7<2 ^ 63∧nx8 (((v6.set v7 x16).set (v7-1) x17),(v7-1)))∧(v9=false→k5 v6))) (v1,v2)) (fun v4=>v2+1<2 ^ 63∧nx3 (v4,(v2+1))))∧((ltN v2 b)=false→K v1)) (data,(a+1))
theorem sort_ins_walk {data:List Nat}{lev:List Nat}{nd:Nat}{a:Nat}{b:Nat}{gd:Nat}{gl:Nat}{L:List Slot}{K:(List Nat)→Prop} (hm:sort_ins_wp data lev nd a b K) {h0 h:Heap}  (O:Own vars h0 (((some gd),.cells (flatC (data.map i64)) false)::((some gl),.cells [((encL 1 i64) lev)] false)::L) h):∃ v h',CallD Tryz.prog NG 132 ⟨[(.slice (some ⟨gd,0,none⟩) nd nd),(i64 a),(i64 b),(.func (.func 80) ⟨[]⟩ ⟨[(.pointer (some ⟨gl,0,none⟩))]⟩)]⟩ h v h'∧∃ (w0:(List Nat)),K w0∧v=.tuple ⟨[]⟩∧Own vars h0 (((some gd),.cells (flatC (w0.map i64)) false)::((some gl),.cells [((encL 1 i64) lev)] false)::L) h'∧True:=by
 unfold sort_ins_wp at hm
 refine fnG hM Tryz.func132 rfl (hP _ _ rfl Tryz.func132) (lbE rfl) (Q:=fun v h'=>∃ (w0:(List Nat)),K w0∧v=.tuple ⟨[]⟩∧Own vars h0 (((some gd),.cells (flatC (w0.map i64)) false)::((some gl),.cells [((encL 1 i64) lev)] false)::L) h'∧True) ?_;conv=>whnf
 apply Cs;(conv=>whnf);repeat(first|apply Cs|apply Hs|apply Hx);conv=>whnf
 refine⟨_,addK (a:=a) (b:=1) rfl rfl hm.1,?_⟩;(conv=>whnf);repeat(first|apply Cs|apply Hs|apply Hx);conv=>whnf
 replace hm:=hm.2
 refine loopWK hM (by kernel_rfl) (nn:=53) (S:=((List Nat)×Nat)) (σ:=((List Nat)×Nat)×Unit) (fun s=>s.1) (fun ((v1,v2),_) h=>Own vars h0 (((some gd),.cells (flatC (v1.map i64)) false)::((some gl),.cells [((encL 1 i64) lev)] false)::L) h∧True) (fun ((v1,v2),_)=>[(0,(.slice (some ⟨gd,0,none⟩) nd nd)),(1,(i64 a)),(2,(i64 b)),(3,(.func (.func 80) ⟨[]⟩ ⟨[(.pointer (some ⟨gl,0,none⟩))]⟩)),(8,(i64 v2))]) rfl ((data,(a+1)),()) hm ⟨O,trivial⟩ ⟨VLe.refl _ _,VLe.refl _ _,VLe.refl _ _,VLe.refl _ _,VLe.refl _ _,trivial⟩ ?_
 clear hm;rintro⟨⟨v1,v2⟩,_⟩ nx3 base h hm ⟨O,_⟩
 ((conv=>whnf);repeat(first|apply Cs|apply Hs|apply Hx);conv=>whnf)
 refine⟨_,rfl,fun hc=>?_,fun hc=>?_⟩
 ·replace hm:=hm.1 hc
  apply Cs;conv=>whnf
  refine CodeS.joinWS hm (nn:=53) (σ:=(List Nat)×Unit) (fun s=>s.1) (fun (v4,_) h=>Own vars h0 (((some gd),.cells (flatC (v4.map i64)) false)::((some gl),.cells [((encL 1 i64) lev)] false)::L) h∧True) (fun (v4,_)=>[(0,(.slice (some ⟨gd,0,none⟩) nd nd)),(1,(i64 a)),(2,(i64 b)),(3,(.func (.func 80) ⟨[]⟩ ⟨[(.pointer (some ⟨gl,0,none⟩))]⟩)),(8,(i64 v2))]) rfl (fun hm'=>?_) ?_
  ·replace hm:=hm'
   apply Cs;(conv=>whnf);repeat(first|apply Cs|apply Hs|apply Hx);conv=>whnf
   refine loopWK hM (by kernel_rfl) (nn:=53) (S:=((List Nat)×Nat)) (σ:=((List Nat)×Nat)×Unit) (fun s=>s.1) (fun ((v6,v7),_) h=>Own vars h0 (((some gd),.cells (flatC (v6.map i64)) false)::((some gl),.cells [((encL 1 i64) lev)] false)::L) h∧True) (fun ((v6,v7),_)=>[(0,(.slice (some ⟨gd,0,none⟩) nd nd)),(1,(i64 a)),(2,(i64 b)),(3,(.func (.func 80) ⟨[]⟩ ⟨[(.pointer (some ⟨gl,0,none⟩))]⟩)),(8,(i64 v2)),(9,(i64 v7))]) rfl ((v1,v2),()) hm ⟨O,trivial⟩ ⟨VLe.refl _ _,VLe.refl _ _,VLe.refl _ _,VLe.refl _ _,VLe.refl _ _,VLe.refl _ _,trivial⟩ ?_
   clear hm;rintro⟨⟨v6,v7⟩,_⟩ nx8 base h hm ⟨O,_⟩
   conv=>whnf
   apply Cs;conv=>whnf
   refine CodeS.joinWS hm (nn:=53) (σ:=Bool×Unit) (fun s=>s.1) (fun (v9,_) h=>Own vars h0 (((some gd),.cells (flatC (v6.map i64)) false)::((some gl),.cells [((encL 1 i64) lev)] false)::L) h∧True) (fun (v9,_)=>[(0,(.slice (some ⟨gd,0,none⟩) nd nd)),(1,(i64 a)),(2,(i64 b)),(3,(.func (.func 80) ⟨[]⟩ ⟨[(.pointer (some ⟨gl,0,none⟩))]⟩)),(8,(i64 v2)),(9,(i64 v7)),(34,(.bool v9))]) rfl (fun hm'=>?_) ?_
   ·replace hm:=hm'
    apply Cs;(conv=>whnf);repeat(first|apply Cs|apply Hs|apply Hx);conv=>whnf
    refine⟨_,rfl,fun hc=>?_,fun hc=>?_⟩
    ·replace hm:=hm.1 hc;(conv=>whnf);repeat(first|apply Hs|apply Hx);conv=>whnf
     obtain⟨hj,x11,hx11,hm⟩:=hm
     refine indexK (s:=1) (j:=v7) rfl rfl rfl rfl hj ?_;(conv=>whnf);repeat(first|apply Hs|apply Hx);conv=>whnf
     refine⟨_,loadK rfl (O.at (.head _)) rfl (cell_map (enc:=i64) (s:=1) (k:=0) (fun _=>rfl) hx11 rfl),?_⟩;(conv=>whnf);repeat(first|apply Hs|apply Hx);conv=>whnf
     refine⟨.inl rfl,?_⟩;(conv=>whnf);repeat(first|apply Hs|apply Hx);conv=>whnf
     refine⟨_,subK (a:=v7) (b:=1) rfl rfl hm.1 hm.2.1,?_⟩;(conv=>whnf);repeat(first|apply Hs|apply Hx);conv=>whnf
     replace hm:=hm.2.2
     obtain⟨hj,x12,hx12,hm⟩:=hm
     refine indexK (s:=1) (j:=(v7-1)) rfl rfl rfl rfl hj ?_;(conv=>whnf);repeat(first|apply Hs|apply Hx);conv=>whnf
     refine⟨_,loadK rfl (O.at (.head _)) rfl (cell_map (enc:=i64) (s:=1) (k:=0) (fun _=>rfl) hx12 rfl),?_⟩;(conv=>whnf);repeat(first|apply Hs|apply Hx);conv=>whnf
     refine⟨.inl rfl,?_⟩;(conv=>whnf);repeat(first|apply Hs|apply Hx);conv=>whnf
     refine fnG hM Tryz.func80 rfl (hP _ _ rfl Tryz.func80) (lbE rfl) ?_;(conv=>whnf);repeat(first|apply Cs|apply Hs|apply Hx);conv=>whnf
     refine⟨_,loadK rfl (O.at (.tail _ (.head _))) rfl rfl,?_⟩;(conv=>whnf);repeat(first|apply Hs|apply Hx);conv=>whnf
     first|refine⟨.inr (.inr (loadK rfl (O.at (.tail _ (.head _))) rfl rfl)),?_⟩|refine⟨.inr (.inl (by kernel_rfl)),?_⟩
     ((conv=>whnf);repeat(first|apply Cs|apply Hs|apply Hx);conv=>whnf)
     obtain⟨x13,hx13,hm⟩:=hm
     refine flAtM (s:=1) (enc:=i64) (j:=x11) rfl rfl rfl rfl hx13 ?_;(conv=>whnf);repeat(first|apply Hs|apply Hx);conv=>whnf
     refine⟨_,(rfl:aread _ _ _ _=some _),?_⟩;(conv=>whnf);repeat(first|apply Hs|apply Hx);conv=>whnf
     refine⟨.inl rfl,?_⟩;(conv=>whnf);repeat(first|apply Hs|apply Hx);conv=>whnf
     refine⟨_,loadK rfl (O.at (.tail _ (.head _))) rfl rfl,?_⟩;(conv=>whnf);repeat(first|apply Hs|apply Hx);conv=>whnf
     first|refine⟨.inr (.inr (loadK rfl (O.at (.tail _ (.head _))) rfl rfl)),?_⟩|refine⟨.inr (.inl (by kernel_rfl)),?_⟩
     ((conv=>whnf);repeat(first|apply Cs|apply Hs|apply Hx);conv=>whnf)
     obtain⟨x14,hx14,hm⟩:=hm
     refine flAtM (s:=1) (enc:=i64) (j:=x12) rfl rfl rfl rfl hx14 ?_;(conv=>whnf);repeat(first|apply Hs|apply Hx);conv=>whnf
     refine⟨_,(rfl:aread _ _ _ _=some _),?_⟩;(conv=>whnf);repeat(first|apply Hs|apply Hx);conv=>whnf
     refine⟨.inl rfl,?_⟩;(conv=>whnf);repeat(first|apply Hs|apply Hx);conv=>whnf
     obtain⟨r15,hm,hcall⟩:=cmp_Compare_walk hm O.has
     refine⟨_,_,hcall,?_⟩;(conv=>whnf);repeat(first|apply Hs|apply Hx);conv=>whnf
     refine⟨.inl (Ext.refl _),?_⟩;(conv=>whnf);repeat(first|apply Hs|apply Hx);conv=>whnf
     apply Cs;(conv=>whnf);repeat(first|apply Cs|apply Hs|apply Hx);conv=>whnf
     refine⟨.inl (Ext.refl _),?_⟩;(conv=>whnf);repeat(first|apply Hs|apply Hx);conv=>whnf
     exact⟨((ltI r15 (Int.ofNat 0)),()),hm,⟨O,trivial⟩,VLe.refl _ _,VLe.refl _ _,VLe.refl _ _,VLe.refl _ _,VLe.refl _ _,VLe.refl _ _,VLe.refl _ _,trivial⟩
    ·replace hm:=hm.2 hc;(conv=>whnf);repeat(first|apply Hs|apply Hx);conv=>whnf
     exact⟨(false,()),hm,⟨O,trivial⟩,VLe.refl _ _,VLe.refl _ _,VLe.refl _ _,VLe.refl _ _,VLe.refl _ _,VLe.refl _ _,VLe.refl _ _,trivial⟩
   ·clear hm;rintro⟨v9,_⟩ base h hm ⟨O,_⟩
    ((conv=>whnf);repeat(first|apply Cs|apply Hs|apply Hx);conv=>whnf)
    refine⟨_,rfl,fun hc=>?_,fun hc=>?_⟩
    ·replace hm:=hm.1 hc
     apply Cs;(conv=>whnf);repeat(first|apply Cs|apply Hs|apply Hx);conv=>whnf
     refine⟨_,subK (a:=v7) (b:=1) rfl rfl hm.1 hm.2.1,?_⟩;(conv=>whnf);repeat(first|apply Hs|apply Hx);conv=>whnf
     replace hm:=hm.2.2
     refine⟨_,subK (a:=v7) (b:=1) rfl rfl hm.1 hm.2.1,?_⟩;(conv=>whnf);repeat(first|apply Hs|apply Hx);conv=>whnf
     replace hm:=hm.2.2
     obtain⟨hj,x16,hx16,hm⟩:=hm
     refine indexK (s:=1) (j:=(v7-1)) rfl rfl rfl rfl hj ?_;(conv=>whnf);repeat(first|apply Hs|apply Hx);conv=>whnf
     refine⟨_,loadK rfl (O.at (.head _)) rfl (cell_map (enc:=i64) (s:=1) (k:=0) (fun _=>rfl) hx16 rfl),?_⟩;(conv=>whnf);repeat(first|apply Hs|apply Hx);conv=>whnf
     refine⟨.inl rfl,?_⟩;(conv=>whnf);repeat(first|apply Hs|apply Hx);conv=>whnf
     obtain⟨hj,x17,hx17,hm⟩:=hm
     refine indexK (s:=1) (j:=v7) rfl rfl rfl rfl hj ?_;(conv=>whnf);repeat(first|apply Hs|apply Hx);conv=>whnf
     refine⟨_,loadK rfl (O.at (.head _)) rfl (cell_map (enc:=i64) (s:=1) (k:=0) (fun _=>rfl) hx17 rfl),?_⟩;(conv=>whnf);repeat(first|apply Hs|apply Hx);conv=>whnf
     refine⟨.inl rfl,?_⟩;(conv=>whnf);repeat(first|apply Hs|apply Hx);conv=>whnf
     obtain⟨hj,x18,hx18,hm⟩:=hm
     refine indexK (s:=1) (j:=v7) rfl rfl rfl rfl hj ?_;(conv=>whnf);repeat(first|apply Hs|apply Hx);conv=>whnf
     refine O.store (n:=1) (.head _) rfl rfl rfl rfl (el_le (enc:=i64) (s:=1) (k:=0) (n:=1) (fun _=>rfl) (lt_of_get hx18) (lbE rfl)) rfl (splice_all (enc:=i64) (s:=1) (fun _=>rfl) (lt_of_get hx18) (x:=x16) rfl) fun h O=>?_;(conv=>whnf);repeat(first|apply Hs|apply Hx);conv=>whnf
     refine⟨.inl rfl,?_⟩;(conv=>whnf);repeat(first|apply Hs|apply Hx);conv=>whnf
     obtain⟨hj,x19,hx19,hm⟩:=hm
     refine indexK (s:=1) (j:=(v7-1)) rfl rfl rfl rfl hj ?_;(conv=>whnf);repeat(first|apply Hs|apply Hx);conv=>whnf
     refine O.store (n:=1) (.head _) rfl rfl rfl rfl (el_le (enc:=i64) (s:=1) (k:=0) (n:=1) (fun _=>rfl) (lt_of_get hx19) (lbE rfl)) rfl (splice_all (enc:=i64) (s:=1) (fun _=>rfl) (lt_of_get hx19) (x:=x17) rfl) fun h O=>?_;(conv=>whnf);repeat(first|apply Hs|apply Hx);conv=>whnf
     refine⟨.inl rfl,?_⟩;(conv=>whnf);repeat(first|apply Hs|apply Hx);conv=>whnf
     apply Cs;(conv=>whnf);repeat(first|apply Cs|apply Hs|apply Hx);conv=>whnf
     refine⟨_,subK (a:=v7) (b:=1) rfl rfl hm.1 hm.2.1,?_⟩;(conv=>whnf);repeat(first|apply Hs|apply Hx);conv=>whnf
     replace hm:=hm.2.2
     exact⟨((((v6.set v7 x16).set (v7-1) x17),(v7-1)),()),hm,⟨O,trivial⟩,VLe.refl _ _,VLe.refl _ _,VLe.refl _ _,VLe.refl _ _,VLe.refl _ _,VLe.refl _ _,trivial⟩
    ·replace hm:=hm.2 hc
     apply Cs;(conv=>whnf);repeat(first|apply Cs|apply Hs|apply Hx);conv=>whnf
     exact⟨(v6,()),hm,⟨O,trivial⟩,VLe.refl _ _,VLe.refl _ _,VLe.refl _ _,VLe.refl _ _,VLe.refl _ _,trivial⟩
  ·clear hm;rintro⟨v4,_⟩ base h hm ⟨O,_⟩
   ((conv=>whnf);repeat(first|apply Cs|apply Hs|apply Hx);conv=>whnf)
   refine⟨_,addK (a:=v2) (b:=1) rfl rfl hm.1,?_⟩;(conv=>whnf);repeat(first|apply Hs|apply Hx);conv=>whnf
   replace hm:=hm.2
   exact⟨((v4,(v2+1)),()),hm,⟨O,trivial⟩,VLe.refl _ _,VLe.refl _ _,VLe.refl _ _,VLe.refl _ _,VLe.refl _ _,trivial⟩
 ·replace hm:=hm.2 hc
  apply Cs;(conv=>whnf);repeat(first|apply Cs|apply Hs|apply Hx);conv=>whnf
  exact⟨v1,hm,rfl,O,trivial⟩
def sort_stable_wp (data:List Nat) (lev:List Nat) (nd:Nat) (n:Nat) (K:(List Nat)→Prop):Prop :=
 joinW (α:=((List Nat)×Nat)) (fun k3=>loopW (S:=((List Nat)×Nat×Nat)) (fun (v4,v5,v6) nx7=>((!ltN n v6)=true→sort_ins_wp v4 lev nd v5 v6 (fun x8=>v6+20<2 ^ 63∧nx7 (x8,v6,(v6+20))))∧((!ltN n v6)=false→k3 (v4,v5))) (data,0,20)) (fun (v1,v2)=>sort_ins_wp v1 lev nd v2 n (fun x9=>loopW (S:=Nat) (fun v10 nx11=>((ltN v10 n)=true→2*v10<2 ^ 63∧joinW (α:=Unit) (fun k12=>loopW (S:=Unit) (fun _ nx13=>((!ltN n (2*v10))=true→0+v10<2 ^ 63∧False)∧((!ltN n (2*v10))=false→k12 ())) ()) (fun _=>joinW (α:=Unit) (fun k14=>0+v10<2 ^ 63∧((ltN (0+v10) n)=true→False)∧((ltN (0+v10) n)=false→k14 ())) (fun _=>v10*2<2 ^ 63∧nx11 (v10*2))))∧((ltN v10 n)=false→K x9)) 20))
theorem sort_stable_walk {data:List Nat}{lev:List Nat}{nd:Nat}{n:Nat}{gd:Nat}{gl:Nat}{L:List Slot}{K:(List Nat)→Prop} (hm:sort_stable_wp data lev nd n K) {h0 h:Heap}  (O:Own vars h0 (((some gd),.cells (flatC (data.map i64)) false)::((some gl),.cells [((encL 1 i64) lev)] false)::L) h):∃ v h',CallD Tryz.prog NG 106 ⟨[(.slice (some ⟨gd,0,none⟩) nd nd),(i64 n),(.func (.func 80) ⟨[]⟩ ⟨[(.pointer (some ⟨gl,0,none⟩))]⟩)]⟩ h v h'∧∃ (w0:(List Nat)),K w0∧v=.tuple ⟨[]⟩∧Own vars h0 (((some gd),.cells (flatC (w0.map i64)) false)::((some gl),.cells [((encL 1 i64) lev)] false)::L) h'∧True:=by
 unfold sort_stable_wp at hm
 refine fnG hM Tryz.func106 rfl (hP _ _ rfl Tryz.func106) (lbE rfl) (Q:=fun v h'=>∃ (w0:(List Nat)),K w0∧v=.tuple ⟨[]⟩∧Own vars h0 (((some gd),.cells (flatC (w0.map i64)) false)::((some gl),.cells [((encL 1 i64) lev)] false)::L) h'∧True) ?_;conv=>whnf
 apply Cs;conv=>whnf
 apply Cs;(conv=>whnf);repeat(first|apply Hs|apply Hx);conv=>whnf
 apply Cs;conv=>whnf
 apply Cs;(conv=>whnf);repeat(first|apply Hs|apply Hx);conv=>whnf
 refine CodeS.joinWS hm (nn:=63) (σ:=((List Nat)×Nat)×Unit) (fun s=>s.1) (fun ((v1,v2),_) h=>Own vars h0 (((some gd),.cells (flatC (v1.map i64)) false)::((some gl),.cells [((encL 1 i64) lev)] false)::L) h∧True) (fun ((v1,v2),_)=>[(0,(.slice (some ⟨gd,0,none⟩) nd nd)),(1,(i64 n)),(2,(.func (.func 80) ⟨[]⟩ ⟨[(.pointer (some ⟨gl,0,none⟩))]⟩)),(6,(i64 20)),(7,(i64 v2))]) rfl (fun hm'=>?_) ?_
 ·replace hm:=hm'
  apply Cs;(conv=>whnf);repeat(first|apply Cs|apply Hs|apply Hx);conv=>whnf
  refine loopWK hM (by kernel_rfl) (nn:=63) (S:=((List Nat)×Nat×Nat)) (σ:=((List Nat)×Nat×Nat)×Unit) (fun s=>s.1) (fun ((v4,v5,v6),_) h=>Own vars h0 (((some gd),.cells (flatC (v4.map i64)) false)::((some gl),.cells [((encL 1 i64) lev)] false)::L) h∧True) (fun ((v4,v5,v6),_)=>[(0,(.slice (some ⟨gd,0,none⟩) nd nd)),(1,(i64 n)),(2,(.func (.func 80) ⟨[]⟩ ⟨[(.pointer (some ⟨gl,0,none⟩))]⟩)),(6,(i64 20)),(7,(i64 v5)),(8,(i64 v6))]) rfl ((data,0,20),()) hm ⟨O,trivial⟩ ⟨VLe.refl _ _,VLe.refl _ _,VLe.refl _ _,VLe.refl _ _,VLe.refl _ _,VLe.refl _ _,trivial⟩ ?_
  clear hm;rintro⟨⟨v4,v5,v6⟩,_⟩ nx7 base h hm ⟨O,_⟩
  ((conv=>whnf);repeat(first|apply Cs|apply Hs|apply Hx);conv=>whnf)
  refine⟨_,rfl,fun hc=>?_,fun hc=>?_⟩
  ·replace hm:=hm.1 hc
   apply Cs;(conv=>whnf);repeat(first|apply Cs|apply Hs|apply Hx);conv=>whnf
   obtain⟨_,h,hcall,x8,hm,rfl,O,_⟩:=sort_ins_walk hm  O
   refine⟨_,_,hcall,?_⟩;(conv=>whnf);repeat(first|apply Cs|apply Hs|apply Hx);conv=>whnf
   refine⟨_,addK (a:=v6) (b:=20) rfl rfl hm.1,?_⟩;(conv=>whnf);repeat(first|apply Hs|apply Hx);conv=>whnf
   replace hm:=hm.2
   exact⟨((x8,v6,(v6+20)),()),hm,⟨O,trivial⟩,VLe.refl _ _,VLe.refl _ _,VLe.refl _ _,VLe.refl _ _,VLe.refl _ _,VLe.refl _ _,trivial⟩
  ·replace hm:=hm.2 hc
   apply Cs;(conv=>whnf);repeat(first|apply Cs|apply Hs|apply Hx);conv=>whnf
   exact⟨((v4,v5),()),hm,⟨O,trivial⟩,VLe.refl _ _,VLe.refl _ _,VLe.refl _ _,VLe.refl _ _,VLe.refl _ _,trivial⟩
 ·clear hm;rintro⟨⟨v1,v2⟩,_⟩ base h hm ⟨O,_⟩
  ((conv=>whnf);repeat(first|apply Cs|apply Hs|apply Hx);conv=>whnf)
  obtain⟨_,h,hcall,x9,hm,rfl,O,_⟩:=sort_ins_walk hm  O
  refine⟨_,_,hcall,?_⟩;(conv=>whnf);repeat(first|apply Cs|apply Hs|apply Hx);conv=>whnf
  refine loopWK hM (by kernel_rfl) (nn:=63) (S:=Nat) (σ:=Nat×Unit) (fun s=>s.1) (fun (v10,_) h=>Own vars h0 (((some gd),.cells (flatC (x9.map i64)) false)::((some gl),.cells [((encL 1 i64) lev)] false)::L) h∧True) (fun (v10,_)=>[(0,(.slice (some ⟨gd,0,none⟩) nd nd)),(1,(i64 n)),(2,(.func (.func 80) ⟨[]⟩ ⟨[(.pointer (some ⟨gl,0,none⟩))]⟩)),(6,(i64 v10))]) rfl (20,()) hm ⟨O,trivial⟩ ⟨VLe.refl _ _,VLe.refl _ _,VLe.refl _ _,VLe.refl _ _,trivial⟩ ?_
  clear hm;rintro⟨v10,_⟩ nx11 base h hm ⟨O,_⟩
  ((conv=>whnf);repeat(first|apply Cs|apply Hs|apply Hx);conv=>whnf)
  refine⟨_,rfl,fun hc=>?_,fun hc=>?_⟩
  ·replace hm:=hm.1 hc
   apply Cs;(conv=>whnf);repeat(first|apply Cs|apply Hs|apply Hx);conv=>whnf
   refine⟨_,mulK (a:=2) (b:=v10) rfl rfl hm.1,?_⟩;(conv=>whnf);repeat(first|apply Hs|apply Hx);conv=>whnf
   replace hm:=hm.2
   refine CodeS.joinWS hm (nn:=63) (σ:=Unit×Unit) (fun s=>s.1) (fun (_,_) h=>Own vars h0 (((some gd),.cells (flatC (x9.map i64)) false)::((some gl),.cells [((encL 1 i64) lev)] false)::L) h∧True) (fun (_,_)=>[(0,(.slice (some ⟨gd,0,none⟩) nd nd)),(1,(i64 n)),(2,(.func (.func 80) ⟨[]⟩ ⟨[(.pointer (some ⟨gl,0,none⟩))]⟩)),(6,(i64 v10)),(7,(i64 0))]) rfl (fun hm'=>?_) ?_
   ·replace hm:=hm'
    apply Cs;(conv=>whnf);repeat(first|apply Cs|apply Hs|apply Hx);conv=>whnf
    refine loopWK hM (by kernel_rfl) (nn:=63) (S:=Unit) (σ:=Unit×Unit) (fun s=>s.1) (fun (_,_) h=>Own vars h0 (((some gd),.cells (flatC (x9.map i64)) false)::((some gl),.cells [((encL 1 i64) lev)] false)::L) h∧True) (fun (_,_)=>[(0,(.slice (some ⟨gd,0,none⟩) nd nd)),(1,(i64 n)),(2,(.func (.func 80) ⟨[]⟩ ⟨[(.pointer (some ⟨gl,0,none⟩))]⟩)),(6,(i64 v10)),(7,(i64 0)),(8,(i64 (2*v10)))]) rfl ((),()) hm ⟨O,trivial⟩ ⟨VLe.refl _ _,VLe.refl _ _,VLe.refl _ _,VLe.refl _ _,VLe.refl _ _,VLe.refl _ _,trivial⟩ ?_
    clear hm;rintro⟨_,_⟩ nx13 base h hm ⟨O,_⟩
    ((conv=>whnf);repeat(first|apply Cs|apply Hs|apply Hx);conv=>whnf)
    refine⟨_,rfl,fun hc=>?_,fun hc=>?_⟩
    ·replace hm:=hm.1 hc
     apply Cs;(conv=>whnf);repeat(first|apply Cs|apply Hs|apply Hx);conv=>whnf
     refine⟨_,addK (a:=0) (b:=v10) rfl rfl hm.1,?_⟩;(conv=>whnf);repeat(first|apply Hs|apply Hx);conv=>whnf
     replace hm:=hm.2
     exact False.elim hm
    ·replace hm:=hm.2 hc
     apply Cs;(conv=>whnf);repeat(first|apply Cs|apply Hs|apply Hx);conv=>whnf
     exact⟨((),()),hm,⟨O,trivial⟩,VLe.refl _ _,VLe.refl _ _,VLe.refl _ _,VLe.refl _ _,VLe.refl _ _,trivial⟩
   ·clear hm;rintro⟨_,_⟩ base h hm ⟨O,_⟩
    conv=>whnf
    refine CodeS.joinWS hm (nn:=63) (σ:=Unit×Unit) (fun s=>s.1) (fun (_,_) h=>Own vars h0 (((some gd),.cells (flatC (x9.map i64)) false)::((some gl),.cells [((encL 1 i64) lev)] false)::L) h∧True) (fun (_,_)=>[(0,(.slice (some ⟨gd,0,none⟩) nd nd)),(1,(i64 n)),(2,(.func (.func 80) ⟨[]⟩ ⟨[(.pointer (some ⟨gl,0,none⟩))]⟩)),(6,(i64 v10))]) rfl (fun hm'=>?_) ?_
    ·replace hm:=hm'
     apply Cs;(conv=>whnf);repeat(first|apply Cs|apply Hs|apply Hx);conv=>whnf
     refine⟨_,addK (a:=0) (b:=v10) rfl rfl hm.1,?_⟩;(conv=>whnf);repeat(first|apply Cs|apply Hs|apply Hx);conv=>whnf
     replace hm:=hm.2
     refine⟨_,rfl,fun hc=>?_,fun hc=>?_⟩
     ·replace hm:=hm.1 hc
      apply Cs;(conv=>whnf);repeat(first|apply Cs|apply Hs|apply Hx);conv=>whnf
      exact False.elim hm
     ·replace hm:=hm.2 hc
      apply Cs;(conv=>whnf);repeat(first|apply Cs|apply Hs|apply Hx);conv=>whnf
      exact⟨((),()),hm,⟨O,trivial⟩,VLe.refl _ _,VLe.refl _ _,VLe.refl _ _,VLe.refl _ _,trivial⟩
    ·clear hm;rintro⟨_,_⟩ base h hm ⟨O,_⟩
     ((conv=>whnf);repeat(first|apply Cs|apply Hs|apply Hx);conv=>whnf)
     refine⟨_,mulK (a:=v10) (b:=2) rfl rfl hm.1,?_⟩;(conv=>whnf);repeat(first|apply Hs|apply Hx);conv=>whnf
     replace hm:=hm.2
     exact⟨((v10*2),()),hm,⟨O,trivial⟩,VLe.refl _ _,VLe.refl _ _,VLe.refl _ _,VLe.refl _ _,trivial⟩
  ·replace hm:=hm.2 hc
   apply Cs;(conv=>whnf);repeat(first|apply Cs|apply Hs|apply Hx);conv=>whnf
   exact⟨x9,hm,rfl,O,trivial⟩
def sort_all_wp (data:List Nat) (lev:List Nat) (nd:Nat) (K:(List Nat)→Prop):Prop :=
 sort_stable_wp data lev nd nd (fun x1=>K x1)
theorem sort_all_walk {data:List Nat}{lev:List Nat}{nd:Nat}{gd:Nat}{gl:Nat}{L:List Slot}{K:(List Nat)→Prop} (hm:sort_all_wp data lev nd K) {h0 h:Heap}  (O:Own vars h0 (((some gd),.cells (flatC (data.map i64)) false)::((some gl),.cells [((encL 1 i64) lev)] false)::L) h):∃ v h',CallD Tryz.prog NG 79 ⟨[(.slice (some ⟨gd,0,none⟩) nd nd),(.func (.func 80) ⟨[]⟩ ⟨[(.pointer (some ⟨gl,0,none⟩))]⟩)]⟩ h v h'∧∃ (w0:(List Nat)),K w0∧v=.tuple ⟨[]⟩∧Own vars h0 (((some gd),.cells (flatC (w0.map i64)) false)::((some gl),.cells [((encL 1 i64) lev)] false)::L) h'∧True:=by
 unfold sort_all_wp at hm
 refine fnG hM Tryz.func79 rfl (hP _ _ rfl Tryz.func79) (lbE rfl) (Q:=fun v h'=>∃ (w0:(List Nat)),K w0∧v=.tuple ⟨[]⟩∧Own vars h0 (((some gd),.cells (flatC (w0.map i64)) false)::((some gl),.cells [((encL 1 i64) lev)] false)::L) h'∧True) ?_;conv=>whnf
 apply Cs;(conv=>whnf);repeat(first|apply Cs|apply Hs|apply Hx);conv=>whnf
 refine lenS (n:=nd) rfl rfl ?_;(conv=>whnf);repeat(first|apply Hs|apply Hx);conv=>whnf
 obtain⟨_,h,hcall,x1,hm,rfl,O,_⟩:=sort_stable_walk hm  O
 refine⟨_,_,hcall,?_⟩;(conv=>whnf);repeat(first|apply Hs|apply Hx);conv=>whnf
 exact⟨x1,hm,rfl,O,trivial⟩
def netlists_Order_wp (p0:Circ) (K:((List Nat)×Nat)→Prop):Prop :=
 netlists_Levels_wp p0 (fun r1=>((neN r1.2 0)=true→K ([],r1.2))∧((neN r1.2 0)=false→8*p0.nodes.length≤2 ^ 48∧p0.nodes.length<2 ^ 63∧joinW (α:=(List Nat)) (fun k7=>loopW (S:=((List Nat)×Nat)) (fun (v8,v9) nx10=>((ltN v9 p0.nodes.length)=true→v9<p0.nodes.length∧∃ x11,v8[v9]?=some x11∧v9+1<2 ^ 63∧nx10 ((v8.set v9 v9),(v9+1)))∧((ltN v9 p0.nodes.length)=false→k7 v8)) ((List.replicate p0.nodes.length (0:Nat)),0)) (fun v6=>sort_all_wp v6 r1.1 p0.nodes.length (fun x12=>p0.nodes.length=x12.length∧K (x12,0)))))
theorem netlists_Order_walk {p0:Circ}{K:((List Nat)×Nat)→Prop} (hm:netlists_Order_wp p0 K) {h0:Heap} (hB:HasB vars h0):∃ r,K r∧CallD Tryz.prog NG 48 ⟨[encCirc p0]⟩ h0 ((fun (r:((List Nat)×Nat))=>Value.tuple ⟨[(encL 1 i64) (r.1),i64 (r.2)]⟩) r) h0:=by
 unfold netlists_Order_wp at hm
 refine fnW hM Tryz.func48 rfl (hP _ _ rfl Tryz.func48) (lbE rfl) hB (enc:=(fun (r:((List Nat)×Nat))=>Value.tuple ⟨[(encL 1 i64) (r.1),i64 (r.2)]⟩)) (fun r=>PureV.tup (AllPure.cons (pureL (fun _=>AllPure.cons (PureV.flat rfl) AllPure.nil)) (AllPure.cons (PureV.flat rfl) (AllPure.nil)))) fun O=>?_;conv=>whnf
 apply Cs;(conv=>whnf);repeat(first|apply Cs|apply Hs|apply Hx);conv=>whnf
 refine NewG.frz rfl ?_;(conv=>whnf);repeat(first|apply Cs|apply Hs|apply Hx);conv=>whnf
 refine⟨_,(rfl:aread _ _ _ _=some _),?_⟩;(conv=>whnf);repeat(first|apply Hs|apply Hx);conv=>whnf
 obtain⟨r1,hm,hcall⟩:=netlists_Levels_walk hm O.has
 refine⟨_,_,hcall,?_⟩;(conv=>whnf);repeat(first|apply Hs|apply Hx);conv=>whnf
 refine O.new (anew_alloc (l:=[(.slice none 0 0)]) rfl rfl rfl) fun g2 h O=>?_;(conv=>whnf);repeat(first|apply Hs|apply Hx);conv=>whnf
 refine O.store (n:=1) (cs':=[((encL 1 i64) r1.1)]) (.head _) rfl rfl rfl rfl (lbE rfl) rfl rfl fun h O=>?_;(conv=>whnf);repeat(first|apply Cs|apply Hs|apply Hx);conv=>whnf
 refine⟨_,rfl,fun hc=>?_,fun hc=>?_⟩
 ·replace hm:=hm.1 hc
  apply Cs;(conv=>whnf);repeat(first|apply Cs|apply Hs|apply Hx);conv=>whnf
  exact⟨([],r1.2),hm,O.ext,fun h2 F=>VLe.tup (LLe.cons (VLe.nil _ _) (LLe.cons (VLe.refl _ _) (LLe.nil _)))⟩
 ·replace hm:=hm.2 hc
  apply Cs;(conv=>whnf);repeat(first|apply Cs|apply Hs|apply Hx);conv=>whnf
  refine⟨_,(rfl:aread _ _ _ _=some _),?_⟩;(conv=>whnf);repeat(first|apply Hs|apply Hx);conv=>whnf
  refine lenM (s:=4) (enc:=encNode) (l:=p0.nodes) rfl rfl ?_;(conv=>whnf);repeat(first|apply Hs|apply Hx);conv=>whnf
  refine O.makeL (enc:=i64) (z:=0) (b:=8) (s:=1) (n:=p0.nodes.length) rfl rfl rfl rfl rfl (by decide) (by kernel_rfl) rfl rfl hm.1 hm.2.1 fun g4 h O=>?_;(conv=>whnf);repeat(first|apply Hs|apply Hx);conv=>whnf
  replace hm:=hm.2.2
  refine CodeS.joinWS hm (nn:=34) (σ:=(List Nat)×Unit) (fun s=>s.1) (fun (v6,_) h=>Own vars h0 [((some g2),.cells [((encL 1 i64) r1.1)] false),((some g4),.cells (flatC (v6.map i64)) false)] h∧True) (fun (v6,_)=>[(4,(.pointer (some ⟨g2,0,none⟩))),(6,(.slice (some ⟨g4,0,none⟩) p0.nodes.length p0.nodes.length))]) rfl (fun hm'=>?_) ?_
  ·replace hm:=hm'
   apply Cs;(conv=>whnf);repeat(first|apply Cs|apply Hs|apply Hx);conv=>whnf
   refine lenS (n:=p0.nodes.length) rfl rfl ?_;(conv=>whnf);repeat(first|apply Cs|apply Hs|apply Hx);conv=>whnf
   refine loopWK hM (by kernel_rfl) (nn:=34) (S:=((List Nat)×Nat)) (σ:=((List Nat)×Nat)×Unit) (fun s=>s.1) (fun ((v8,v9),_) h=>Own vars h0 [((some g2),.cells [((encL 1 i64) r1.1)] false),((some g4),.cells (flatC (v8.map i64)) false)] h∧True) (fun ((v8,v9),_)=>[(4,(.pointer (some ⟨g2,0,none⟩))),(6,(.slice (some ⟨g4,0,none⟩) p0.nodes.length p0.nodes.length)),(21,(i64 p0.nodes.length)),(22,(i64 v9))]) rfl (((List.replicate p0.nodes.length (0:Nat)),0),()) hm ⟨(O.sel [1,0] (by decide)),trivial⟩ ⟨VLe.refl _ _,VLe.refl _ _,VLe.refl _ _,VLe.refl _ _,trivial⟩ ?_
   clear hm;rintro⟨⟨v8,v9⟩,_⟩ nx10 base h hm ⟨O,_⟩
   ((conv=>whnf);repeat(first|apply Cs|apply Hs|apply Hx);conv=>whnf)
   refine⟨_,rfl,fun hc=>?_,fun hc=>?_⟩
   ·replace hm:=hm.1 hc
    apply Cs;(conv=>whnf);repeat(first|apply Cs|apply Hs|apply Hx);conv=>whnf
    obtain⟨hj,x11,hx11,hm⟩:=hm
    refine indexK (s:=1) (j:=v9) rfl rfl rfl rfl hj ?_;(conv=>whnf);repeat(first|apply Hs|apply Hx);conv=>whnf
    refine O.store (n:=1) (.tail _ (.head _)) rfl rfl rfl rfl (el_le (enc:=i64) (s:=1) (k:=0) (n:=1) (fun _=>rfl) (lt_of_get hx11) (lbE rfl)) rfl (splice_all (enc:=i64) (s:=1) (fun _=>rfl) (lt_of_get hx11) (x:=v9) rfl) fun h O=>?_;(conv=>whnf);repeat(first|apply Cs|apply Hs|apply Hx);conv=>whnf
    refine⟨_,addK (a:=v9) (b:=1) rfl rfl hm.1,?_⟩;(conv=>whnf);repeat(first|apply Hs|apply Hx);conv=>whnf
    replace hm:=hm.2
    exact⟨(((v8.set v9 v9),(v9+1)),()),hm,⟨O,trivial⟩,VLe.refl _ _,VLe.refl _ _,VLe.refl _ _,VLe.refl _ _,trivial⟩
   ·replace hm:=hm.2 hc
    apply Cs;(conv=>whnf);repeat(first|apply Cs|apply Hs|apply Hx);conv=>whnf
    exact⟨(v8,()),hm,⟨O,trivial⟩,VLe.refl _ _,VLe.refl _ _,trivial⟩
  ·clear hm;rintro⟨v6,_⟩ base h hm ⟨O,_⟩
   ((conv=>whnf);repeat(first|apply Cs|apply Hs|apply Hx);conv=>whnf)
   refine makeFuncK rfl rfl ?_;(conv=>whnf);repeat(first|apply Hs|apply Hx);conv=>whnf
   obtain⟨_,h,hcall,x12,hm,rfl,O,_⟩:=sort_all_walk hm  (O.sel [1,0] (by decide))
   refine⟨_,_,hcall,?_⟩;(conv=>whnf);repeat(first|apply Cs|apply Hs|apply Hx);conv=>whnf
   obtain⟨hn13,hm⟩:=hm
   exact⟨(x12,0),hm,O.ext,fun h2 F=>VLe.tup (LLe.cons (O.flatL F (Nat.le_refl _) (.head _) (fun _=>rfl) hn13) (LLe.cons (VLe.refl _ _) (LLe.nil _)))⟩
end Go.Proofs.YtfhldkgelipnaaaGreatDoor
