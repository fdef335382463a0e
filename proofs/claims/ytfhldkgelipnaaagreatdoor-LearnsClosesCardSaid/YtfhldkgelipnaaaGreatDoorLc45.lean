/-
  R1: parts of the proof.
-/
import Derived.Test.YtfhldkgelipnaaaGreatDoorLc44
namespace Go.Proofs.YtfhldkgelipnaaaGreatDoor
open Go.Abs
set_option maxRecDepth 100000
set_option maxHeartbeats 8000000
def learns_known_wp (p0:Circ) (p1:(List Asg)) (K:Bool→Prop):Prop :=
 joinW (α:=Unit) (fun k1=>loopW (S:=Nat) (fun v2 nx3=>((ltN v2 p1.length)=true→∃ x4,p1[v2]?=some x4∧joinW (α:=Bool) (fun k8=>((ltN x4.net 0)=true→k8 true)∧((ltN x4.net 0)=false→((!ltN x4.net p0.nodes.length)=true→k8 true)∧((!ltN x4.net p0.nodes.length)=false→logic_Known_wp x4.value (fun r9=>k8 (!r9))))) (fun v7=>(v7=true→K false)∧(v7=false→v2+1<2 ^ 63∧nx3 (v2+1))))∧((ltN v2 p1.length)=false→k1 ())) 0) (fun _=>K true)
theorem learns_known_walk {p0:Circ}{p1:(List Asg)}{K:Bool→Prop} (hm:learns_known_wp p0 p1 K) {h0:Heap} (hB:HasB vars h0):∃ r,K r∧CallD Tryz.prog NG 60 ⟨[encCirc p0,(encL 2 encAsg) p1]⟩ h0 (Value.bool r) h0:=by
 unfold learns_known_wp at hm
 refine fw Tryz.func60 hB (enc:=Value.bool) (fun r=>PureV.flat rfl) fun O=>?_;conv=>whnf
 refine gX ?_
 refine fz ?_;refine gH ?_
 refine jn hm 31 [] (fun s=>s) (fun _ h=>Own vars h0 [] h) (fun _=>[]) (fun hm=>?_) ?_
 ·refine gX ?_
  refine lw 31 [2,7,8] (σ:=Nat) (fun s=>s) (fun v2 h=>Own vars h0 [] h) (fun v2=>[(9,(i64 v2))]) 0 hm O ?_
  clear hm;rintro v2 nx3 base h hm O
  refine gX ?_
  refine br hm (fun hm=>?_) fun hm=>?_
  ·refine gX ?_
   refine atF hm fun x4 hx4 hm=>?_;refine gH ?_
   refine O.new (anew_alloc (l:=[(i64 0),(n8 0)]) rfl rfl rfl) fun g5 h O=>?_;refine gH ?_
   refine O.stC 2 (.head _) [(i64 x4.net),(n8 x4.value)] fun h O=>?_;refine gH ?_
   refine jn hm 31 [2,7,8,9] (fun s=>s) (fun v7 h=>Own vars h0 [] h) (fun v7=>[(29,(.bool v7))]) (fun hm=>?_) ?_
   ·refine gX ?_
    refine br hm (fun hm=>?_) fun hm=>?_
    ·refine gX ?_
     refine bt ?_;refine gH ?_
     exact jx true hm (O.sel [] (by decide))
    ·refine gX ?_
     refine br hm (fun hm=>?_) fun hm=>?_
     ·refine gX ?_
      exact jx true hm (O.sel [] (by decide))
     ·refine gX ?_
      refine ca (logic_Known_walk hm O.has) fun r9 hm=>?_;refine gH ?_
      exact jx (!r9) hm (O.sel [] (by decide))
   ·clear hm;rintro v7 base h hm O
    refine gX ?_
    refine br hm (fun hm=>?_) fun hm=>?_
    ·refine gX ?_
     exact fe hm O
    ·refine gX ?_
     refine aAdd hm fun hm=>?_;refine gH ?_
     exact jx (v2+1) hm O
  ·refine gX ?_
   exact jx () hm O
 ·clear hm;rintro _ base h hm O
  refine gX ?_
  exact fe hm O
def probecardlaw25_at_wp (p0:Nat) (p1:Nat) (K:Asg→Prop):Prop :=
 K (⟨p0,p1⟩:Asg)
theorem probecardlaw25_at_walk {p0:Nat}{p1:Nat}{K:Asg→Prop} (hm:probecardlaw25_at_wp p0 p1 K) {h0:Heap} (hB:HasB vars h0):∃ r,K r∧CallD Tryz.prog NG 22 ⟨[i64 p0,n8 p1]⟩ h0 (encAsg r) h0:=by
 unfold probecardlaw25_at_wp at hm
 refine fw Tryz.func22 hB (enc:=encAsg) (fun r=>pure_asg _) fun O=>?_;conv=>whnf
 refine gX ?_
 refine O.new (anew_alloc (l:=[(i64 0),(n8 0)]) rfl rfl rfl) fun g1 h O=>?_;refine gH ?_
 refine gX ?_
 refine O.stC 2 (.head _) [(i64 p0),(n8 p1)] fun h O=>?_;refine gX ?_
 refine⟨_,resAggK rfl rfl (O.at (.head _)) rfl rfl (lbE rfl) rfl,?_⟩;conv=>whnf
 exact fe hm O
def probecardlaw25_equal_wp (p0:(List Nat)) (p1:Bool) (p2:(List Nat)) (p3:Bool) (K:Bool→Prop):Prop :=
 joinW (α:=Bool) (fun k2=>((p1 != p3)=true→k2 true)∧((p1 != p3)=false→k2 (neN p0.length p2.length))) (fun v1=>(v1=true→K false)∧(v1=false→joinW (α:=Unit) (fun k3=>loopW (S:=Nat) (fun v4 nx5=>((ltN v4 p0.length)=true→∃ x6,p0[v4]?=some x6∧∃ x7,p2[v4]?=some x7∧((neN x6 x7)=true→K false)∧((neN x6 x7)=false→v4+1<2 ^ 63∧nx5 (v4+1)))∧((ltN v4 p0.length)=false→k3 ())) 0) (fun _=>K true)))
theorem probecardlaw25_equal_walk {p0:(List Nat)}{p1:Bool}{p2:(List Nat)}{p3:Bool}{K:Bool→Prop} (hm:probecardlaw25_equal_wp p0 p1 p2 p3 K) {h0:Heap} (hB:HasB vars h0):∃ r,K r∧CallD Tryz.prog NG 26 ⟨[(encL 1 n8) p0,Value.bool p1,(encL 1 n8) p2,Value.bool p3]⟩ h0 (Value.bool r) h0:=by
 unfold probecardlaw25_equal_wp at hm
 refine fw Tryz.func26 hB (enc:=Value.bool) (fun r=>PureV.flat rfl) fun O=>?_;conv=>whnf
 apply Cs;conv=>whnf
 apply Cs;refine gH ?_
 apply Cs;conv=>whnf
 refine jn hm 35 [0,2] (fun s=>s) (fun v1 h=>Own vars h0 [] h) (fun v1=>[(19,(.bool v1))]) (fun hm=>?_) ?_
 ·refine gX ?_
  refine br hm (fun hm=>?_) fun hm=>?_
  ·refine gX ?_
   exact jx true hm O
  ·refine gX ?_
   exact jx (neN p0.length p2.length) hm O
 ·clear hm;rintro v1 base h hm O
  refine gX ?_
  refine br hm (fun hm=>?_) fun hm=>?_
  ·refine gX ?_
   exact fe hm O
  ·apply Cs;conv=>whnf
   refine jn hm 35 [] (fun s=>s) (fun _ h=>Own vars h0 [] h) (fun _=>[]) (fun hm=>?_) ?_
   ·refine gX ?_
    refine lw 35 [0,2] (σ:=Nat) (fun s=>s) (fun v4 h=>Own vars h0 [] h) (fun v4=>[(9,(i64 v4))]) 0 hm O ?_
    clear hm;rintro v4 nx5 base h hm O
    refine gX ?_
    refine br hm (fun hm=>?_) fun hm=>?_
    ·refine gX ?_
     refine atF hm fun x6 hx6 hm=>?_;refine gH ?_
     refine atF hm fun x7 hx7 hm=>?_;refine gX ?_
     refine br hm (fun hm=>?_) fun hm=>?_
     ·refine gX ?_
      exact fe hm O
     ·refine gX ?_
      refine aAdd hm fun hm=>?_;refine gH ?_
      exact jx (v4+1) hm O
    ·refine gX ?_
     exact jx () hm O
   ·clear hm;rintro _ base h hm O
    refine gX ?_
    exact fe hm O
def probecardlaw25_least_wp (p0:(List Nat)) (p1:Bool) (p2:(List Nat)) (p3:Bool) (K:Bool→Prop):Prop :=
 joinW (α:=Bool) (fun k2=>((!p1)=true→k2 true)∧((!p1)=false→k2 (!p3))) (fun v1=>(v1=true→K (!p1))∧(v1=false→((neN p0.length p2.length)=true→K false)∧((neN p0.length p2.length)=false→joinW (α:=Unit) (fun k3=>loopW (S:=Nat) (fun v4 nx5=>((ltN v4 p0.length)=true→joinW (α:=Bool) (fun k7=>∃ x8,p2[v4]?=some x8∧((neN x8 2)=true→∃ x9,p2[v4]?=some x9∧∃ x10,p0[v4]?=some x10∧k7 (neN x9 x10))∧((neN x8 2)=false→k7 false)) (fun v6=>(v6=true→K false)∧(v6=false→v4+1<2 ^ 63∧nx5 (v4+1))))∧((ltN v4 p0.length)=false→k3 ())) 0) (fun _=>K true))))
theorem probecardlaw25_least_walk {p0:(List Nat)}{p1:Bool}{p2:(List Nat)}{p3:Bool}{K:Bool→Prop} (hm:probecardlaw25_least_wp p0 p1 p2 p3 K) {h0:Heap} (hB:HasB vars h0):∃ r,K r∧CallD Tryz.prog NG 27 ⟨[(encL 1 n8) p0,Value.bool p1,(encL 1 n8) p2,Value.bool p3]⟩ h0 (Value.bool r) h0:=by
 unfold probecardlaw25_least_wp at hm
 refine fw Tryz.func27 hB (enc:=Value.bool) (fun r=>PureV.flat rfl) fun O=>?_;conv=>whnf
 apply Cs;conv=>whnf
 apply Cs;refine gH ?_
 apply Cs;conv=>whnf
 refine jn hm 45 [0,1,2] (fun s=>s) (fun v1 h=>Own vars h0 [] h) (fun v1=>[(15,(.bool v1))]) (fun hm=>?_) ?_
 ·refine gX ?_
  refine br hm (fun hm=>?_) fun hm=>?_
  ·refine gX ?_
   exact jx true hm O
  ·refine gX ?_
   exact jx (!p3) hm O
 ·clear hm;rintro v1 base h hm O
  refine gX ?_
  refine br hm (fun hm=>?_) fun hm=>?_
  ·refine gX ?_
   exact fe hm O
  ·refine gX ?_
   refine br hm (fun hm=>?_) fun hm=>?_
   ·refine gX ?_
    exact fe hm O
   ·apply Cs;conv=>whnf
    refine jn hm 45 [] (fun s=>s) (fun _ h=>Own vars h0 [] h) (fun _=>[]) (fun hm=>?_) ?_
    ·refine gX ?_
     refine lw 45 [0,2] (σ:=Nat) (fun s=>s) (fun v4 h=>Own vars h0 [] h) (fun v4=>[(9,(i64 v4))]) 0 hm O ?_
     clear hm;rintro v4 nx5 base h hm O
     refine gX ?_
     refine br hm (fun hm=>?_) fun hm=>?_
     ·apply Cs;conv=>whnf
      apply Cs;conv=>whnf
      apply Cs;conv=>whnf
      refine jn hm 45 [0,2,9] (fun s=>s) (fun v6 h=>Own vars h0 [] h) (fun v6=>[(44,(.bool v6))]) (fun hm=>?_) ?_
      ·refine gX ?_
       refine atF hm fun x8 hx8 hm=>?_;refine gH ?_
       refine br hm (fun hm=>?_) fun hm=>?_
       ·refine gX ?_
        refine atF hm fun x9 hx9 hm=>?_;refine gH ?_
        refine atF hm fun x10 hx10 hm=>?_;refine gH ?_
        exact jx (neN x9 x10) hm O
       ·refine gX ?_
        exact jx false hm O
      ·clear hm;rintro v6 base h hm O
       refine gX ?_
       refine br hm (fun hm=>?_) fun hm=>?_
       ·refine gX ?_
        exact fe hm O
       ·refine gX ?_
        refine aAdd hm fun hm=>?_;refine gH ?_
        exact jx (v4+1) hm O
     ·refine gX ?_
      exact jx () hm O
    ·clear hm;rintro _ base h hm O
     refine gX ?_
     exact fe hm O
def probecardlaw25_example_wp  (K:Circ→Prop):Prop :=
 K (⟨([(⟨0,([]:(List Nat)),0,0⟩:Node),(⟨0,([]:(List Nat)),0,0⟩:Node),(⟨5,([0,1]:(List Nat)),0,0⟩:Node),(⟨4,([0]:(List Nat)),0,0⟩:Node),(⟨5,([3,1]:(List Nat)),0,0⟩:Node),(⟨7,([2,4]:(List Nat)),0,0⟩:Node)]:(List Node)),([(⟨#[97]⟩:ByteArray),(⟨#[98]⟩:ByteArray),(⟨#[100]⟩:ByteArray),(⟨#[101]⟩:ByteArray),(⟨#[102]⟩:ByteArray),(⟨#[103]⟩:ByteArray)]:(List ByteArray)),[],([5]:(List Nat))⟩:Circ)
theorem probecardlaw25_example_walk  {K:Circ→Prop} (hm:probecardlaw25_example_wp  K) {h0:Heap} (hB:HasB vars h0):∃ r,K r∧CallD Tryz.prog NG 29 ⟨[]⟩ h0 (encCirc r) h0:=by
 unfold probecardlaw25_example_wp at hm
 refine fw Tryz.func29 hB (enc:=encCirc) (fun r=>pure_circ _) fun O=>?_;conv=>whnf
 refine gX ?_
 refine O.new (anew_alloc (l:=[(.slice none 0 0),(.slice none 0 0),(.slice none 0 0),(.slice none 0 0)]) rfl rfl rfl) fun g1 h O=>?_;refine gH ?_
 refine gX ?_
 refine fz ?_;refine gH ?_
 refine fz ?_;refine gH ?_
 refine fz ?_;refine gH ?_
 refine fz ?_;refine gH ?_
 refine NewG.frzW rfl (VLe.els (s:=4) (es':=([(⟨0,([]:(List Nat)),0,0⟩:Node),(⟨0,([]:(List Nat)),0,0⟩:Node),(⟨5,([0,1]:(List Nat)),0,0⟩:Node),(⟨4,([0]:(List Nat)),0,0⟩:Node),(⟨5,([3,1]:(List Nat)),0,0⟩:Node),(⟨7,([2,4]:(List Nat)),0,0⟩:Node)]).map encNode) rfl (map_size (enc:=encNode) (s:=4) (fun _=>rfl) _) (LLe.cons (VLe.refl _ _) (LLe.cons (VLe.nil _ _) (LLe.cons (VLe.refl _ _) (LLe.cons (VLe.refl _ _) (LLe.cons (VLe.refl _ _) (LLe.cons (VLe.nil _ _) (LLe.cons (VLe.refl _ _) (LLe.cons (VLe.refl _ _) (LLe.cons (VLe.refl _ _) (LLe.cons (VLe.refl _ _) (LLe.cons (VLe.refl _ _) (LLe.cons (VLe.refl _ _) (LLe.cons (VLe.refl _ _) (LLe.cons (VLe.refl _ _) (LLe.cons (VLe.refl _ _) (LLe.cons (VLe.refl _ _) (LLe.cons (VLe.refl _ _) (LLe.cons (VLe.refl _ _) (LLe.cons (VLe.refl _ _) (LLe.cons (VLe.refl _ _) (LLe.cons (VLe.refl _ _) (LLe.cons (VLe.refl _ _) (LLe.cons (VLe.refl _ _) (LLe.cons (VLe.refl _ _) (LLe.nil _)))))))))))))))))))))))))) ?_;refine gH ?_
 refine fz ?_;refine gH ?_
 refine fz ?_;refine gH ?_
 refine O.stC 4 (.head _) [((encL 4 encNode) ([(⟨0,([]:(List Nat)),0,0⟩:Node),(⟨0,([]:(List Nat)),0,0⟩:Node),(⟨5,([0,1]:(List Nat)),0,0⟩:Node),(⟨4,([0]:(List Nat)),0,0⟩:Node),(⟨5,([3,1]:(List Nat)),0,0⟩:Node),(⟨7,([2,4]:(List Nat)),0,0⟩:Node)]:(List Node))),((encL 1 Value.string) ([(⟨#[97]⟩:ByteArray),(⟨#[98]⟩:ByteArray),(⟨#[100]⟩:ByteArray),(⟨#[101]⟩:ByteArray),(⟨#[102]⟩:ByteArray),(⟨#[103]⟩:ByteArray)]:(List ByteArray))),(.slice none 0 0),((encL 1 i64) ([5]:(List Nat)))] fun h O=>?_;refine gX ?_
 refine⟨_,resAggK rfl rfl (O.at (.head _)) rfl rfl (lbE rfl) rfl,?_⟩;conv=>whnf
 exact⟨(⟨([(⟨0,([]:(List Nat)),0,0⟩:Node),(⟨0,([]:(List Nat)),0,0⟩:Node),(⟨5,([0,1]:(List Nat)),0,0⟩:Node),(⟨4,([0]:(List Nat)),0,0⟩:Node),(⟨5,([3,1]:(List Nat)),0,0⟩:Node),(⟨7,([2,4]:(List Nat)),0,0⟩:Node)]:(List Node)),([(⟨#[97]⟩:ByteArray),(⟨#[98]⟩:ByteArray),(⟨#[100]⟩:ByteArray),(⟨#[101]⟩:ByteArray),(⟨#[102]⟩:ByteArray),(⟨#[103]⟩:ByteArray)]:(List ByteArray)),[],([5]:(List Nat))⟩:Circ),hm,O.ext,fun h2 F=>VLe.agg (LLe.cons (VLe.refl _ _) (LLe.cons (VLe.refl _ _) (LLe.cons (VLe.nil _ _) (LLe.cons (VLe.refl _ _) (LLe.nil _)))))⟩
def cmp_Or_int__wp (p0:(List Int)) (K:Int→Prop):Prop :=
 joinW (α:=Unit) (fun k1=>loopW (S:=Nat) (fun v2 nx3=>((ltN v2 p0.length)=true→∃ x4,p0[v2]?=some x4∧((neZ x4 (Int.ofNat 0))=true→K x4)∧((neZ x4 (Int.ofNat 0))=false→v2+1<2 ^ 63∧nx3 (v2+1)))∧((ltN v2 p0.length)=false→k1 ())) 0) (fun _=>K (Int.ofNat 0))
theorem cmp_Or_int__walk {p0:(List Int)}{K:Int→Prop} (hm:cmp_Or_int__wp p0 K) {h0:Heap} (hB:HasB vars h0):∃ r,K r∧CallD Tryz.prog NG 57 ⟨[(encL 1 z64) p0]⟩ h0 (z64 r) h0:=by
 unfold cmp_Or_int__wp at hm
 refine fw Tryz.func57 hB (enc:=z64) (fun r=>PureV.flat rfl) fun O=>?_;conv=>whnf
 apply Cs;conv=>whnf
 apply Cs;refine gH ?_
 apply Cs;conv=>whnf
 apply Cs;refine gH ?_
 refine jn hm 18 [3] (fun s=>s) (fun _ h=>Own vars h0 [] h) (fun _=>[]) (fun hm=>?_) ?_
 ·refine gX ?_
  refine lw 18 [3,6,7] (σ:=Nat) (fun s=>s) (fun v2 h=>Own vars h0 [] h) (fun v2=>[(8,(i64 v2))]) 0 hm O ?_
  clear hm;rintro v2 nx3 base h hm O
  refine gX ?_
  refine br hm (fun hm=>?_) fun hm=>?_
  ·refine gX ?_
   refine atF hm fun x4 hx4 hm=>?_;refine gX ?_
   refine br hm (fun hm=>?_) fun hm=>?_
   ·refine gX ?_
    exact fe hm O
   ·refine gX ?_
    refine aAdd hm fun hm=>?_;refine gH ?_
    exact jx (v2+1) hm O
  ·refine gX ?_
   exact jx () hm O
 ·clear hm;rintro _ base h hm O
  refine gX ?_
  exact fe hm O
def cmp_Compare_int__wp (p0:Nat) (p1:Nat) (K:Int→Prop):Prop :=
 cmp_isNaN_wp p0 (fun r1=>cmp_isNaN_wp p1 (fun r2=>(r1=true→(r2=true→K (Int.ofNat 0))∧(r2=false→K (Int.negSucc 0)))∧(r1=false→(r2=true→K (Int.ofNat 1))∧(r2=false→((ltN p0 p1)=true→K (Int.negSucc 0))∧((ltN p0 p1)=false→((ltN p1 p0)=true→K (Int.ofNat 1))∧((ltN p1 p0)=false→K (Int.ofNat 0)))))))
theorem cmp_Compare_int__walk {p0:Nat}{p1:Nat}{K:Int→Prop} (hm:cmp_Compare_int__wp p0 p1 K) {h0:Heap} (hB:HasB vars h0):∃ r,K r∧CallD Tryz.prog NG 81 ⟨[i64 p0,i64 p1]⟩ h0 (z64 r) h0:=by
 unfold cmp_Compare_int__wp at hm
 refine fw Tryz.func81 hB (enc:=z64) (fun r=>PureV.flat rfl) fun O=>?_;conv=>whnf
 refine gX ?_
 refine ca (cmp_isNaN_walk hm O.has) fun r1 hm=>?_;refine gX ?_
 refine ca (cmp_isNaN_walk hm O.has) fun r2 hm=>?_;refine gX ?_
 refine br hm (fun hm=>?_) fun hm=>?_
 ·refine gX ?_
  refine br hm (fun hm=>?_) fun hm=>?_
  ·refine gX ?_
   exact fe hm O
  ·refine gX ?_
   exact fe hm O
 ·refine gX ?_
  refine br hm (fun hm=>?_) fun hm=>?_
  ·refine gX ?_
   exact fe hm O
  ·refine gX ?_
   refine br hm (fun hm=>?_) fun hm=>?_
   ·refine gX ?_
    exact fe hm O
   ·refine gX ?_
    refine br hm (fun hm=>?_) fun hm=>?_
    ·refine gX ?_
     exact fe hm O
    ·refine gX ?_
     exact fe hm O
def api_Value__wp (p0:Nat) (p1:Nat) (K:Int→Prop):Prop :=
 ((neN p0 p0)=true→((neN p1 p1)=true→K (Int.ofNat 0))∧((neN p1 p1)=false→K (Int.negSucc 0)))∧((neN p0 p0)=false→((neN p1 p1)=true→K (Int.ofNat 1))∧((neN p1 p1)=false→((ltN p0 p1)=true→K (Int.negSucc 0))∧((ltN p0 p1)=false→((ltN p1 p0)=true→K (Int.ofNat 1))∧((ltN p1 p0)=false→K (Int.ofNat 0)))))
theorem api_Value__walk {p0:Nat}{p1:Nat}{K:Int→Prop} (hm:api_Value__wp p0 p1 K) {h0:Heap} (hB:HasB vars h0):∃ r,K r∧CallD Tryz.prog NG 94 ⟨[n8 p0,n8 p1]⟩ h0 (z64 r) h0:=by
 unfold api_Value__wp at hm
 refine fw Tryz.func94 hB (enc:=z64) (fun r=>PureV.flat rfl) fun O=>?_;conv=>whnf
 refine gX ?_
 refine fg Tryz.func122 ?_;refine gX ?_
 refine fg Tryz.func122 ?_;refine gX ?_
 refine br hm (fun hm=>?_) fun hm=>?_
 ·refine gX ?_
  refine br hm (fun hm=>?_) fun hm=>?_
  ·refine gX ?_
   exact fe hm O
  ·refine gX ?_
   exact fe hm O
 ·refine gX ?_
  refine br hm (fun hm=>?_) fun hm=>?_
  ·refine gX ?_
   exact fe hm O
  ·refine gX ?_
   refine br hm (fun hm=>?_) fun hm=>?_
   ·refine gX ?_
    exact fe hm O
   ·refine gX ?_
    refine br hm (fun hm=>?_) fun hm=>?_
    ·refine gX ?_
     exact fe hm O
    ·refine gX ?_
     exact fe hm O
def learns_order_wp (p0:Asg) (p1:Asg) (K:Int→Prop):Prop :=
 cmp_Compare_int__wp p0.net p1.net (fun r1=>api_Value__wp p0.value p1.value (fun r2=>2=([r1,r2]:(List Int)).length∧cmp_Or_int__wp ([r1,r2]:(List Int)) (fun r5=>K r5)))
theorem learns_order_walk {p0:Asg}{p1:Asg}{K:Int→Prop} (hm:learns_order_wp p0 p1 K) {h0:Heap} (hB:HasB vars h0):∃ r,K r∧CallD Tryz.prog NG 58 ⟨[encAsg p0,encAsg p1]⟩ h0 (z64 r) h0:=by
 unfold learns_order_wp at hm
 refine fw Tryz.func58 hB (enc:=z64) (fun r=>PureV.flat rfl) fun O=>?_;conv=>whnf
 refine gX ?_
 refine fz ?_;refine gH ?_
 refine fz ?_;refine gX ?_
 refine ca (cmp_Compare_int__walk hm O.has) fun r1 hm=>?_;refine gH ?_
 refine⟨.inl (Ext.refl _),?_⟩;refine gH ?_
 refine ca (api_Value__walk hm O.has) fun r2 hm=>?_;refine gH ?_
 refine⟨.inl (Ext.refl _),?_⟩;refine gH ?_
 refine O.buildLX (l:=([r1,r2]:(List Int))) (enc:=z64) (s:=1) (z:=(z64 0)) rfl rfl (by kernel_rfl) (by kernel_rfl) rfl rfl rfl rfl (fun _=>rfl) fun g3 h O=>?_;refine gH ?_
 obtain⟨hn6,hm⟩:=hm
 refine CallD.useB (fun _ hb=>cmp_Or_int__walk hm hb) (fun _=>flatB_ok rfl) fzVars O.has (fun h2 F=>(LLe.cons (O.flatL F (Nat.zero_le _) (.head _) (fun _=>rfl) hn6) (LLe.nil _))) (by kernel_rfl) (fun r5 hm'=>?_);replace hm:=hm';refine gH ?_
 refine⟨.inl (Ext.refl _),?_⟩;refine gH ?_
 refine gX ?_
 exact fe hm O
def learns_order2_wp (p0:Lawv) (p1:Lawv) (K:Int→Prop):Prop :=
 learns_order_wp p0.cond p1.cond (fun r1=>learns_order_wp p0.thn p1.thn (fun r2=>2=([r1,r2]:(List Int)).length∧cmp_Or_int__wp ([r1,r2]:(List Int)) (fun r5=>K r5)))
theorem learns_order2_walk {p0:Lawv}{p1:Lawv}{K:Int→Prop} (hm:learns_order2_wp p0 p1 K) {h0:Heap} (hB:HasB vars h0):∃ r,K r∧CallD Tryz.prog NG 56 ⟨[encLaw p0,encLaw p1]⟩ h0 (z64 r) h0:=by
 unfold learns_order2_wp at hm
 refine fw Tryz.func56 hB (enc:=z64) (fun r=>PureV.flat rfl) fun O=>?_;conv=>whnf
 refine gX ?_
 refine fz ?_;refine gH ?_
 refine fz ?_;refine gX ?_
 first|refine⟨.inr (.inr (rfl)),?_⟩|refine⟨.inr (.inl (by kernel_rfl)),?_⟩
 refine gX ?_
 first|refine⟨.inr (.inr (rfl)),?_⟩|refine⟨.inr (.inl (by kernel_rfl)),?_⟩
 refine gX ?_
 refine ca (learns_order_walk hm O.has) fun r1 hm=>?_;refine gH ?_
 refine⟨.inl (Ext.refl _),?_⟩;refine gH ?_
 first|refine⟨.inr (.inr (rfl)),?_⟩|refine⟨.inr (.inl (by kernel_rfl)),?_⟩
 refine gX ?_
 first|refine⟨.inr (.inr (rfl)),?_⟩|refine⟨.inr (.inl (by kernel_rfl)),?_⟩
 refine gX ?_
 refine ca (learns_order_walk hm O.has) fun r2 hm=>?_;refine gH ?_
 refine⟨.inl (Ext.refl _),?_⟩;refine gH ?_
 refine O.buildLX (l:=([r1,r2]:(List Int))) (enc:=z64) (s:=1) (z:=(z64 0)) rfl rfl (by kernel_rfl) (by kernel_rfl) rfl rfl rfl rfl (fun _=>rfl) fun g3 h O=>?_;refine gH ?_
 obtain⟨hn6,hm⟩:=hm
 refine CallD.useB (fun _ hb=>cmp_Or_int__walk hm hb) (fun _=>flatB_ok rfl) fzVars O.has (fun h2 F=>(LLe.cons (O.flatL F (Nat.zero_le _) (.head _) (fun _=>rfl) hn6) (LLe.nil _))) (by kernel_rfl) (fun r5 hm'=>?_);replace hm:=hm';refine gH ?_
 refine⟨.inl (Ext.refl _),?_⟩;refine gH ?_
 refine gX ?_
 exact fe hm O
def learns_list_wp (p0:(List Nat)) (K:(List Asg)→Prop):Prop :=
 joinW (α:=(List Asg)) (fun k5=>loopW (S:=((List Asg)×Nat)) (fun (v7,v8) nx10=>((ltN v8 p0.length)=true→joinW (α:=(List Asg)) (fun k14=>∃ x15,p0[v8]?=some x15∧((neN x15 2)=true→(v7.length+([(⟨v8,x15⟩:Asg)]:(List Asg)).length)*16≤2 ^ 47∧k14 (v7++([(⟨v8,x15⟩:Asg)]:(List Asg))))∧((neN x15 2)=false→k14 v7)) (fun v12=>v8+1<2 ^ 63∧nx10 (v12,(v8+1))))∧((ltN v8 p0.length)=false→k5 v7)) (([]:List Asg),0)) (fun v3=>K v3)
theorem learns_list_walkO {p0:(List Nat)}{K:(List Asg)→Prop} (hm:learns_list_wp p0 K) {h0:Heap} (hB:HasB vars h0):∃ v h',CallD Tryz.prog NG 54 ⟨[(encL 1 n8) p0]⟩ h0 v h'∧OwnRes vars h0 K (fun (r:(List Asg)) a=>growV 2 a (r.map encAsg)) (fun (r:(List Asg))=>r) encAsg false v h':=by
 unfold learns_list_wp at hm
 refine fg Tryz.func54 (Q:=OwnRes vars h0 K (fun (r:(List Asg)) a=>growV 2 a (r.map encAsg)) (fun (r:(List Asg))=>r) encAsg false) ?_;have O:=Own.start hB;conv=>whnf
 apply Cs;conv=>whnf
 apply Cs;refine gH ?_
 have O:=O.addNil (.cells (flatC ((([]:List Asg)).map encAsg)) false)
 refine jn (σ:=(List Asg)×Option Nat) hm 22 [] (fun s=>s.1) (fun (v3,a2) h=>(a2=none→v3=[])∧Own vars h0 [(a2,.cells (flatC (v3.map encAsg)) false)] h) (fun (v3,a2)=>[(2,(growV 2 a2 (v3.map encAsg)))]) (fun hm=>?_) ?_
 ·refine gX ?_
  refine lw 22 [5,6] (σ:=((List Asg)×Nat)×Option Nat) (fun s=>s.1) (fun ((v7,v8),a6) h=>(a6=none→v7=[])∧Own vars h0 [(a6,.cells (flatC (v7.map encAsg)) false)] h) (fun ((v7,v8),a6)=>[(2,(growV 2 a6 (v7.map encAsg))),(7,(i64 v8))]) ((([]:List Asg),0),none) hm ⟨(fun _=>rfl),O⟩ ?_
  clear hm;rintro⟨⟨v7,v8⟩,a6⟩ nx10 base h hm ⟨ha9,O⟩
  refine gX ?_
  refine br hm (fun hm=>?_) fun hm=>?_
  ·apply Cs;conv=>whnf
   refine jn (σ:=(List Asg)×Option Nat) hm 22 [5,6,7] (fun s=>s.1) (fun (v12,a11) h=>(a11=none→v12=[])∧Own vars h0 [(a11,.cells (flatC (v12.map encAsg)) false)] h) (fun (v12,a11)=>[(2,(growV 2 a11 (v12.map encAsg)))]) (fun hm=>?_) ?_
   ·refine gX ?_
    refine atF hm fun x15 hx15 hm=>?_;refine gX ?_
    refine br hm (fun hm=>?_) fun hm=>?_
    ·refine gX ?_
     refine fz ?_;refine gH ?_
     refine O.apL (enc:=encAsg) (l:=v7) (new:=([(⟨v8,x15⟩:Asg)]:(List Asg))) 2 (.head _) ha9 hm fun a16 h ha17 O hm=>?_;refine gH ?_
     exact jx ((v7++([(⟨v8,x15⟩:Asg)]:(List Asg))),a16) hm ⟨ha17,O⟩
    ·refine gX ?_
     exact jx (v7,a6) hm ⟨ha9,O⟩
   ·clear hm;rintro⟨v12,a11⟩ base h hm ⟨ha13,O⟩
    refine gX ?_
    refine aAdd hm fun hm=>?_;refine gH ?_
    exact jx ((v12,(v8+1)),a11) hm ⟨ha13,O⟩
  ·refine gX ?_
   exact jx (v7,a6) hm ⟨ha9,O⟩
 ·clear hm;rintro⟨v3,a2⟩ base h hm ⟨ha4,O⟩
  refine gX ?_
  exact⟨v3,a2,hm,VLe.refl _ _,ha4,(fun e=>nomatch e),O.sel [0] (by decide)⟩
theorem learns_list_walk {p0:(List Nat)}{K:(List Asg)→Prop} (hm:learns_list_wp p0 K) {h0:Heap} (hB:HasB vars h0):∃ r,K r∧CallD Tryz.prog NG 54 ⟨[(encL 1 n8) p0]⟩ h0 ((encL 2 encAsg) r) h0 :=
 valO (learns_list_walkO hm hB) (fk Tryz.func54) (fun r=>pureL (fun _=>pure_asgC _)) (fun r a h1 h3 O F ha h2=>O.grownL F (Nat.le_refl _) (.head _) ha (fun _=>rfl))
def learns_common_wp (p0:Nat) (p1:Nat) (K:Nat→Prop):Prop :=
 ((eqN p0 p1)=true→K p0)∧((eqN p0 p1)=false→K 2)
theorem learns_common_walk {p0:Nat}{p1:Nat}{K:Nat→Prop} (hm:learns_common_wp p0 p1 K) {h0:Heap} (hB:HasB vars h0):∃ r,K r∧CallD Tryz.prog NG 96 ⟨[n8 p0,n8 p1]⟩ h0 (n8 r) h0:=by
 unfold learns_common_wp at hm
 refine fw Tryz.func96 hB (enc:=n8) (fun r=>PureV.flat rfl) fun O=>?_;conv=>whnf
 refine gX ?_
 refine br hm (fun hm=>?_) fun hm=>?_
 ·refine gX ?_
  exact fe hm O
 ·refine gX ?_
  exact fe hm O
end Go.Proofs.YtfhldkgelipnaaaGreatDoor
