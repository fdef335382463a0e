/-
  Short, N1, I1, Lw, R1: parts of the proof.
-/
import Derived.Test.YteanlacbmiiloaaGreatDoorLk41
namespace Go.Proofs.YteanlacbmiiloaaGreatDoor
open Go.Abs
set_option maxRecDepth 100000
theorem fw {f:FuncId}{fn:Func}{c:Code} (hf:Tryz.prog.funcs[f]?=some fn) {vs:Array Value}{h:Heap} (hB:HasB vars h) {R:Type}{enc:R→Value} (hp:∀ r,PureV (enc r)) {K:R→Prop}
  (hk:Own vars h [] h→CodeS Tryz.prog NG c (initEnv fn.ntmps vs) h fun x e1 h1=>match x with
   |.exit _=>False
   |_=>resG Tryz.prog e1 h1 fn.results.toList fun vs=>∃ r,K r∧Ext h h1∧∀ h2,Frozen h.size h1 h2→VLe h2 (retV vs) (enc r))
  (hb:fn.body=some c:=by exact rfl) (hs:Nat.ble vs.size fn.ntmps=true:=by exact rfl):∃ r,K r∧CallD Tryz.prog NG f vs h (enc r) h :=
 fnW hM hf hb (hP _ _ rfl hf) (Nat.le_of_ble_eq_true hs) hB hp hk
theorem fg {f:FuncId}{fn:Func}{c:Code} (hf:Tryz.prog.funcs[f]?=some fn) {vs:Array Value}{h:Heap}{Q:Value→Heap→Prop}
  (hk:CodeS Tryz.prog NG c (initEnv fn.ntmps vs) h fun x e1 h1=>match x with
   |.exit _=>False
   |_=>resG Tryz.prog e1 h1 fn.results.toList fun vs=>Q (retV vs) h1)
  (hb:fn.body=some c:=by exact rfl) (hs:Nat.ble vs.size fn.ntmps=true:=by exact rfl):∃ v h',CallD Tryz.prog NG f vs h v h'∧Q v h' :=
 fnG hM hf hb (hP _ _ rfl hf) (Nat.le_of_ble_eq_true hs) hk
theorem fk {f:FuncId}{fn:Func}{c:Code} (hf:Tryz.prog.funcs[f]?=some fn) (hb:fn.body=some c:=by exact rfl):fnOk Tryz.prog f=true:=(fnOk_of hf hb (hP _ _ rfl hf)).1
set_option maxHeartbeats 8000000
def logic_Known_wp (p0:Nat) (K:Bool→Prop):Prop :=
 K (!ltN 1 p0)
theorem logic_Known_walk {p0:Nat}{K:Bool→Prop} (hm:logic_Known_wp p0 K) {h0:Heap} (hB:HasB vars h0):∃ r,K r∧CallD Tryz.prog NG 40 ⟨[n8 p0]⟩ h0 (Value.bool r) h0:=by
 unfold logic_Known_wp at hm
 refine fw Tryz.func40 hB (enc:=Value.bool) (fun r=>PureV.flat rfl) fun O=>?_;conv=>whnf
 refine gX ?_
 exact fe hm O
def sl_IndexK_wp (p0:(List Nat)) (p1:Nat) (K:Int→Prop):Prop :=
 joinW (α:=Unit) (fun k1=>loopW (S:=Nat) (fun v2 nx3=>((ltN v2 p0.length)=true→∃ x4,p0[v2]?=some x4∧((eqN p1 x4)=true→K (Int.ofNat v2))∧((eqN p1 x4)=false→v2+1<2 ^ 63∧nx3 (v2+1)))∧((ltN v2 p0.length)=false→k1 ())) 0) (fun _=>K (Int.negSucc 0))
theorem sl_IndexK_walk {p0:(List Nat)}{p1:Nat}{K:Int→Prop} (hm:sl_IndexK_wp p0 p1 K) {h0:Heap} (hB:HasB vars h0):∃ r,K r∧CallD Tryz.prog NG 104 ⟨[(encL 1 n8) p0,n8 p1]⟩ h0 (z64 r) h0:=by
 unfold sl_IndexK_wp at hm
 refine fw Tryz.func104 hB (enc:=z64) (fun r=>PureV.flat rfl) fun O=>?_;conv=>whnf
 apply Cs;conv=>whnf
 apply Cs;refine gH ?_
 refine jn hm 19 [] (fun s=>s) (fun _ h=>Own vars h0 [] h) (fun _=>[]) (fun hm=>?_) ?_
 ·refine gX ?_
  refine lw 19 [0,1,7] (σ:=Nat) (fun s=>s) (fun v2 h=>Own vars h0 [] h) (fun v2=>[(8,(i64 v2))]) 0 hm O ?_
  clear hm;rintro v2 nx3 base h hm O
  refine gX ?_
  refine br hm (fun hm=>?_) fun hm=>?_
  ·refine gX ?_
   refine atF hm fun x4 hx4 hm=>?_;refine gX ?_
   refine br hm (fun hm=>?_) fun hm=>?_
   ·refine gX ?_
    exact fe hm O
   ·refine gX ?_
    refine aAdd hm fun hm=>?_;refine gH ?_
    exact jx (v2+1) hm O
  ·refine gX ?_
   exact jx () hm O
 ·clear hm;rintro _ base h hm O
  refine gX ?_
  exact fe hm O
def sl_ContainsK_wp (p0:(List Nat)) (p1:Nat) (K:Bool→Prop):Prop :=
 sl_IndexK_wp p0 p1 (fun r1=>K (!ltI r1 (Int.ofNat 0)))
theorem sl_ContainsK_walk {p0:(List Nat)}{p1:Nat}{K:Bool→Prop} (hm:sl_ContainsK_wp p0 p1 K) {h0:Heap} (hB:HasB vars h0):∃ r,K r∧CallD Tryz.prog NG 77 ⟨[(encL 1 n8) p0,n8 p1]⟩ h0 (Value.bool r) h0:=by
 unfold sl_ContainsK_wp at hm
 refine fw Tryz.func77 hB (enc:=Value.bool) (fun r=>PureV.flat rfl) fun O=>?_;conv=>whnf
 refine gX ?_
 refine ca (sl_IndexK_walk hm O.has) fun r1 hm=>?_;refine gX ?_
 exact fe hm O
def cf_outsideI_wp (p0:(List Nat)) (c:Circ) (K:Int→Prop):Prop :=
 joinW (α:=Unit) (fun k1=>loopW (S:=Nat) (fun v2 nx3=>((ltN v2 p0.length)=true→∃ x4,p0[v2]?=some x4∧((ltN x4 0)=true→K (Int.ofNat v2))∧((ltN x4 0)=false→((!ltN x4 c.nodes.length)=true→K (Int.ofNat v2))∧((!ltN x4 c.nodes.length)=false→v2+1<2 ^ 63∧nx3 (v2+1))))∧((ltN v2 p0.length)=false→k1 ())) 0) (fun _=>K (Int.negSucc 0))
theorem cf_outsideI_walk {p0:(List Nat)}{c:Circ}{K:Int→Prop} (hm:cf_outsideI_wp p0 c K) {h0:Heap} (hB:HasB vars h0):∃ r,K r∧CallD Tryz.prog NG 144 ⟨[(encL 1 i64) p0,(.func (.func 101) ⟨[]⟩ ⟨[(FP (encCirc c))]⟩)]⟩ h0 (z64 r) h0:=by
 unfold cf_outsideI_wp at hm
 refine fw Tryz.func144 hB (enc:=z64) (fun r=>PureV.flat rfl) fun O=>?_;conv=>whnf
 apply Cs;conv=>whnf
 apply Cs;refine gH ?_
 refine jn hm 19 [] (fun s=>s) (fun _ h=>Own vars h0 [] h) (fun _=>[]) (fun hm=>?_) ?_
 ·refine gX ?_
  refine lw 19 [0,1,7] (σ:=Nat) (fun s=>s) (fun v2 h=>Own vars h0 [] h) (fun v2=>[(8,(i64 v2))]) 0 hm O ?_
  clear hm;rintro v2 nx3 base h hm O
  refine gX ?_
  refine br hm (fun hm=>?_) fun hm=>?_
  ·refine gX ?_
   refine atF hm fun x4 hx4 hm=>?_;refine gH ?_
   refine fg Tryz.func101 ?_;refine gX ?_
   refine br hm (fun hm=>?_) fun hm=>?_
   ·refine gX ?_
    refine bt ?_;refine gX ?_
    exact fe hm O
   ·refine gX ?_
    refine br hm (fun hm=>?_) fun hm=>?_
    ·refine gX ?_
     exact fe hm O
    ·refine gX ?_
     refine aAdd hm fun hm=>?_;refine gH ?_
     exact jx (v2+1) hm O
  ·refine gX ?_
   exact jx () hm O
 ·clear hm;rintro _ base h hm O
  refine gX ?_
  exact fe hm O
def cf_outside_wp (p0:(List Nat)) (c:Circ) (K:Bool→Prop):Prop :=
 cf_outsideI_wp p0 c (fun r1=>K (!ltI r1 (Int.ofNat 0)))
theorem cf_outside_walk {p0:(List Nat)}{c:Circ}{K:Bool→Prop} (hm:cf_outside_wp p0 c K) {h0:Heap} (hB:HasB vars h0):∃ r,K r∧CallD Tryz.prog NG 131 ⟨[(encL 1 i64) p0,(.func (.func 101) ⟨[]⟩ ⟨[(FP (encCirc c))]⟩)]⟩ h0 (Value.bool r) h0:=by
 unfold cf_outside_wp at hm
 refine fw Tryz.func131 hB (enc:=Value.bool) (fun r=>PureV.flat rfl) fun O=>?_;conv=>whnf
 refine gX ?_
 refine ca (cf_outsideI_walk hm O.has) fun r1 hm=>?_;refine gX ?_
 exact fe hm O
def cf_notTriI_wp (p0:(List Nat)) (c:Circ) (K:Int→Prop):Prop :=
 joinW (α:=Unit) (fun k1=>loopW (S:=Nat) (fun v2 nx3=>((ltN v2 p0.length)=true→∃ x4,p0[v2]?=some x4∧∃ x5,c.nodes[x4]?=some x5∧((neN x5.kind 12)=true→K (Int.ofNat v2))∧((neN x5.kind 12)=false→v2+1<2 ^ 63∧nx3 (v2+1)))∧((ltN v2 p0.length)=false→k1 ())) 0) (fun _=>K (Int.negSucc 0))
theorem cf_notTriI_walk {p0:(List Nat)}{c:Circ}{K:Int→Prop} (hm:cf_notTriI_wp p0 c K) {h0:Heap} (hB:HasB vars h0):∃ r,K r∧CallD Tryz.prog NG 144 ⟨[(encL 1 i64) p0,(.func (.func 140) ⟨[]⟩ ⟨[(FP (encCirc c))]⟩)]⟩ h0 (z64 r) h0:=by
 unfold cf_notTriI_wp at hm
 refine fw Tryz.func144 hB (enc:=z64) (fun r=>PureV.flat rfl) fun O=>?_;conv=>whnf
 apply Cs;conv=>whnf
 apply Cs;refine gH ?_
 refine jn hm 19 [] (fun s=>s) (fun _ h=>Own vars h0 [] h) (fun _=>[]) (fun hm=>?_) ?_
 ·refine gX ?_
  refine lw 19 [0,1,7] (σ:=Nat) (fun s=>s) (fun v2 h=>Own vars h0 [] h) (fun v2=>[(8,(i64 v2))]) 0 hm O ?_
  clear hm;rintro v2 nx3 base h hm O
  refine gX ?_
  refine br hm (fun hm=>?_) fun hm=>?_
  ·refine gX ?_
   refine atF hm fun x4 hx4 hm=>?_;refine gH ?_
   refine fg Tryz.func140 ?_;refine gX ?_
   refine atF hm fun x5 hx5 hm=>?_;refine gX ?_
   refine br hm (fun hm=>?_) fun hm=>?_
   ·refine gX ?_
    exact fe hm O
   ·refine gX ?_
    refine aAdd hm fun hm=>?_;refine gH ?_
    exact jx (v2+1) hm O
  ·refine gX ?_
   exact jx () hm O
 ·clear hm;rintro _ base h hm O
  refine gX ?_
  exact fe hm O
def cf_notTri_wp (p0:(List Nat)) (c:Circ) (K:Bool→Prop):Prop :=
 cf_notTriI_wp p0 c (fun r1=>K (!ltI r1 (Int.ofNat 0)))
theorem cf_notTri_walk {p0:(List Nat)}{c:Circ}{K:Bool→Prop} (hm:cf_notTri_wp p0 c K) {h0:Heap} (hB:HasB vars h0):∃ r,K r∧CallD Tryz.prog NG 131 ⟨[(encL 1 i64) p0,(.func (.func 140) ⟨[]⟩ ⟨[(FP (encCirc c))]⟩)]⟩ h0 (Value.bool r) h0:=by
 unfold cf_notTri_wp at hm
 refine fw Tryz.func131 hB (enc:=Value.bool) (fun r=>PureV.flat rfl) fun O=>?_;conv=>whnf
 refine gX ?_
 refine ca (cf_notTriI_walk hm O.has) fun r1 hm=>?_;refine gX ?_
 exact fe hm O
def netlists_Comb_wp (p0:Nat) (K:Bool→Prop):Prop :=
 ((!ltN p0 1)=true→K (!ltN 13 p0))∧((!ltN p0 1)=false→K false)
theorem netlists_Comb_walk {p0:Nat}{K:Bool→Prop} (hm:netlists_Comb_wp p0 K) {h0:Heap} (hB:HasB vars h0):∃ r,K r∧CallD Tryz.prog NG 51 ⟨[n8 p0]⟩ h0 (Value.bool r) h0:=by
 unfold netlists_Comb_wp at hm
 refine fw Tryz.func51 hB (enc:=Value.bool) (fun r=>PureV.flat rfl) fun O=>?_;conv=>whnf
 refine gX ?_
 refine br hm (fun hm=>?_) fun hm=>?_
 ·refine gX ?_
  exact fe hm O
 ·refine gX ?_
  exact fe hm O
def netlists_bit_wp (p0:Circ) (p1:Node) (K:Bool→Prop):Prop :=
 ((neN p1.kind 15)=true→((eqN p1.mem 0)=true→K (eqN p1.bit 0))∧((eqN p1.mem 0)=false→K false))∧((neN p1.kind 15)=false→((!ltN p1.mem 0)=true→((ltN p1.mem p0.mems.length)=true→((!ltN p1.bit 0)=true→∃ x1,p0.mems[p1.mem]?=some x1∧K (ltN p1.bit x1.data.length))∧((!ltN p1.bit 0)=false→K false))∧((ltN p1.mem p0.mems.length)=false→K false))∧((!ltN p1.mem 0)=false→K false))
theorem netlists_bit_walk {p0:Circ}{p1:Node}{K:Bool→Prop} (hm:netlists_bit_wp p0 p1 K) {h0:Heap} (hB:HasB vars h0):∃ r,K r∧CallD Tryz.prog NG 141 ⟨[encCirc p0,encNode p1]⟩ h0 (Value.bool r) h0:=by
 unfold netlists_bit_wp at hm
 refine fw Tryz.func141 hB (enc:=Value.bool) (fun r=>PureV.flat rfl) fun O=>?_;conv=>whnf
 refine gX ?_
 refine fz ?_;refine gH ?_
 refine fz ?_;refine gX ?_
 refine br hm (fun hm=>?_) fun hm=>?_
 ·refine gX ?_
  refine br hm (fun hm=>?_) fun hm=>?_
  ·refine gX ?_
   exact fe hm O
  ·refine gX ?_
   exact fe hm O
 ·refine gX ?_
  refine br hm (fun hm=>?_) fun hm=>?_
  ·refine gX ?_
   first|refine⟨.inr (.inr (rfl)),?_⟩|refine⟨.inr (.inl (by kernel_rfl)),?_⟩
   refine gX ?_
   refine br hm (fun hm=>?_) fun hm=>?_
   ·refine gX ?_
    refine br hm (fun hm=>?_) fun hm=>?_
    ·refine gX ?_
     first|refine⟨.inr (.inr (rfl)),?_⟩|refine⟨.inr (.inl (by kernel_rfl)),?_⟩
     refine gX ?_
     refine atF hm fun x1 hx1 hm=>?_;refine gH ?_
     first|refine⟨.inr (.inr (rfl)),?_⟩|refine⟨.inr (.inl (by kernel_rfl)),?_⟩
     refine gX ?_
     exact fe hm O
    ·refine gX ?_
     exact fe hm O
   ·refine gX ?_
    refine bf ?_;refine gX ?_
    exact fe hm O
  ·refine gX ?_
   refine bf ?_;refine gH ?_
   refine bf ?_;refine gX ?_
   exact fe hm O
def netlists_node_wp (p0:Circ) (p1:Node) (K:Nat→Prop):Prop :=
 logic_Fanin_wp p1.kind (fun r1=>((ltN 15 p1.kind)=true→K 7)∧((ltN 15 p1.kind)=false→joinW (α:=Bool) (fun k3=>((ltN p1.ins.length r1.1)=true→k3 true)∧((ltN p1.ins.length r1.1)=false→k3 (ltI r1.2 (Int.ofNat p1.ins.length)))) (fun v2=>(v2=true→K 8)∧(v2=false→cf_outside_wp p1.ins p0 (fun r4=>(r4=true→K 1)∧(r4=false→joinW (α:=Bool) (fun k6=>((eqN p1.kind 13)=true→cf_notTri_wp p1.ins p0 (fun r7=>k6 r7))∧((eqN p1.kind 13)=false→k6 false)) (fun v5=>(v5=true→K 7)∧(v5=false→netlists_bit_wp p0 p1 (fun r8=>((!r8)=true→K 1)∧((!r8)=false→K 0))))))))))
theorem netlists_node_walk {p0:Circ}{p1:Node}{K:Nat→Prop} (hm:netlists_node_wp p0 p1 K) {h0:Heap} (hB:HasB vars h0):∃ r,K r∧CallD Tryz.prog NG 128 ⟨[encCirc p0,encNode p1]⟩ h0 (i64 r) h0:=by
 unfold netlists_node_wp at hm
 refine fw Tryz.func128 hB (enc:=i64) (fun r=>PureV.flat rfl) fun O=>?_;conv=>whnf
 refine gX ?_
 refine fz ?_;refine gH ?_
 refine fz ?_;refine gX ?_
 refine ca (logic_Fanin_walk hm O.has) fun r1 hm=>?_;refine gX ?_
 refine br hm (fun hm=>?_) fun hm=>?_
 ·refine gX ?_
  exact fe hm O
 ·refine jn hm 53 [2,3,7] (fun s=>s) (fun v2 h=>Own vars h0 [] h) (fun v2=>[(19,(.bool v2))]) (fun hm=>?_) ?_
  ·refine gX ?_
   refine br hm (fun hm=>?_) fun hm=>?_
   ·refine gX ?_
    exact jx true hm O
   ·refine gX ?_
    exact jx (ltI r1.2 (Int.ofNat p1.ins.length)) hm O
  ·clear hm;rintro v2 base h hm O
   refine gX ?_
   refine br hm (fun hm=>?_) fun hm=>?_
   ·refine gX ?_
    exact fe hm O
   ·refine gX ?_
    first|refine⟨.inr (.inr (rfl)),?_⟩|refine⟨.inr (.inl (by kernel_rfl)),?_⟩
    refine gX ?_
    first|refine⟨.inr (.inr (rfl)),?_⟩|refine⟨.inr (.inl (by kernel_rfl)),?_⟩
    refine gX ?_
    refine fg Tryz.func73 ?_;refine gX ?_
    refine fz ?_;refine gX ?_
    refine⟨.inl (Ext.refl _),?_⟩;refine gH ?_
    refine ca (cf_outside_walk hm O.has) fun r4 hm=>?_;refine gH ?_
    refine⟨.inl (Ext.refl _),?_⟩;refine gH ?_
    refine gX ?_
    refine br hm (fun hm=>?_) fun hm=>?_
    ·refine gX ?_
     exact fe hm O
    ·refine jn hm 53 [2,3] (fun s=>s) (fun v5 h=>Own vars h0 [] h) (fun v5=>[(38,(.bool v5))]) (fun hm=>?_) ?_
     ·refine gX ?_
      refine br hm (fun hm=>?_) fun hm=>?_
      ·refine gX ?_
       refine ca (cf_notTri_walk hm O.has) fun r7 hm=>?_;refine gH ?_
       exact jx r7 hm O
      ·refine gX ?_
       exact jx false hm O
     ·clear hm;rintro v5 base h hm O
      refine gX ?_
      refine br hm (fun hm=>?_) fun hm=>?_
      ·refine gX ?_
       exact fe hm O
      ·refine gX ?_
       refine ca (netlists_bit_walk hm O.has) fun r8 hm=>?_;refine gX ?_
       refine br hm (fun hm=>?_) fun hm=>?_
       ·refine gX ?_
        exact fe hm O
       ·refine gX ?_
        exact fe hm O
def netlists_memory_wp (p0:Circ) (p1:Memo) (K:Nat→Prop):Prop :=
 joinW (α:=Bool) (fun k2=>((eqN p1.addr.length 0)=true→k2 true)∧((eqN p1.addr.length 0)=false→((ltN 8 p1.addr.length)=true→k2 true)∧((ltN 8 p1.addr.length)=false→((eqN p1.data.length 0)=true→k2 true)∧((eqN p1.data.length 0)=false→k2 (ltN 32 p1.data.length))))) (fun v1=>(v1=true→K 8)∧(v1=false→joinW (α:=Bool) (fun k4=>cf_outside_wp p1.addr p0 (fun r5=>(r5=true→k4 true)∧(r5=false→cf_outside_wp p1.data p0 (fun r6=>(r6=true→k4 true)∧(r6=false→((ltN p1.write 0)=true→k4 true)∧((ltN p1.write 0)=false→k4 (!ltN p1.write p0.nodes.length))))))) (fun v3=>(v3=true→K 1)∧(v3=false→K 0))))
theorem netlists_memory_walk {p0:Circ}{p1:Memo}{K:Nat→Prop} (hm:netlists_memory_wp p0 p1 K) {h0:Heap} (hB:HasB vars h0):∃ r,K r∧CallD Tryz.prog NG 130 ⟨[encCirc p0,encMem p1]⟩ h0 (i64 r) h0:=by
 unfold netlists_memory_wp at hm
 refine fw Tryz.func130 hB (enc:=i64) (fun r=>PureV.flat rfl) fun O=>?_;conv=>whnf
 refine gX ?_
 refine fz ?_;refine gH ?_
 refine fz ?_;refine gX ?_
 refine fg Tryz.func73 ?_;refine gX ?_
 refine fz ?_;refine gH ?_
 apply Cs;conv=>whnf
 apply Cs;refine gH ?_
 apply Cs;conv=>whnf
 refine gH ?_
 apply Cs;conv=>whnf
 apply Cs;conv=>whnf
 refine jn hm 37 [3,6] (fun s=>s) (fun v1 h=>Own vars h0 [] h) (fun v1=>[(9,(.bool v1))]) (fun hm=>?_) ?_
 ·refine gX ?_
  refine fg Tryz.func143 ?_;refine gX ?_
  refine br hm (fun hm=>?_) fun hm=>?_
  ·refine gX ?_
   refine bt ?_;refine gH ?_
   exact jx true hm O
  ·refine gX ?_
   refine br hm (fun hm=>?_) fun hm=>?_
   ·refine gX ?_
    exact jx true hm O
   ·refine gX ?_
    refine fg Tryz.func143 ?_;refine gX ?_
    refine br hm (fun hm=>?_) fun hm=>?_
    ·refine gX ?_
     exact jx true hm O
    ·refine gX ?_
     exact jx (ltN 32 p1.data.length) hm O
 ·clear hm;rintro v1 base h hm O
  refine gX ?_
  refine br hm (fun hm=>?_) fun hm=>?_
  ·refine gX ?_
   exact fe hm O
  ·refine jn hm 37 [] (fun s=>s) (fun v3 h=>Own vars h0 [] h) (fun v3=>[(20,(.bool v3))]) (fun hm=>?_) ?_
   ·refine gX ?_
    refine ca (cf_outside_walk hm O.has) fun r5 hm=>?_;refine gH ?_
    refine br hm (fun hm=>?_) fun hm=>?_
    ·refine gX ?_
     refine bt ?_;refine gH ?_
     exact jx true hm O
    ·refine gX ?_
     refine ca (cf_outside_walk hm O.has) fun r6 hm=>?_;refine gH ?_
     refine br hm (fun hm=>?_) fun hm=>?_
     ·refine gX ?_
      exact jx true hm O
     ·refine gX ?_
      refine fg Tryz.func101 ?_;refine gX ?_
      refine br hm (fun hm=>?_) fun hm=>?_
      ·refine gX ?_
       exact jx true hm O
      ·refine gX ?_
       exact jx (!ltN p1.write p0.nodes.length) hm O
   ·clear hm;rintro v3 base h hm O
    refine gX ?_
    refine br hm (fun hm=>?_) fun hm=>?_
    ·refine gX ?_
     exact fe hm O
    ·refine gX ?_
     exact fe hm O
def netlists_shape_wp (p0:Circ) (K:Nat→Prop):Prop :=
 joinW (α:=Bool) (fun k2=>((ltN 16384 p0.nodes.length)=true→k2 true)∧((ltN 16384 p0.nodes.length)=false→((ltN 16 p0.mems.length)=true→k2 true)∧((ltN 16 p0.mems.length)=false→k2 (ltN 16384 p0.outs.length)))) (fun v1=>(v1=true→K 3)∧(v1=false→((neN p0.names.length p0.nodes.length)=true→K 8)∧((neN p0.names.length p0.nodes.length)=false→joinW (α:=Unit) (fun k3=>loopW (S:=Nat) (fun v4 nx5=>((ltN v4 p0.nodes.length)=true→∃ x6,p0.nodes[v4]?=some x6∧netlists_node_wp p0 x6 (fun r9=>((neN r9 0)=true→K r9)∧((neN r9 0)=false→v4+1<2 ^ 63∧nx5 (v4+1))))∧((ltN v4 p0.nodes.length)=false→k3 ())) 0) (fun _=>netlists_names_wp p0 (fun r10=>((neN r10 0)=true→K r10)∧((neN r10 0)=false→joinW (α:=Unit) (fun k11=>loopW (S:=Nat) (fun v12 nx13=>((ltN v12 p0.mems.length)=true→∃ x14,p0.mems[v12]?=some x14∧netlists_memory_wp p0 x14 (fun r17=>((neN r17 0)=true→K r17)∧((neN r17 0)=false→v12+1<2 ^ 63∧nx13 (v12+1))))∧((ltN v12 p0.mems.length)=false→k11 ())) 0) (fun _=>cf_outside_wp p0.outs p0 (fun r18=>(r18=true→K 1)∧(r18=false→K 0)))))))))
theorem netlists_shape_walk {p0:Circ}{K:Nat→Prop} (hm:netlists_shape_wp p0 K) {h0:Heap} (hB:HasB vars h0):∃ r,K r∧CallD Tryz.prog NG 105 ⟨[encCirc p0]⟩ h0 (i64 r) h0:=by
 unfold netlists_shape_wp at hm
 refine fw Tryz.func105 hB (enc:=i64) (fun r=>PureV.flat rfl) fun O=>?_;conv=>whnf
 refine gX ?_
 refine fz ?_;refine gH ?_
 apply Cs;conv=>whnf
 apply Cs;conv=>whnf
 refine jn hm 73 [1] (fun s=>s) (fun v1 h=>Own vars h0 [] h) (fun v1=>[(10,(.bool v1))]) (fun hm=>?_) ?_
 ·refine gX ?_
  refine br hm (fun hm=>?_) fun hm=>?_
  ·refine gX ?_
   refine bt ?_;refine gH ?_
   exact jx true hm O
  ·refine gX ?_
   refine br hm (fun hm=>?_) fun hm=>?_
   ·refine gX ?_
    exact jx true hm O
   ·refine gX ?_
    exact jx (ltN 16384 p0.outs.length) hm O
 ·clear hm;rintro v1 base h hm O
  refine gX ?_
  refine br hm (fun hm=>?_) fun hm=>?_
  ·refine gX ?_
   exact fe hm O
  ·refine gX ?_
   refine br hm (fun hm=>?_) fun hm=>?_
   ·refine gX ?_
    exact fe hm O
   ·apply Cs;conv=>whnf
    refine jn hm 73 [1] (fun s=>s) (fun _ h=>Own vars h0 [] h) (fun _=>[]) (fun hm=>?_) ?_
    ·refine gX ?_
     refine lw 73 [1,36,37] (σ:=Nat) (fun s=>s) (fun v4 h=>Own vars h0 [] h) (fun v4=>[(38,(i64 v4))]) 0 hm O ?_
     clear hm;rintro v4 nx5 base h hm O
     refine gX ?_
     refine br hm (fun hm=>?_) fun hm=>?_
     ·refine gX ?_
      refine atF hm fun x6 hx6 hm=>?_;refine gH ?_
      refine O.new (anew_alloc (l:=[(n8 0),(.slice none 0 0),(i64 0),(i64 0)]) rfl rfl rfl) fun g7 h O=>?_;refine gH ?_
      refine O.stC 4 (.head _) [(n8 x6.kind),((encL 1 i64) x6.ins),(i64 x6.mem),(i64 x6.bit)] fun h O=>?_;refine gX ?_
      refine ldA (O.at (.head _)) ?_;refine gH ?_
      refine ca (netlists_node_walk hm O.has) fun r9 hm=>?_;refine gX ?_
      refine br hm (fun hm=>?_) fun hm=>?_
      ·refine gX ?_
       exact fe hm O
      ·refine gX ?_
       refine aAdd hm fun hm=>?_;refine gH ?_
       exact jx (v4+1) hm (O.sel [] (by decide))
     ·refine gX ?_
      exact jx () hm O
    ·clear hm;rintro _ base h hm O
     refine gX ?_
     refine ca (netlists_names_walk hm O.has) fun r10 hm=>?_;refine gX ?_
     refine br hm (fun hm=>?_) fun hm=>?_
     ·refine gX ?_
      exact fe hm O
     ·apply Cs;conv=>whnf
      refine jn hm 73 [1] (fun s=>s) (fun _ h=>Own vars h0 [] h) (fun _=>[]) (fun hm=>?_) ?_
      ·refine gX ?_
       refine lw 73 [1,55,56] (σ:=Nat) (fun s=>s) (fun v12 h=>Own vars h0 [] h) (fun v12=>[(57,(i64 v12))]) 0 hm O ?_
       clear hm;rintro v12 nx13 base h hm O
       refine gX ?_
       refine br hm (fun hm=>?_) fun hm=>?_
       ·refine gX ?_
        refine atF hm fun x14 hx14 hm=>?_;refine gH ?_
        refine O.new (anew_alloc (l:=[(.slice none 0 0),(.slice none 0 0),(i64 0)]) rfl rfl rfl) fun g15 h O=>?_;refine gH ?_
        refine O.stC 3 (.head _) [((encL 1 i64) x14.addr),((encL 1 i64) x14.data),(i64 x14.write)] fun h O=>?_;refine gX ?_
        refine ldA (O.at (.head _)) ?_;refine gH ?_
        refine ca (netlists_memory_walk hm O.has) fun r17 hm=>?_;refine gX ?_
        refine br hm (fun hm=>?_) fun hm=>?_
        ·refine gX ?_
         exact fe hm O
        ·refine gX ?_
         refine aAdd hm fun hm=>?_;refine gH ?_
         exact jx (v12+1) hm (O.sel [] (by decide))
       ·refine gX ?_
        exact jx () hm O
      ·clear hm;rintro _ base h hm O
       refine gX ?_
       first|refine⟨.inr (.inr (rfl)),?_⟩|refine⟨.inr (.inl (by kernel_rfl)),?_⟩
       refine gX ?_
       first|refine⟨.inr (.inr (rfl)),?_⟩|refine⟨.inr (.inl (by kernel_rfl)),?_⟩
       refine gX ?_
       refine fg Tryz.func73 ?_;refine gX ?_
       refine fz ?_;refine gX ?_
       refine⟨.inl (Ext.refl _),?_⟩;refine gH ?_
       refine ca (cf_outside_walk hm O.has) fun r18 hm=>?_;refine gH ?_
       refine⟨.inl (Ext.refl _),?_⟩;refine gH ?_
       refine gX ?_
       refine br hm (fun hm=>?_) fun hm=>?_
       ·refine gX ?_
        exact fe hm O
       ·refine gX ?_
        exact fe hm O
def netlists_Of_wp (p0:Circ) (p1:(List Nat)) (K:(List Nat)→Prop):Prop :=
 joinW (α:=(List Nat)) (fun k5=>loopW (S:=((List Nat)×Nat)) (fun (v7,v8) nx10=>((ltN v8 p0.nodes.length)=true→joinW (α:=(List Nat)) (fun k14=>∃ x15,p0.nodes[v8]?=some x15∧sl_ContainsK_wp p1 x15.kind (fun r18=>(r18=true→(v7.length+([v8]:(List Nat)).length)*8≤2 ^ 47∧k14 (v7++([v8]:(List Nat))))∧(r18=false→k14 v7))) (fun v12=>v8+1<2 ^ 63∧nx10 (v12,(v8+1))))∧((ltN v8 p0.nodes.length)=false→k5 v7)) (([]:List Nat),0)) (fun v3=>K v3)
theorem netlists_Of_walk {p0:Circ}{p1:(List Nat)}{K:(List Nat)→Prop} (hm:netlists_Of_wp p0 p1 K) {h0:Heap} (hB:HasB vars h0):∃ r,K r∧CallD Tryz.prog NG 47 ⟨[encCirc p0,(encL 1 n8) p1]⟩ h0 ((encL 1 i64) r) h0:=by
 unfold netlists_Of_wp at hm
 refine fw Tryz.func47 hB (enc:=(encL 1 i64)) (fun r=>pureL (fun _=>AllPure.cons (PureV.flat rfl) AllPure.nil)) fun O=>?_;conv=>whnf
 refine gX ?_
 refine fz ?_;refine gH ?_
 apply Cs;conv=>whnf
 apply Cs;refine gH ?_
 have O:=O.addNil (.cells (flatC ((([]:List Nat)).map i64)) false)
 refine jn (σ:=(List Nat)×Option Nat) hm 27 [] (fun s=>s.1) (fun (v3,a2) h=>(a2=none→v3=[])∧Own vars h0 [(a2,.cells (flatC (v3.map i64)) false)] h) (fun (v3,a2)=>[(5,(growV 1 a2 (v3.map i64)))]) (fun hm=>?_) ?_
 ·refine gX ?_
  refine lw 27 [1,9,10] (σ:=((List Nat)×Nat)×Option Nat) (fun s=>s.1) (fun ((v7,v8),a6) h=>(a6=none→v7=[])∧Own vars h0 [(a6,.cells (flatC (v7.map i64)) false)] h) (fun ((v7,v8),a6)=>[(5,(growV 1 a6 (v7.map i64))),(11,(i64 v8))]) ((([]:List Nat),0),none) hm ⟨(fun _=>rfl),O⟩ ?_
  clear hm;rintro⟨⟨v7,v8⟩,a6⟩ nx10 base h hm ⟨ha9,O⟩
  refine gX ?_
  refine br hm (fun hm=>?_) fun hm=>?_
  ·apply Cs;conv=>whnf
   refine jn (σ:=(List Nat)×Option Nat) hm 27 [1,9,10,11] (fun s=>s.1) (fun (v12,a11) h=>(a11=none→v12=[])∧Own vars h0 [(a11,.cells (flatC (v12.map i64)) false)] h) (fun (v12,a11)=>[(5,(growV 1 a11 (v12.map i64)))]) (fun hm=>?_) ?_
   ·refine gX ?_
    refine atF hm fun x15 hx15 hm=>?_;refine gH ?_
    refine O.new (anew_alloc (l:=[(n8 0),(.slice none 0 0),(i64 0),(i64 0)]) rfl rfl rfl) fun g16 h O=>?_;refine gH ?_
    refine O.stC 4 (.head _) [(n8 x15.kind),((encL 1 i64) x15.ins),(i64 x15.mem),(i64 x15.bit)] fun h O=>?_;refine gX ?_
    refine ca (sl_ContainsK_walk hm O.has) fun r18 hm=>?_;refine gX ?_
    refine br hm (fun hm=>?_) fun hm=>?_
    ·refine gX ?_
     refine fz ?_;refine gH ?_
     refine O.apL (enc:=i64) (l:=v7) (new:=([v8]:(List Nat))) 1 (.tail _ (.head _)) ha9 hm fun a19 h ha20 O hm=>?_;refine gH ?_
     exact jx ((v7++([v8]:(List Nat))),a19) hm ⟨ha20,(O.sel [1] (by decide))⟩
    ·refine gX ?_
     exact jx (v7,a6) hm ⟨ha9,(O.sel [1] (by decide))⟩
   ·clear hm;rintro⟨v12,a11⟩ base h hm ⟨ha13,O⟩
    refine gX ?_
    refine aAdd hm fun hm=>?_;refine gH ?_
    exact jx ((v12,(v8+1)),a11) hm ⟨ha13,O⟩
  ·refine gX ?_
   exact jx (v7,a6) hm ⟨ha9,O⟩
 ·clear hm;rintro⟨v3,a2⟩ base h hm ⟨ha4,O⟩
  refine gX ?_
  refine fg Tryz.func72 ?_;refine gX ?_
  refine clipK (s:=1) (enc:=i64) (l:=v3) (n:=v3.length) (m:=v3.length) rfl rfl rfl rfl rfl rfl rfl ?_;refine gX ?_
  exact⟨v3,hm,O.ext,fun h2 F=>O.clipL F (Nat.le_refl _) (.head _) ha4 (fun _=>rfl)⟩
def netlists_Levels_wp (p0:Circ) (K:((List Nat)×Nat)→Prop):Prop :=
 netlists_shape_wp p0 (fun r1=>((neN r1 0)=true→K ([],r1))∧((neN r1 0)=false→8*p0.nodes.length≤2 ^ 48∧p0.nodes.length<2 ^ 63∧8*p0.nodes.length≤2 ^ 48∧p0.nodes.length<2 ^ 63∧joinW (α:=((List Nat)×(List Nat))) (fun k11=>loopW (S:=((List Nat)×(List Nat)×Nat)) (fun (v12,v14,v15) nx17=>((ltN v15 p0.nodes.length)=true→joinW (α:=((List Nat)×(List Nat))) (fun k22=>∃ x23,p0.nodes[v15]?=some x23∧joinW (α:=(List Nat)) (fun k28=>netlists_Comb_wp x23.kind (fun r29=>(r29=true→v15<p0.nodes.length∧∃ x30,v12[v15]?=some x30∧k28 (v12.set v15 x23.ins.length))∧(r29=false→k28 v12))) (fun v26=>v15<p0.nodes.length∧∃ x31,v26[v15]?=some x31∧((eqN x31 0)=true→(v14.length+([v15]:(List Nat)).length)*8≤2 ^ 47∧k22 (v26,(v14++([v15]:(List Nat)))))∧((eqN x31 0)=false→k22 (v26,v14)))) (fun (v18,v20)=>v15+1<2 ^ 63∧nx17 (v18,v20,(v15+1))))∧((ltN v15 p0.nodes.length)=false→k11 (v12,v14))) ((List.replicate p0.nodes.length (0:Nat)),([]:List Nat),0)) (fun (v7,v9)=>netlists_Fanout_wp p0 (fun r34=>joinW (α:=((List Nat)×Nat)) (fun k37=>loopW (S:=((List Nat)×(List Nat)×(List Nat)×Nat)) (fun (v38,v39,v41,v42) nx44=>((ltN v42 v41.length)=true→∃ x45,v41[v42]?=some x45∧v42+1<2 ^ 63∧∃ x47,r34[x45]?=some x47∧((eqN x47.length 0)=true→nx44 (v38,v39,v41,(v42+1)))∧((eqN x47.length 0)=false→∃ x48,r34[x45]?=some x48∧loopW (S:=((List Nat)×(List Nat)×(List Nat)×Nat)) (fun (v49,v50,v52,v53) nx55=>((ltN v53 x48.length)=true→joinW (α:=((List Nat)×(List Nat)×(List Nat))) (fun k61=>∃ x62,x48[v53]?=some x62∧∃ x65,p0.nodes[x62.node]?=some x65∧netlists_Comb_wp x65.kind (fun r66=>((!r66)=true→k61 (v49,v50,v52))∧((!r66)=false→x62.node<p0.nodes.length∧∃ x67,v49[x62.node]?=some x67∧x45<p0.nodes.length∧∃ x68,v49[x45]?=some x68∧x68+1<2 ^ 63∧x62.node<p0.nodes.length∧∃ x69,v49[x62.node]?=some x69∧x62.node<p0.nodes.length∧∃ x70,v50[x62.node]?=some x70∧1≤x70∧x70<2 ^ 63∧x62.node<p0.nodes.length∧∃ x71,v50[x62.node]?=some x71∧x62.node<p0.nodes.length∧∃ x72,(v50.set x62.node (x70-1))[x62.node]?=some x72∧((eqN x72 0)=true→(v52.length+([x62.node]:(List Nat)).length)*8≤2 ^ 47∧k61 ((v49.set x62.node (max x67 (x68+1))),(v50.set x62.node (x70-1)),(v52++([x62.node]:(List Nat)))))∧((eqN x72 0)=false→k61 ((v49.set x62.node (max x67 (x68+1))),(v50.set x62.node (x70-1)),v52))))) (fun (v56,v57,v59)=>v53+1<2 ^ 63∧nx55 (v56,v57,v59,(v53+1))))∧((ltN v53 x48.length)=false→nx44 (v49,v50,v52,(v42+1)))) (v38,v39,v41,0)))∧((ltN v42 v41.length)=false→k37 (v38,v42))) ((List.replicate p0.nodes.length (0:Nat)),v7,v9,0)) (fun (v35,v36)=>((ltN v36 p0.nodes.length)=true→K ([],6))∧((ltN v36 p0.nodes.length)=false→p0.nodes.length=v35.length∧K (v35,0)))))))
theorem netlists_Levels_walk {p0:Circ}{K:((List Nat)×Nat)→Prop} (hm:netlists_Levels_wp p0 K) {h0:Heap} (hB:HasB vars h0):∃ r,K r∧CallD Tryz.prog NG 78 ⟨[encCirc p0]⟩ h0 ((fun (r:((List Nat)×Nat))=>Value.tuple ⟨[(encL 1 i64) (r.1),i64 (r.2)]⟩) r) h0:=by
 unfold netlists_Levels_wp at hm
 refine fw Tryz.func78 hB (enc:=(fun (r:((List Nat)×Nat))=>Value.tuple ⟨[(encL 1 i64) (r.1),i64 (r.2)]⟩)) (fun r=>PureV.tup (AllPure.cons (pureL (fun _=>AllPure.cons (PureV.flat rfl) AllPure.nil)) (AllPure.cons (PureV.flat rfl) (AllPure.nil)))) fun O=>?_;conv=>whnf
 refine gX ?_
 refine fz ?_;refine gX ?_
 refine ca (netlists_shape_walk hm O.has) fun r1 hm=>?_;refine gX ?_
 refine br hm (fun hm=>?_) fun hm=>?_
 ·refine gX ?_
  exact⟨([],r1),hm,O.ext,fun h2 F=>VLe.tup (LLe.cons (VLe.nil _ _) (LLe.cons (VLe.refl _ _) (LLe.nil _)))⟩
 ·refine gX ?_
  refine O.mkL (enc:=i64) 8 1 0 hm fun g2 h O hm=>?_;refine gX ?_
  refine O.mkL (enc:=i64) 8 1 0 hm fun g4 h O hm=>?_;refine gH ?_
  apply Cs;conv=>whnf
  apply Cs;refine gH ?_
  have O:=O.addNil (.cells (flatC ((([]:List Nat)).map i64)) false)
  refine jn (σ:=((List Nat)×(List Nat))×Option Nat) hm 131 [1,5,6] (fun s=>s.1) (fun ((v7,v9),a8) h=>(a8=none→v9=[])∧Own vars h0 [((some g2),.cells (flatC ((List.replicate p0.nodes.length (0:Nat)).map i64)) false),((some g4),.cells (flatC (v7.map i64)) false),(a8,.cells (flatC (v9.map i64)) false)] h) (fun ((v7,v9),a8)=>[(7,(growV 1 a8 (v9.map i64)))]) (fun hm=>?_) ?_
  ·refine gX ?_
   refine lw 131 [1,5,6,29,30] (σ:=((List Nat)×(List Nat)×Nat)×Option Nat) (fun s=>s.1) (fun ((v12,v14,v15),a13) h=>(a13=none→v14=[])∧Own vars h0 [((some g2),.cells (flatC ((List.replicate p0.nodes.length (0:Nat)).map i64)) false),((some g4),.cells (flatC (v12.map i64)) false),(a13,.cells (flatC (v14.map i64)) false)] h) (fun ((v12,v14,v15),a13)=>[(7,(growV 1 a13 (v14.map i64))),(31,(i64 v15))]) (((List.replicate p0.nodes.length (0:Nat)),([]:List Nat),0),none) hm ⟨(fun _=>rfl),(O.sel [2,1,0] (by decide))⟩ ?_
   clear hm;rintro⟨⟨v12,v14,v15⟩,a13⟩ nx17 base h hm ⟨ha16,O⟩
   refine gX ?_
   refine br hm (fun hm=>?_) fun hm=>?_
   ·apply Cs;conv=>whnf
    refine jn (σ:=((List Nat)×(List Nat))×Option Nat) hm 131 [1,5,6,29,30,31] (fun s=>s.1) (fun ((v18,v20),a19) h=>(a19=none→v20=[])∧Own vars h0 [((some g2),.cells (flatC ((List.replicate p0.nodes.length (0:Nat)).map i64)) false),((some g4),.cells (flatC (v18.map i64)) false),(a19,.cells (flatC (v20.map i64)) false)] h) (fun ((v18,v20),a19)=>[(7,(growV 1 a19 (v20.map i64)))]) (fun hm=>?_) ?_
    ·refine gX ?_
     refine atF hm fun x23 hx23 hm=>?_;refine gH ?_
     refine O.new (anew_alloc (l:=[(n8 0),(.slice none 0 0),(i64 0),(i64 0)]) rfl rfl rfl) fun g24 h O=>?_;refine gH ?_
     refine O.stC 4 (.head _) [(n8 x23.kind),((encL 1 i64) x23.ins),(i64 x23.mem),(i64 x23.bit)] fun h O=>?_;refine gH ?_
     refine jn hm 131 [1,5,6,7,8,29,30,31] (fun s=>s) (fun v26 h=>(a13=none→v14=[])∧Own vars h0 [((some g2),.cells (flatC ((List.replicate p0.nodes.length (0:Nat)).map i64)) false),((some g4),.cells (flatC (v26.map i64)) false),(a13,.cells (flatC (v14.map i64)) false)] h) (fun v26=>[]) (fun hm=>?_) ?_
     ·refine gX ?_
      refine ca (netlists_Comb_walk hm O.has) fun r29 hm=>?_;refine gX ?_
      refine br hm (fun hm=>?_) fun hm=>?_
      ·refine gX ?_
       refine ix 1 hm fun x30 hx30 hm=>?_;refine gH ?_
       refine O.stE 1 (.tail _ (.tail _ (.head _))) hx30 x23.ins.length fun h O=>?_;refine gH ?_
       exact jx (v12.set v15 x23.ins.length) hm ⟨ha16,(O.sel [1,2,3] (by decide))⟩
      ·refine gX ?_
       exact jx v12 hm ⟨ha16,(O.sel [1,2,3] (by decide))⟩
     ·clear hm;rintro v26 base h hm ⟨ha27,O⟩
      refine gX ?_
      refine ix 1 hm fun x31 hx31 hm=>?_;refine gH ?_
      refine ldE (s:=1) (i:=0) (O.at (.tail _ (.head _))) hx31 ?_;refine gX ?_
      refine br hm (fun hm=>?_) fun hm=>?_
      ·refine gX ?_
       refine fz ?_;refine gH ?_
       refine O.apL (enc:=i64) (l:=v14) (new:=([v15]:(List Nat))) 1 (.tail _ (.tail _ (.head _))) ha27 hm fun a32 h ha33 O hm=>?_;refine gH ?_
       exact jx ((v26,(v14++([v15]:(List Nat)))),a32) hm ⟨ha33,O⟩
      ·refine gX ?_
       exact jx ((v26,v14),a13) hm ⟨ha27,O⟩
    ·clear hm;rintro⟨⟨v18,v20⟩,a19⟩ base h hm ⟨ha21,O⟩
     refine gX ?_
     refine aAdd hm fun hm=>?_;refine gH ?_
     exact jx ((v18,v20,(v15+1)),a19) hm ⟨ha21,O⟩
   ·refine gX ?_
    exact jx ((v12,v14),a13) hm ⟨ha16,O⟩
  ·clear hm;rintro⟨⟨v7,v9⟩,a8⟩ base h hm ⟨ha10,O⟩
   refine gX ?_
   refine ca (netlists_Fanout_walk hm O.has) fun r34 hm=>?_;refine gH ?_
   apply Cs;conv=>whnf
   apply Cs;refine gH ?_
   apply Cs;conv=>whnf
   apply Cs;conv=>whnf
   refine jn hm 131 [1,5] (fun s=>s) (fun (v35,v36) h=>Own vars h0 [((some g2),.cells (flatC (v35.map i64)) false)] h) (fun (v35,v36)=>[(11,(i64 v36))]) (fun hm=>?_) ?_
   ·refine gX ?_
    refine lw 131 [1,5,6,10] (σ:=((List Nat)×(List Nat)×(List Nat)×Nat)×Option Nat) (fun s=>s.1) (fun ((v38,v39,v41,v42),a40) h=>(a40=none→v41=[])∧Own vars h0 [((some g2),.cells (flatC (v38.map i64)) false),((some g4),.cells (flatC (v39.map i64)) false),(a40,.cells (flatC (v41.map i64)) false)] h) (fun ((v38,v39,v41,v42),a40)=>[(7,(growV 1 a40 (v41.map i64))),(11,(i64 v42))]) (((List.replicate p0.nodes.length (0:Nat)),v7,v9,0),a8) hm ⟨ha10,O⟩ ?_
    clear hm;rintro⟨⟨v38,v39,v41,v42⟩,a40⟩ nx44 base h hm ⟨ha43,O⟩
    refine gX ?_
    refine br hm (fun hm=>?_) fun hm=>?_
    ·refine gX ?_
     obtain⟨x45,hx45,hm⟩:=hm
     have h9:=hm
     obtain⟨g46,rfl⟩:=addr_some ha43 hx45
     replace hm:=h9
     refine indexK (s:=1) (j:=v42) rfl rfl rfl rfl (by rw[List.length_map];exact lt_of_get hx45) ?_;refine gH ?_
     refine ldE (s:=1) (i:=0) (O.at (.tail _ (.tail _ (.head _)))) hx45 ?_;refine gX ?_
     refine aAdd hm fun hm=>?_;refine gX ?_
     refine atF hm fun x47 hx47 hm=>?_;refine gX ?_
     refine br hm (fun hm=>?_) fun hm=>?_
     ·refine gX ?_
      exact jx ((v38,v39,v41,(v42+1)),(some g46)) hm ⟨someNone,O⟩
     ·refine gX ?_
      refine atF hm fun x48 hx48 hm=>?_;refine gX ?_
      refine lw 131 [1,5,6,10,11,12,76,77] (σ:=((List Nat)×(List Nat)×(List Nat)×Nat)×Option Nat) (fun s=>s.1) (fun ((v49,v50,v52,v53),a51) h=>(a51=none→v52=[])∧Own vars h0 [((some g2),.cells (flatC (v49.map i64)) false),((some g4),.cells (flatC (v50.map i64)) false),(a51,.cells (flatC (v52.map i64)) false)] h) (fun ((v49,v50,v52,v53),a51)=>[(7,(growV 1 a51 (v52.map i64))),(78,(i64 v53))]) ((v38,v39,v41,0),(some g46)) hm ⟨someNone,O⟩ ?_
      clear hm;rintro⟨⟨v49,v50,v52,v53⟩,a51⟩ nx55 base h hm ⟨ha54,O⟩
      refine gX ?_
      refine br hm (fun hm=>?_) fun hm=>?_
      ·apply Cs;conv=>whnf
       refine jn (σ:=((List Nat)×(List Nat)×(List Nat))×Option Nat) hm 131 [1,5,6,10,11,12,76,77,78] (fun s=>s.1) (fun ((v56,v57,v59),a58) h=>(a58=none→v59=[])∧Own vars h0 [((some g2),.cells (flatC (v56.map i64)) false),((some g4),.cells (flatC (v57.map i64)) false),(a58,.cells (flatC (v59.map i64)) false)] h) (fun ((v56,v57,v59),a58)=>[(7,(growV 1 a58 (v59.map i64)))]) (fun hm=>?_) ?_
       ·refine gX ?_
        refine atF hm fun x62 hx62 hm=>?_;refine gH ?_
        refine O.new (anew_alloc (l:=[(i64 0),(i64 0)]) rfl rfl rfl) fun g63 h O=>?_;refine gH ?_
        refine O.stC 2 (.head _) [(i64 x62.node),(i64 x62.pin)] fun h O=>?_;refine gX ?_
        refine atF hm fun x65 hx65 hm=>?_;refine gH ?_
        refine ca (netlists_Comb_walk hm O.has) fun r66 hm=>?_;refine gX ?_
        refine br hm (fun hm=>?_) fun hm=>?_
        ·refine gX ?_
         exact jx ((v49,v50,v52),a51) hm ⟨ha54,(O.sel [1,2,3] (by decide))⟩
        ·refine gX ?_
         refine ix 1 hm fun x67 hx67 hm=>?_;refine gH ?_
         refine⟨_,loadK rfl (O.at (.tail _ (.head _))) rfl (cell_map (enc:=i64) (s:=1) (k:=0) (fun _=>rfl) hx67 rfl),?_⟩;refine gH ?_
         refine ix 1 hm fun x68 hx68 hm=>?_;refine gH ?_
         refine⟨_,loadK rfl (O.at (.tail _ (.head _))) rfl (cell_map (enc:=i64) (s:=1) (k:=0) (fun _=>rfl) hx68 rfl),?_⟩;refine gH ?_
         refine aAdd hm fun hm=>?_;refine gH ?_
         refine⟨_,maxK (a:=x67) (b:=(x68+1)) rfl rfl,?_⟩;refine gH ?_
         refine ix 1 hm fun x69 hx69 hm=>?_;refine gH ?_
         refine O.stE 1 (.tail _ (.head _)) hx69 (max x67 (x68+1)) fun h O=>?_;refine gH ?_
         refine gX ?_
         refine ix 1 hm fun x70 hx70 hm=>?_;refine gH ?_
         refine ldE (s:=1) (i:=0) (O.at (.tail _ (.tail _ (.head _)))) hx70 ?_;refine gH ?_
         refine aSub hm fun hm=>?_;refine gH ?_
         refine ix 1 hm fun x71 hx71 hm=>?_;refine gH ?_
         refine O.stE 1 (.tail _ (.tail _ (.head _))) hx71 (x70-1) fun h O=>?_;refine gX ?_
         refine ix 1 hm fun x72 hx72 hm=>?_;refine gH ?_
         refine ldE (s:=1) (i:=0) (O.at (.tail _ (.tail _ (.head _)))) hx72 ?_;refine gX ?_
         refine br hm (fun hm=>?_) fun hm=>?_
         ·refine gX ?_
          refine fz ?_;refine gH ?_
          refine O.apL (enc:=i64) (l:=v52) (new:=([x62.node]:(List Nat))) 1 (.tail _ (.tail _ (.tail _ (.head _)))) ha54 hm fun a73 h ha74 O hm=>?_;refine gH ?_
          exact jx (((v49.set x62.node (max x67 (x68+1))),(v50.set x62.node (x70-1)),(v52++([x62.node]:(List Nat)))),a73) hm ⟨ha74,(O.sel [1,2,3] (by decide))⟩
         ·refine gX ?_
          exact jx (((v49.set x62.node (max x67 (x68+1))),(v50.set x62.node (x70-1)),v52),a51) hm ⟨ha54,(O.sel [1,2,3] (by decide))⟩
       ·clear hm;rintro⟨⟨v56,v57,v59⟩,a58⟩ base h hm ⟨ha60,O⟩
        refine gX ?_
        refine aAdd hm fun hm=>?_;refine gH ?_
        exact jx ((v56,v57,v59,(v53+1)),a58) hm ⟨ha60,O⟩
      ·refine gX ?_
       exact jx ((v49,v50,v52,(v42+1)),a51) hm ⟨ha54,O⟩
    ·refine gX ?_
     exact jx (v38,v42) hm (O.sel [0] (by decide))
   ·clear hm;rintro⟨v35,v36⟩ base h hm O
    refine gX ?_
    refine br hm (fun hm=>?_) fun hm=>?_
    ·refine gX ?_
     exact⟨([],6),hm,O.ext,fun h2 F=>VLe.tup (LLe.cons (VLe.nil _ _) (LLe.cons (VLe.refl _ _) (LLe.nil _)))⟩
    ·refine gX ?_
     obtain⟨hn75,hm⟩:=hm
     exact⟨(v35,0),hm,O.ext,fun h2 F=>VLe.tup (LLe.cons (O.flatL F (Nat.le_refl _) (.head _) (fun _=>rfl) hn75) (LLe.cons (VLe.refl _ _) (LLe.nil _)))⟩
def netlists_Check_wp (p0:Circ) (K:Nat→Prop):Prop :=
 netlists_Levels_wp p0 (fun r1=>K r1.2)
theorem netlists_Check_walk {p0:Circ}{K:Nat→Prop} (hm:netlists_Check_wp p0 K) {h0:Heap} (hB:HasB vars h0):∃ r,K r∧CallD Tryz.prog NG 65 ⟨[encCirc p0]⟩ h0 (i64 r) h0:=by
 unfold netlists_Check_wp at hm
 refine fw Tryz.func65 hB (enc:=i64) (fun r=>PureV.flat rfl) fun O=>?_;conv=>whnf
 refine gX ?_
 refine fz ?_;refine gX ?_
 refine ca (netlists_Levels_walk hm O.has) fun r1 hm=>?_;refine gX ?_
 exact fe hm O
def cmp_isNaN_wp (p0:Nat) (K:Bool→Prop):Prop :=
 K (neN p0 p0)
theorem cmp_isNaN_walk {p0:Nat}{K:Bool→Prop} (hm:cmp_isNaN_wp p0 K) {h0:Heap} (hB:HasB vars h0):∃ r,K r∧CallD Tryz.prog NG 107 ⟨[i64 p0]⟩ h0 (Value.bool r) h0:=by
 unfold cmp_isNaN_wp at hm
 refine fw Tryz.func107 hB (enc:=Value.bool) (fun r=>PureV.flat rfl) fun O=>?_;conv=>whnf
 refine gX ?_
 exact fe hm O
set_option maxHeartbeats 8000000
def implies_Plain_wp (p0:Circ) (K:Nat→Prop):Prop :=
 netlists_Check_wp p0 (fun r1=>((neN r1 0)=true→K r1)∧((neN r1 0)=false→joinW (α:=Bool) (fun k3=>((ltN 0 p0.mems.length)=true→k3 true)∧((ltN 0 p0.mems.length)=false→netlists_Of_wp p0 ([12,13,15]:(List Nat)) (fun r4=>k3 (ltN 0 r4.length)))) (fun v2=>(v2=true→K 7)∧(v2=false→K 0))))
theorem implies_Plain_walk {p0:Circ}{K:Nat→Prop} (hm:implies_Plain_wp p0 K) {h0:Heap} (hB:HasB vars h0):∃ r,K r∧CallD Tryz.prog NG 31 ⟨[encCirc p0]⟩ h0 (i64 r) h0:=by
 unfold implies_Plain_wp at hm
 refine fw Tryz.func31 hB (enc:=i64) (fun r=>PureV.flat rfl) fun O=>?_;conv=>whnf
 refine gX ?_
 refine fz ?_;refine gX ?_
 refine ca (netlists_Check_walk hm O.has) fun r1 hm=>?_;refine gX ?_
 refine br hm (fun hm=>?_) fun hm=>?_
 ·refine gX ?_
  exact fe hm O
 ·apply Cs;conv=>whnf
  apply Cs;conv=>whnf
  refine jn hm 20 [] (fun s=>s) (fun v2 h=>Own vars h0 [] h) (fun v2=>[(19,(.bool v2))]) (fun hm=>?_) ?_
  ·refine gX ?_
   refine br hm (fun hm=>?_) fun hm=>?_
   ·refine gX ?_
    exact jx true hm O
   ·refine gX ?_
    refine fz ?_;refine gH ?_
    refine ca (netlists_Of_walk hm O.has) fun r4 hm=>?_;refine gH ?_
    exact jx (ltN 0 r4.length) hm O
  ·clear hm;rintro v2 base h hm O
   refine gX ?_
   refine br hm (fun hm=>?_) fun hm=>?_
   ·refine gX ?_
    exact fe hm O
   ·refine gX ?_
    exact fe hm O
def implies_free_wp (p0:Nat) (K:Bool→Prop):Prop :=
 ((eqN p0 0)=true→K true)∧((eqN p0 0)=false→K (eqN p0 14))
theorem implies_free_walk {p0:Nat}{K:Bool→Prop} (hm:implies_free_wp p0 K) {h0:Heap} (hB:HasB vars h0):∃ r,K r∧CallD Tryz.prog NG 43 ⟨[n8 p0]⟩ h0 (Value.bool r) h0:=by
 unfold implies_free_wp at hm
 refine fw Tryz.func43 hB (enc:=Value.bool) (fun r=>PureV.flat rfl) fun O=>?_;conv=>whnf
 refine gX ?_
 refine br hm (fun hm=>?_) fun hm=>?_
 ·refine gX ?_
  exact fe hm O
 ·refine gX ?_
  exact fe hm O
def work_put_wp (_nodes:List Node) (_names:List ByteArray) (_mems:List Memo) (_outs:List Nat) (fan:List (List Ln)) (nv:Nat) (vals:List Nat) (wait:List Nat) (n:Nat) (x:Nat) (K:(Bool×(List Nat)×(List Nat))→Prop):Prop :=
 joinW (α:=Bool) (fun k4=>((eqN x 2)=true→k4 true)∧((eqN x 2)=false→n<nv∧∃ x5,vals[n]?=some x5∧k4 (eqN x5 x))) (fun v1=>(v1=true→K (true,vals,wait))∧(v1=false→n<nv∧∃ x6,vals[n]?=some x6∧joinW (α:=(List Nat)) (fun k10=>((eqN x6 2)=true→k10 (vals.set n x))∧((eqN x6 2)=false→k10 vals)) (fun v7=>∃ x11,v7[n]?=some x11∧((!(eqN x11 x))=true→K (false,v7,wait))∧((!(eqN x11 x))=false→(wait.length+([n]:(List Nat)).length)*8≤2 ^ 47∧joinW (α:=(List Nat)) (fun k23=>∃ x24,fan[n]?=some x24∧loopW (S:=((List Nat)×Nat)) (fun (v28,v29) nx32=>((ltN v29 x24.length)=true→∃ x33,x24[v29]?=some x33∧(v28.length+([x33.node]:(List Nat)).length)*8≤2 ^ 47∧v29+1<2 ^ 63∧nx32 ((v28++([x33.node]:(List Nat))),(v29+1)))∧((ltN v29 x24.length)=false→k23 v28)) ((wait++([n]:(List Nat))),0)) (fun v20=>K (true,v7,v20))))))
theorem work_put_walk {nodes:List Node}{names:List ByteArray}{mems:List Memo}{outs:List Nat}{fan:List (List Ln)}{nv:Nat}{vals:List Nat}{wait:List Nat}{n:Nat}{x:Nat}{gw:Nat}{gv:Nat}{a:Option Nat}{pre:List Value}{off:Nat}{L:List Slot}{K:(Bool×(List Nat)×(List Nat))→Prop} (hm:work_put_wp nodes names mems outs fan nv vals wait n x K) {h0 h:Heap} (ha:a=none→wait=[]) (hp:pre.length=off) (O:Own vars h0 (((some gw),.cells [((encL 4 encNode) nodes),((encL 1 Value.string) names),((encL 3 encMem) mems),((encL 1 i64) outs),((encL 1 (encL 2 encLn)) fan),(.slice (some ⟨gv,0,none⟩) nv nv),(tailV 1 a off (wait.map i64))] false)::((some gv),.cells (flatC (vals.map n8)) false)::(a,.cells (pre++flatC (wait.map i64)) false)::L) h):∃ v h',CallD Tryz.prog NG 42 ⟨[(.pointer (some ⟨gw,0,none⟩)),(i64 n),(n8 x)]⟩ h v h'∧∃ (u0:Bool) (w0:(List Nat)) (w4:(List Nat)) (b1:Option Nat) (b2:(List Value)) (b3:Nat),K (u0,w0,w4)∧v=(Value.bool u0)∧(b1=none→w4=[])∧(b2.length=b3)∧Own vars h0 (((some gw),.cells [((encL 4 encNode) nodes),((encL 1 Value.string) names),((encL 3 encMem) mems),((encL 1 i64) outs),((encL 1 (encL 2 encLn)) fan),(.slice (some ⟨gv,0,none⟩) nv nv),(tailV 1 b1 b3 (w4.map i64))] false)::((some gv),.cells (flatC (w0.map n8)) false)::(b1,.cells (b2++flatC (w4.map i64)) false)::L) h'∧True:=by
 unfold work_put_wp at hm
 refine fg Tryz.func42 (Q:=fun v h'=>∃ (u0:Bool) (w0:(List Nat)) (w4:(List Nat)) (b1:Option Nat) (b2:(List Value)) (b3:Nat),K (u0,w0,w4)∧v=(Value.bool u0)∧(b1=none→w4=[])∧(b2.length=b3)∧Own vars h0 (((some gw),.cells [((encL 4 encNode) nodes),((encL 1 Value.string) names),((encL 3 encMem) mems),((encL 1 i64) outs),((encL 1 (encL 2 encLn)) fan),(.slice (some ⟨gv,0,none⟩) nv nv),(tailV 1 b1 b3 (w4.map i64))] false)::((some gv),.cells (flatC (w0.map n8)) false)::(b1,.cells (b2++flatC (w4.map i64)) false)::L) h'∧True) ?_;conv=>whnf
 apply Cs;conv=>whnf
 apply Cs;refine gH ?_
 apply Cs;conv=>whnf
 refine jn hm 65 [0,1,2] (fun s=>s) (fun v1 h=>(a=none→wait=[])∧(pre.length=off)∧Own vars h0 (((some gw),.cells [((encL 4 encNode) nodes),((encL 1 Value.string) names),((encL 3 encMem) mems),((encL 1 i64) outs),((encL 1 (encL 2 encLn)) fan),(.slice (some ⟨gv,0,none⟩) nv nv),(tailV 1 a off (wait.map i64))] false)::((some gv),.cells (flatC (vals.map n8)) false)::(a,.cells (pre++flatC (wait.map i64)) false)::L) h) (fun v1=>[(21,(.bool v1))]) (fun hm=>?_) ?_
 ·refine gX ?_
  refine br hm (fun hm=>?_) fun hm=>?_
  ·refine gX ?_
   exact jx true hm ⟨ha,hp,O⟩
  ·refine gX ?_
   refine ix 1 hm fun x5 hx5 hm=>?_;refine gH ?_
   refine ldE (s:=1) (i:=0) (O.at (.tail _ (.head _))) hx5 ?_;refine gH ?_
   exact jx (eqN x5 x) hm ⟨ha,hp,O⟩
 ·clear hm;rintro v1 base h hm ⟨ha2,hp3,O⟩
  refine gX ?_
  refine br hm (fun hm=>?_) fun hm=>?_
  ·refine gX ?_
   exact⟨true,vals,wait,a,pre,off,hm,rfl,ha2,hp3,O,trivial⟩
  ·refine gX ?_
   refine ix 1 hm fun x6 hx6 hm=>?_;refine gH ?_
   refine fg Tryz.func75 ?_;conv=>whnf
   apply Cs;conv=>whnf
   apply Cs;refine gH ?_
   refine jn hm 17 [0,1] (fun s=>s) (fun v7 h=>(a=none→wait=[])∧(pre.length=off)∧Own vars h0 (((some gv),.cells (flatC (v7.map n8)) false)::((some gw),.cells [((encL 4 encNode) nodes),((encL 1 Value.string) names),((encL 3 encMem) mems),((encL 1 i64) outs),((encL 1 (encL 2 encLn)) fan),(.slice (some ⟨gv,0,none⟩) nv nv),(tailV 1 a off (wait.map i64))] false)::(a,.cells (pre++flatC (wait.map i64)) false)::L) h) (fun v7=>[]) (fun hm=>?_) ?_
   ·refine gX ?_
    refine ldE (s:=1) (i:=0) (O.at (.tail _ (.head _))) hx6 ?_;refine gX ?_
    refine br hm (fun hm=>?_) fun hm=>?_
    ·refine gX ?_
     refine O.stE 1 (.tail _ (.head _)) hx6 x fun h O=>?_;refine gH ?_
     exact jx (vals.set n x) hm ⟨ha2,hp3,(Own.selT [((some gw),.cells [((encL 4 encNode) nodes),((encL 1 Value.string) names),((encL 3 encMem) mems),((encL 1 i64) outs),((encL 1 (encL 2 encLn)) fan),(.slice (some ⟨gv,0,none⟩) nv nv),(tailV 1 a off (wait.map i64))] false),((some gv),.cells (flatC ((vals.set n x).map n8)) false),(a,.cells (pre++flatC (wait.map i64)) false)] O [1,0,2] (by decide))⟩
    ·refine gX ?_
     exact jx vals hm ⟨ha2,hp3,(Own.selT [((some gw),.cells [((encL 4 encNode) nodes),((encL 1 Value.string) names),((encL 3 encMem) mems),((encL 1 i64) outs),((encL 1 (encL 2 encLn)) fan),(.slice (some ⟨gv,0,none⟩) nv nv),(tailV 1 a off (wait.map i64))] false),((some gv),.cells (flatC (vals.map n8)) false),(a,.cells (pre++flatC (wait.map i64)) false)] O [1,0,2] (by decide))⟩
   ·clear hm;rintro v7 base h hm ⟨ha8,hp9,O⟩
    refine gX ?_
    obtain⟨x11,hx11,hm⟩:=hm
    refine ldE (s:=1) (i:=0) (O.at (.head _)) hx11 ?_;refine gX ?_
    refine br hm (fun hm=>?_) fun hm=>?_
    ·refine gX ?_
     exact⟨false,v7,wait,a,pre,off,hm,rfl,ha8,hp9,(Own.selT [((some gv),.cells (flatC (v7.map n8)) false),((some gw),.cells [((encL 4 encNode) nodes),((encL 1 Value.string) names),((encL 3 encMem) mems),((encL 1 i64) outs),((encL 1 (encL 2 encLn)) fan),(.slice (some ⟨gv,0,none⟩) nv nv),(tailV 1 a off (wait.map i64))] false),(a,.cells (pre++flatC (wait.map i64)) false)] O [1,0,2] (by decide)),trivial⟩
    ·refine gX ?_
     refine fz ?_;refine gH ?_
     refine Own.appendT (enc:=i64) (l:=wait) (new:=([n]:(List Nat))) (s:=1) (b:=8) hp9 O (.tail _ (.tail _ (.head _))) ha8 rfl rfl rfl rfl rfl rfl rfl rfl (YOk.fl rfl) (fun _=>rfl) (fun _=>rfl) (by decide) hm.1 fun a12 q14 o15 h hp16 ha13 O=>?_;refine gH ?_
     replace hm:=hm.2
     refine O.stC 1 (.tail _ (.head _)) [((encL 4 encNode) nodes),((encL 1 Value.string) names),((encL 3 encMem) mems),((encL 1 i64) outs),((encL 1 (encL 2 encLn)) fan),(.slice (some ⟨gv,0,none⟩) nv nv),(tailV 1 a12 o15 ((wait++([n]:(List Nat))).map i64))] fun h O=>?_;refine gH ?_
     refine jn (σ:=(List Nat)×(Option Nat×(List Value)×Nat)) hm 65 [] (fun s=>s.1) (fun (v20,(a17,a18,a19)) h=>(a17=none→v20=[])∧(a18.length=a19)∧Own vars h0 (((some gw),.cells [((encL 4 encNode) nodes),((encL 1 Value.string) names),((encL 3 encMem) mems),((encL 1 i64) outs),((encL 1 (encL 2 encLn)) fan),(.slice (some ⟨gv,0,none⟩) nv nv),(tailV 1 a17 a19 (v20.map i64))] false)::((some gv),.cells (flatC (v7.map n8)) false)::(a17,.cells (a18++flatC (v20.map i64)) false)::L) h) (fun (v20,(a17,a18,a19))=>[]) (fun hm=>?_) ?_
     ·refine gX ?_
      refine atF hm fun x24 hx24 hm=>?_;refine gX ?_
      refine lw 65 [0,47,48] (σ:=((List Nat)×Nat)×(Option Nat×(List Value)×Nat)) (fun s=>s.1) (fun ((v28,v29),(a25,a26,a27)) h=>(a25=none→v28=[])∧(a26.length=a27)∧Own vars h0 (((some gw),.cells [((encL 4 encNode) nodes),((encL 1 Value.string) names),((encL 3 encMem) mems),((encL 1 i64) outs),((encL 1 (encL 2 encLn)) fan),(.slice (some ⟨gv,0,none⟩) nv nv),(tailV 1 a25 a27 (v28.map i64))] false)::((some gv),.cells (flatC (v7.map n8)) false)::(a25,.cells (a26++flatC (v28.map i64)) false)::L) h) (fun ((v28,v29),(a25,a26,a27))=>[(49,(i64 v29))]) (((wait++([n]:(List Nat))),0),(a12,q14,o15)) hm ⟨ha13,hp16,(Own.selT [((some gv),.cells (flatC (v7.map n8)) false),((some gw),.cells [((encL 4 encNode) nodes),((encL 1 Value.string) names),((encL 3 encMem) mems),((encL 1 i64) outs),((encL 1 (encL 2 encLn)) fan),(.slice (some ⟨gv,0,none⟩) nv nv),(tailV 1 a12 o15 ((wait++([n]:(List Nat))).map i64))] false),(a12,.cells (q14++flatC ((wait++([n]:(List Nat))).map i64)) false)] O [1,0,2] (by decide))⟩ ?_
      clear hm;rintro⟨⟨v28,v29⟩,⟨a25,a26,a27⟩⟩ nx32 base h hm ⟨ha30,hp31,O⟩
      refine gX ?_
      refine br hm (fun hm=>?_) fun hm=>?_
      ·refine gX ?_
       refine atF hm fun x33 hx33 hm=>?_;refine gH ?_
       refine O.new (anew_alloc (l:=[(i64 0),(i64 0)]) rfl rfl rfl) fun g34 h O=>?_;refine gH ?_
       refine O.stC 2 (.head _) [(i64 x33.node),(i64 x33.pin)] fun h O=>?_;refine gX ?_
       first|refine⟨.inr (.inr (loadK rfl (O.at (.tail _ (.head _))) rfl rfl)),?_⟩|refine⟨.inr (.inl (by kernel_rfl)),?_⟩
       refine gX ?_
       refine O.buildLX (l:=([x33.node]:(List Nat))) (enc:=i64) (s:=1) (z:=(i64 0)) rfl rfl (by kernel_rfl) (by kernel_rfl) rfl rfl rfl rfl (fun _=>rfl) fun g36 h O=>?_;refine gH ?_
       refine Own.appendT (enc:=i64) (l:=v28) (new:=([x33.node]:(List Nat))) (s:=1) (b:=8) hp31 O (.tail _ (.tail _ (.tail _ (.tail _ (.head _))))) ha30 rfl rfl rfl rfl rfl rfl rfl rfl (YOk.own (O.at (.head _)) rfl (fun _=>rfl) rfl) (fun _=>rfl) (fun _=>rfl) (by decide) hm.1 fun a38 q40 o41 h hp42 ha39 O=>?_;refine gH ?_
       replace hm:=hm.2
       refine O.stC 1 (.tail _ (.tail _ (.head _))) [((encL 4 encNode) nodes),((encL 1 Value.string) names),((encL 3 encMem) mems),((encL 1 i64) outs),((encL 1 (encL 2 encLn)) fan),(.slice (some ⟨gv,0,none⟩) nv nv),(tailV 1 a38 o41 ((v28++([x33.node]:(List Nat))).map i64))] fun h O=>?_;refine gH ?_
       refine gX ?_
       refine aAdd hm fun hm=>?_;refine gH ?_
       exact jx (((v28++([x33.node]:(List Nat))),(v29+1)),(a38,q40,o41)) hm ⟨ha39,hp42,(Own.selT [((some g36),.cells (flatC (([x33.node]:(List Nat)).map i64)) false),((some g34),.cells [(i64 x33.node),(i64 x33.pin)] false),((some gw),.cells [((encL 4 encNode) nodes),((encL 1 Value.string) names),((encL 3 encMem) mems),((encL 1 i64) outs),((encL 1 (encL 2 encLn)) fan),(.slice (some ⟨gv,0,none⟩) nv nv),(tailV 1 a38 o41 ((v28++([x33.node]:(List Nat))).map i64))] false),((some gv),.cells (flatC (v7.map n8)) false),(a38,.cells (q40++flatC ((v28++([x33.node]:(List Nat))).map i64)) false)] O [2,3,4] (by decide))⟩
      ·refine gX ?_
       exact jx (v28,(a25,a26,a27)) hm ⟨ha30,hp31,O⟩
     ·clear hm;rintro⟨v20,⟨a17,a18,a19⟩⟩ base h hm ⟨ha21,hp22,O⟩
      refine gX ?_
      exact⟨true,v7,v20,a17,a18,a19,hm,rfl,ha21,hp22,O,trivial⟩
def work_gate_wp (nodes:List Node) (names:List ByteArray) (mems:List Memo) (outs:List Nat) (fan:List (List Ln)) (nv:Nat) (vals:List Nat) (wait:List Nat) (n:Nat) (K:(Bool×(List Nat)×(List Nat))→Prop):Prop :=
 ∃ x1,nodes[n]?=some x1∧1*x1.ins.length≤2 ^ 48∧x1.ins.length<2 ^ 63∧joinW (α:=(List Nat)) (fun k9=>loopW (S:=((List Nat)×Nat)) (fun (v10,v11) nx14=>((ltN v11 x1.ins.length)=true→∃ x15,x1.ins[v11]?=some x15∧x15<nv∧∃ x16,vals[x15]?=some x16∧v11<x1.ins.length∧∃ x17,v10[v11]?=some x17∧v11+1<2 ^ 63∧nx14 ((v10.set v11 x16),(v11+1)))∧((ltN v11 x1.ins.length)=false→k9 v10)) ((List.replicate x1.ins.length (0:Nat)),0)) (fun v6=>n<nv∧∃ x18,vals[n]?=some x18∧x1.ins.length=v6.length∧implies_Gate_wp x1.kind x18 v6 (fun r19=>joinW (α:=((List Nat)×(List Nat)×Bool)) (fun k29=>((!r19.2.2)=true→k29 (vals,wait,true))∧((!r19.2.2)=false→work_put_wp nodes names mems outs fan nv vals wait n r19.1 (fun (r30,x31,x35)=>k29 (x31,x35,(!r30))))) (fun (v21,v25,v26)=>(v26=true→K (false,v21,v25))∧(v26=false→joinW (α:=((List Nat)×(List Nat))) (fun k45=>loopW (S:=((List Nat)×(List Nat)×Nat)) (fun (v46,v50,v51) nx54=>((ltN v51 x1.ins.length)=true→∃ x55,x1.ins[v51]?=some x55∧∃ x56,r19.2.1[v51]?=some x56∧work_put_wp nodes names mems outs fan nv v46 v50 x55 x56 (fun (r57,x58,x62)=>((!r57)=true→K (false,x58,x62))∧((!r57)=false→v51+1<2 ^ 63∧nx54 (x58,x62,(v51+1)))))∧((ltN v51 x1.ins.length)=false→k45 (v46,v50))) (v21,v25,0)) (fun (v38,v42)=>K (true,v38,v42))))))
theorem work_gate_walk {nodes:List Node}{names:List ByteArray}{mems:List Memo}{outs:List Nat}{fan:List (List Ln)}{nv:Nat}{vals:List Nat}{wait:List Nat}{n:Nat}{gw:Nat}{gv:Nat}{a:Option Nat}{pre:List Value}{off:Nat}{L:List Slot}{K:(Bool×(List Nat)×(List Nat))→Prop} (hm:work_gate_wp nodes names mems outs fan nv vals wait n K) {h0 h:Heap} (ha:a=none→wait=[]) (hp:pre.length=off) (O:Own vars h0 (((some gw),.cells [((encL 4 encNode) nodes),((encL 1 Value.string) names),((encL 3 encMem) mems),((encL 1 i64) outs),((encL 1 (encL 2 encLn)) fan),(.slice (some ⟨gv,0,none⟩) nv nv),(tailV 1 a off (wait.map i64))] false)::((some gv),.cells (flatC (vals.map n8)) false)::(a,.cells (pre++flatC (wait.map i64)) false)::L) h):∃ v h',CallD Tryz.prog NG 44 ⟨[(.pointer (some ⟨gw,0,none⟩)),(i64 n)]⟩ h v h'∧∃ (u0:Bool) (w0:(List Nat)) (w4:(List Nat)) (b1:Option Nat) (b2:(List Value)) (b3:Nat),K (u0,w0,w4)∧v=(Value.bool u0)∧(b1=none→w4=[])∧(b2.length=b3)∧Own vars h0 (((some gw),.cells [((encL 4 encNode) nodes),((encL 1 Value.string) names),((encL 3 encMem) mems),((encL 1 i64) outs),((encL 1 (encL 2 encLn)) fan),(.slice (some ⟨gv,0,none⟩) nv nv),(tailV 1 b1 b3 (w4.map i64))] false)::((some gv),.cells (flatC (w0.map n8)) false)::(b1,.cells (b2++flatC (w4.map i64)) false)::L) h'∧True:=by
 unfold work_gate_wp at hm
 refine fg Tryz.func44 (Q:=fun v h'=>∃ (u0:Bool) (w0:(List Nat)) (w4:(List Nat)) (b1:Option Nat) (b2:(List Value)) (b3:Nat),K (u0,w0,w4)∧v=(Value.bool u0)∧(b1=none→w4=[])∧(b2.length=b3)∧Own vars h0 (((some gw),.cells [((encL 4 encNode) nodes),((encL 1 Value.string) names),((encL 3 encMem) mems),((encL 1 i64) outs),((encL 1 (encL 2 encLn)) fan),(.slice (some ⟨gv,0,none⟩) nv nv),(tailV 1 b1 b3 (w4.map i64))] false)::((some gv),.cells (flatC (w0.map n8)) false)::(b1,.cells (b2++flatC (w4.map i64)) false)::L) h'∧True) ?_;conv=>whnf
 refine gX ?_
 refine atF hm fun x1 hx1 hm=>?_;refine gH ?_
 refine O.new (anew_alloc (l:=[(n8 0),(.slice none 0 0),(i64 0),(i64 0)]) rfl rfl rfl) fun g2 h O=>?_;refine gH ?_
 refine O.stC 4 (.head _) [(n8 x1.kind),((encL 1 i64) x1.ins),(i64 x1.mem),(i64 x1.bit)] fun h O=>?_;refine gX ?_
 refine O.mkL (enc:=n8) 1 1 0 hm fun g4 h O hm=>?_;refine gH ?_
 refine jn hm 86 [0,1,5,6] (fun s=>s) (fun v6 h=>(a=none→wait=[])∧(pre.length=off)∧Own vars h0 (((some gw),.cells [((encL 4 encNode) nodes),((encL 1 Value.string) names),((encL 3 encMem) mems),((encL 1 i64) outs),((encL 1 (encL 2 encLn)) fan),(.slice (some ⟨gv,0,none⟩) nv nv),(tailV 1 a off (wait.map i64))] false)::((some gv),.cells (flatC (vals.map n8)) false)::(a,.cells (pre++flatC (wait.map i64)) false)::((some g2),.cells [(n8 x1.kind),((encL 1 i64) x1.ins),(i64 x1.mem),(i64 x1.bit)] false)::((some g4),.cells (flatC (v6.map n8)) false)::L) h) (fun v6=>[]) (fun hm=>?_) ?_
 ·refine gX ?_
  refine lw 86 [0,1,5,6,27,28] (σ:=((List Nat)×Nat)) (fun s=>s) (fun (v10,v11) h=>(a=none→wait=[])∧(pre.length=off)∧Own vars h0 (((some gw),.cells [((encL 4 encNode) nodes),((encL 1 Value.string) names),((encL 3 encMem) mems),((encL 1 i64) outs),((encL 1 (encL 2 encLn)) fan),(.slice (some ⟨gv,0,none⟩) nv nv),(tailV 1 a off (wait.map i64))] false)::((some gv),.cells (flatC (vals.map n8)) false)::(a,.cells (pre++flatC (wait.map i64)) false)::((some g2),.cells [(n8 x1.kind),((encL 1 i64) x1.ins),(i64 x1.mem),(i64 x1.bit)] false)::((some g4),.cells (flatC (v10.map n8)) false)::L) h) (fun (v10,v11)=>[(29,(i64 v11))]) ((List.replicate x1.ins.length (0:Nat)),0) hm ⟨ha,hp,(Own.selT [((some g4),.cells (flatC ((List.replicate x1.ins.length (0:Nat)).map n8)) false),((some g2),.cells [(n8 x1.kind),((encL 1 i64) x1.ins),(i64 x1.mem),(i64 x1.bit)] false),((some gw),.cells [((encL 4 encNode) nodes),((encL 1 Value.string) names),((encL 3 encMem) mems),((encL 1 i64) outs),((encL 1 (encL 2 encLn)) fan),(.slice (some ⟨gv,0,none⟩) nv nv),(tailV 1 a off (wait.map i64))] false),((some gv),.cells (flatC (vals.map n8)) false),(a,.cells (pre++flatC (wait.map i64)) false)] O [2,3,4,1,0] (by decide))⟩ ?_
  clear hm;rintro⟨v10,v11⟩ nx14 base h hm ⟨ha12,hp13,O⟩
  refine gX ?_
  refine br hm (fun hm=>?_) fun hm=>?_
  ·refine gX ?_
   refine atF hm fun x15 hx15 hm=>?_;refine gX ?_
   refine ix 1 hm fun x16 hx16 hm=>?_;refine gH ?_
   refine ldE (s:=1) (i:=0) (O.at (.tail _ (.head _))) hx16 ?_;refine gH ?_
   refine ix 1 hm fun x17 hx17 hm=>?_;refine gH ?_
   refine O.stE 1 (.tail _ (.tail _ (.tail _ (.tail _ (.head _))))) hx17 x16 fun h O=>?_;refine gX ?_
   refine aAdd hm fun hm=>?_;refine gH ?_
   exact jx ((v10.set v11 x16),(v11+1)) hm ⟨ha12,hp13,O⟩
  ·refine gX ?_
   exact jx v10 hm ⟨ha12,hp13,O⟩
 ·clear hm;rintro v6 base h hm ⟨ha7,hp8,O⟩
  refine gX ?_
  refine ldO (O.at (.tail _ (.tail _ (.tail _ (.head _))))) ?_;refine gH ?_
  first|refine⟨.inr (.inr (loadK rfl (O.at (.head _)) rfl rfl)),?_⟩|refine⟨.inr (.inl (by kernel_rfl)),?_⟩
  refine gX ?_
  refine ix 1 hm fun x18 hx18 hm=>?_;refine gH ?_
  refine⟨_,loadK rfl (O.at (.tail _ (.head _))) rfl (cell_map (enc:=n8) (s:=1) (k:=0) (fun _=>rfl) hx18 rfl),?_⟩;refine gH ?_
  obtain⟨hn20,hm⟩:=hm
  refine O.useL (fun _ hb=>implies_Gate_walk hm hb) (.tail _ (.tail _ (.tail _ (.tail _ (.head _))))) hn20 (fun _=>rfl) (i:=2) rfl (by kernel_rfl) (fun h2 q=>(LLe.cons (VLe.refl _ _) (LLe.cons (VLe.refl _ _) (LLe.cons (q) (LLe.nil _))))) (fun r19 h hm' O=>?_);replace hm:=hm';refine gH ?_
  refine⟨.inr (by kernel_rfl),?_⟩;refine gH ?_
  apply Cs;conv=>whnf
  refine jn (σ:=((List Nat)×(List Nat)×Bool)×(Option Nat×(List Value)×Nat)) hm 86 [0,5,10] (fun s=>s.1) (fun ((v21,v25,v26),(a22,a23,a24)) h=>(a22=none→v25=[])∧(a23.length=a24)∧Own vars h0 (((some gw),.cells [((encL 4 encNode) nodes),((encL 1 Value.string) names),((encL 3 encMem) mems),((encL 1 i64) outs),((encL 1 (encL 2 encLn)) fan),(.slice (some ⟨gv,0,none⟩) nv nv),(tailV 1 a22 a24 (v25.map i64))] false)::((some gv),.cells (flatC (v21.map n8)) false)::(a22,.cells (a23++flatC (v25.map i64)) false)::((some g2),.cells [(n8 x1.kind),((encL 1 i64) x1.ins),(i64 x1.mem),(i64 x1.bit)] false)::L) h) (fun ((v21,v25,v26),(a22,a23,a24))=>[(68,(.bool v26))]) (fun hm=>?_) ?_
  ·refine gX ?_
   refine br hm (fun hm=>?_) fun hm=>?_
   ·refine gX ?_
    exact jx ((vals,wait,true),(a,pre,off)) hm ⟨ha7,hp8,(Own.selT [((some gw),.cells [((encL 4 encNode) nodes),((encL 1 Value.string) names),((encL 3 encMem) mems),((encL 1 i64) outs),((encL 1 (encL 2 encLn)) fan),(.slice (some ⟨gv,0,none⟩) nv nv),(tailV 1 a off (wait.map i64))] false),((some gv),.cells (flatC (vals.map n8)) false),(a,.cells (pre++flatC (wait.map i64)) false),((some g2),.cells [(n8 x1.kind),((encL 1 i64) x1.ins),(i64 x1.mem),(i64 x1.bit)] false),((some g4),.cells (flatC (v6.map n8)) true)] O [0,1,2,3] (by decide))⟩
   ·refine gX ?_
    obtain⟨_,h,hcall,r30,x31,x35,a32,a33,a34,hm,rfl,ha36,hp37,O,_⟩:=work_put_walk hm ha7 hp8 O
    refine⟨_,_,hcall,?_⟩;refine gH ?_
    exact jx ((x31,x35,(!r30)),(a32,a33,a34)) hm ⟨ha36,hp37,(Own.selT [((some gw),.cells [((encL 4 encNode) nodes),((encL 1 Value.string) names),((encL 3 encMem) mems),((encL 1 i64) outs),((encL 1 (encL 2 encLn)) fan),(.slice (some ⟨gv,0,none⟩) nv nv),(tailV 1 a32 a34 (x35.map i64))] false),((some gv),.cells (flatC (x31.map n8)) false),(a32,.cells (a33++flatC (x35.map i64)) false),((some g2),.cells [(n8 x1.kind),((encL 1 i64) x1.ins),(i64 x1.mem),(i64 x1.bit)] false),((some g4),.cells (flatC (v6.map n8)) true)] O [0,1,2,3] (by decide))⟩
  ·clear hm;rintro⟨⟨v21,v25,v26⟩,⟨a22,a23,a24⟩⟩ base h hm ⟨ha27,hp28,O⟩
   refine gX ?_
   refine br hm (fun hm=>?_) fun hm=>?_
   ·refine gX ?_
    exact⟨false,v21,v25,a22,a23,a24,hm,rfl,ha27,hp28,(Own.selT [((some gw),.cells [((encL 4 encNode) nodes),((encL 1 Value.string) names),((encL 3 encMem) mems),((encL 1 i64) outs),((encL 1 (encL 2 encLn)) fan),(.slice (some ⟨gv,0,none⟩) nv nv),(tailV 1 a22 a24 (v25.map i64))] false),((some gv),.cells (flatC (v21.map n8)) false),(a22,.cells (a23++flatC (v25.map i64)) false),((some g2),.cells [(n8 x1.kind),((encL 1 i64) x1.ins),(i64 x1.mem),(i64 x1.bit)] false)] O [0,1,2] (by decide)),trivial⟩
   ·apply Cs;conv=>whnf
    refine jn (σ:=((List Nat)×(List Nat))×(Option Nat×(List Value)×Nat)) hm 86 [] (fun s=>s.1) (fun ((v38,v42),(a39,a40,a41)) h=>(a39=none→v42=[])∧(a40.length=a41)∧Own vars h0 (((some gw),.cells [((encL 4 encNode) nodes),((encL 1 Value.string) names),((encL 3 encMem) mems),((encL 1 i64) outs),((encL 1 (encL 2 encLn)) fan),(.slice (some ⟨gv,0,none⟩) nv nv),(tailV 1 a39 a41 (v42.map i64))] false)::((some gv),.cells (flatC (v38.map n8)) false)::(a39,.cells (a40++flatC (v42.map i64)) false)::L) h) (fun ((v38,v42),(a39,a40,a41))=>[]) (fun hm=>?_) ?_
    ·refine gX ?_
     refine ldO (O.at (.tail _ (.tail _ (.tail _ (.head _))))) ?_;refine gX ?_
     refine lw 86 [0,10,70,71] (σ:=((List Nat)×(List Nat)×Nat)×(Option Nat×(List Value)×Nat)) (fun s=>s.1) (fun ((v46,v50,v51),(a47,a48,a49)) h=>(a47=none→v50=[])∧(a48.length=a49)∧Own vars h0 (((some gw),.cells [((encL 4 encNode) nodes),((encL 1 Value.string) names),((encL 3 encMem) mems),((encL 1 i64) outs),((encL 1 (encL 2 encLn)) fan),(.slice (some ⟨gv,0,none⟩) nv nv),(tailV 1 a47 a49 (v50.map i64))] false)::((some gv),.cells (flatC (v46.map n8)) false)::(a47,.cells (a48++flatC (v50.map i64)) false)::L) h) (fun ((v46,v50,v51),(a47,a48,a49))=>[(72,(i64 v51))]) ((v21,v25,0),(a22,a23,a24)) hm ⟨ha27,hp28,(Own.selT [((some gw),.cells [((encL 4 encNode) nodes),((encL 1 Value.string) names),((encL 3 encMem) mems),((encL 1 i64) outs),((encL 1 (encL 2 encLn)) fan),(.slice (some ⟨gv,0,none⟩) nv nv),(tailV 1 a22 a24 (v25.map i64))] false),((some gv),.cells (flatC (v21.map n8)) false),(a22,.cells (a23++flatC (v25.map i64)) false),((some g2),.cells [(n8 x1.kind),((encL 1 i64) x1.ins),(i64 x1.mem),(i64 x1.bit)] false)] O [0,1,2] (by decide))⟩ ?_
     clear hm;rintro⟨⟨v46,v50,v51⟩,⟨a47,a48,a49⟩⟩ nx54 base h hm ⟨ha52,hp53,O⟩
     refine gX ?_
     refine br hm (fun hm=>?_) fun hm=>?_
     ·refine gX ?_
      refine atF hm fun x55 hx55 hm=>?_;refine gX ?_
      refine atF hm fun x56 hx56 hm=>?_;refine gH ?_
      obtain⟨_,h,hcall,r57,x58,x62,a59,a60,a61,hm,rfl,ha63,hp64,O,_⟩:=work_put_walk hm ha52 hp53 O
      refine⟨_,_,hcall,?_⟩;refine gX ?_
      refine br hm (fun hm=>?_) fun hm=>?_
      ·refine gX ?_
       exact⟨false,x58,x62,a59,a60,a61,hm,rfl,ha63,hp64,O,trivial⟩
      ·refine gX ?_
       refine aAdd hm fun hm=>?_;refine gH ?_
       exact jx ((x58,x62,(v51+1)),(a59,a60,a61)) hm ⟨ha63,hp64,O⟩
     ·refine gX ?_
      exact jx ((v46,v50),(a47,a48,a49)) hm ⟨ha52,hp53,O⟩
    ·clear hm;rintro⟨⟨v38,v42⟩,⟨a39,a40,a41⟩⟩ base h hm ⟨ha43,hp44,O⟩
     refine gX ?_
     exact⟨true,v38,v42,a39,a40,a41,hm,rfl,ha43,hp44,O,trivial⟩
def implies_Close_wp (p0:Circ) (p1:(List Asg)) (K:((List Nat)×Bool×Nat)→Prop):Prop :=
 implies_Plain_wp p0 (fun r1=>((neN r1 0)=true→K ([],false,r1))∧((neN r1 0)=false→joinW (α:=Unit) (fun k2=>loopW (S:=Nat) (fun v3 nx4=>((ltN v3 p1.length)=true→∃ x5,p1[v3]?=some x5∧joinW (α:=Bool) (fun k9=>((ltN x5.net 0)=true→k9 true)∧((ltN x5.net 0)=false→((!ltN x5.net p0.nodes.length)=true→k9 true)∧((!ltN x5.net p0.nodes.length)=false→logic_Known_wp x5.value (fun r10=>k9 (!r10))))) (fun v8=>(v8=true→K ([],false,1))∧(v8=false→v3+1<2 ^ 63∧nx4 (v3+1))))∧((ltN v3 p1.length)=false→k2 ())) 0) (fun _=>netlists_Fanout_wp p0 (fun r11=>1*p0.nodes.length≤2 ^ 48∧p0.nodes.length<2 ^ 63∧joinW (α:=((List Nat)×(List Nat))) (fun k24=>loopW (S:=((List Nat)×(List Nat)×Nat)) (fun (v25,v29,v30) nx33=>((ltN v30 p0.nodes.length)=true→v30<p0.nodes.length∧∃ x34,v25[v30]?=some x34∧(v29.length+([v30]:(List Nat)).length)*8≤2 ^ 47∧v30+1<2 ^ 63∧nx33 ((v25.set v30 2),(v29++([v30]:(List Nat))),(v30+1)))∧((ltN v30 p0.nodes.length)=false→k24 (v25,v29))) ((List.replicate p0.nodes.length (0:Nat)),([]:List Nat),0)) (fun (v17,v21)=>joinW (α:=((List Nat)×(List Nat))) (fun k47=>loopW (S:=((List Nat)×(List Nat)×Nat)) (fun (v48,v52,v53) nx56=>((ltN v53 p1.length)=true→∃ x57,p1[v53]?=some x57∧work_put_wp p0.nodes p0.names p0.mems p0.outs r11 p0.nodes.length v48 v52 x57.net x57.value (fun (r60,x61,x65)=>((!r60)=true→K ([],false,0))∧((!r60)=false→v53+1<2 ^ 63∧nx56 (x61,x65,(v53+1)))))∧((ltN v53 p1.length)=false→k47 (v48,v52))) (v17,v21,0)) (fun (v40,v44)=>joinW (α:=((List Nat)×(List Nat))) (fun k75=>loopW (S:=((List Nat)×(List Nat))) (fun (v76,v80) nx83=>((ltN 0 v80.length)=true→∃ x84,v80[0]?=some x84∧1≤v80.length∧∃ x87,p0.nodes[x84]?=some x87∧implies_free_wp x87.kind (fun r88=>(r88=true→nx83 (v76,(v80.drop 1)))∧(r88=false→work_gate_wp p0.nodes p0.names p0.mems p0.outs r11 p0.nodes.length v76 (v80.drop 1) x84 (fun (r89,x90,x94)=>((!r89)=true→K ([],false,0))∧((!r89)=false→nx83 (x90,x94))))))∧((ltN 0 v80.length)=false→k75 (v76,v80))) (v40,v44)) (fun (v68,_v72)=>p0.nodes.length=v68.length∧0<v68.length∧K (v68,true,0))))))))
theorem implies_Close_walkO {p0:Circ}{p1:(List Asg)}{K:((List Nat)×Bool×Nat)→Prop} (hm:implies_Close_wp p0 p1 K) {h0:Heap} (hB:HasB vars h0):∃ v h',CallD Tryz.prog NG 14 ⟨[encCirc p0,(encL 2 encAsg) p1]⟩ h0 v h'∧OwnRes vars h0 K (fun (r:((List Nat)×Bool×Nat)) a=>Value.tuple ⟨[clipV a (r.1.map n8),Value.bool (r.2.1),i64 (r.2.2)]⟩) (fun (r:((List Nat)×Bool×Nat))=>r.1) n8 true v h':=by
 unfold implies_Close_wp at hm
 refine fg Tryz.func14 (Q:=OwnRes vars h0 K (fun (r:((List Nat)×Bool×Nat)) a=>Value.tuple ⟨[clipV a (r.1.map n8),Value.bool (r.2.1),i64 (r.2.2)]⟩) (fun (r:((List Nat)×Bool×Nat))=>r.1) n8 true) ?_;have O:=Own.start hB;conv=>whnf
 refine gX ?_
 refine fz ?_;refine gX ?_
 refine ca (implies_Plain_walk hm O.has) fun r1 hm=>?_;refine gX ?_
 refine br hm (fun hm=>?_) fun hm=>?_
 ·refine gX ?_
  have O:=O.addNil (.cells (flatC (([]:(List Nat)).map n8)) false)
  exact⟨([],false,r1),none,hm,VLe.refl _ _,(fun _=>rfl),(fun _ _=>rfl),O.sel [0] (by decide)⟩
 ·apply Cs;conv=>whnf
  refine jn hm 125 [1,2] (fun s=>s) (fun _ h=>Own vars h0 [] h) (fun _=>[]) (fun hm=>?_) ?_
  ·refine gX ?_
   refine lw 125 [1,2,20,21] (σ:=Nat) (fun s=>s) (fun v3 h=>Own vars h0 [] h) (fun v3=>[(22,(i64 v3))]) 0 hm O ?_
   clear hm;rintro v3 nx4 base h hm O
   refine gX ?_
   refine br hm (fun hm=>?_) fun hm=>?_
   ·refine gX ?_
    refine atF hm fun x5 hx5 hm=>?_;refine gH ?_
    refine O.new (anew_alloc (l:=[(i64 0),(n8 0)]) rfl rfl rfl) fun g6 h O=>?_;refine gH ?_
    refine O.stC 2 (.head _) [(i64 x5.net),(n8 x5.value)] fun h O=>?_;refine gH ?_
    refine jn hm 125 [1,2,20,21,22] (fun s=>s) (fun v8 h=>Own vars h0 [] h) (fun v8=>[(42,(.bool v8))]) (fun hm=>?_) ?_
    ·refine gX ?_
     refine br hm (fun hm=>?_) fun hm=>?_
     ·refine gX ?_
      refine bt ?_;refine gH ?_
      exact jx true hm (O.sel [] (by decide))
     ·refine gX ?_
      refine br hm (fun hm=>?_) fun hm=>?_
      ·refine gX ?_
       exact jx true hm (O.sel [] (by decide))
      ·refine gX ?_
       refine ca (logic_Known_walk hm O.has) fun r10 hm=>?_;refine gH ?_
       exact jx (!r10) hm (O.sel [] (by decide))
    ·clear hm;rintro v8 base h hm O
     refine gX ?_
     refine br hm (fun hm=>?_) fun hm=>?_
     ·refine gX ?_
      have O:=O.addNil (.cells (flatC (([]:(List Nat)).map n8)) false)
      exact⟨([],false,1),none,hm,VLe.refl _ _,(fun _=>rfl),(fun _ _=>rfl),O.sel [0] (by decide)⟩
     ·refine gX ?_
      refine aAdd hm fun hm=>?_;refine gH ?_
      exact jx (v3+1) hm O
   ·refine gX ?_
    exact jx () hm O
  ·clear hm;rintro _ base h hm O
   refine gX ?_
   first|refine⟨.inr (.inr (rfl)),?_⟩|refine⟨.inr (.inl (by kernel_rfl)),?_⟩
   refine gX ?_
   first|refine⟨.inr (.inr (rfl)),?_⟩|refine⟨.inr (.inl (by kernel_rfl)),?_⟩
   refine gX ?_
   refine ca (netlists_Fanout_walk hm O.has) fun r11 hm=>?_;refine gH ?_
   refine⟨.inl (Ext.refl _),?_⟩;refine gH ?_
   first|refine⟨.inr (.inr (rfl)),?_⟩|refine⟨.inr (.inl (by kernel_rfl)),?_⟩
   refine gX ?_
   refine O.makeLX (enc:=n8) (z:=0) (b:=1) (s:=1) (n:=p0.nodes.length) rfl rfl rfl rfl rfl (by decide) (by kernel_rfl) rfl rfl hm.1 hm.2.1 fun g12 h O=>?_;refine gH ?_
   replace hm:=hm.2.2
   have O:=O.addNil (.cells ([]++flatC ((([]:List Nat)).map i64)) false)
   refine O.newX (boxK rfl) fun g14 h O=>?_;refine gH ?_
   refine jn (σ:=((List Nat)×(List Nat))×(Option Nat×(List Value)×Nat)) hm 125 [1,2,10] (fun s=>s.1) (fun ((v17,v21),(a18,a19,a20)) h=>(a18=none→v21=[])∧(a19.length=a20)∧Own vars h0 [((some g14),.cells [((encL 4 encNode) p0.nodes),((encL 1 Value.string) p0.names),((encL 3 encMem) p0.mems),((encL 1 i64) p0.outs),((encL 1 (encL 2 encLn)) r11),(.slice (some ⟨g12,0,none⟩) p0.nodes.length p0.nodes.length),(tailV 1 a18 a20 (v21.map i64))] false),((some g12),.cells (flatC (v17.map n8)) false),(a18,.cells (a19++flatC (v21.map i64)) false)] h) (fun ((v17,v21),(a18,a19,a20))=>[]) (fun hm=>?_) ?_
   ·refine gX ?_
    refine lw 125 [1,2,10,55] (σ:=((List Nat)×(List Nat)×Nat)×(Option Nat×(List Value)×Nat)) (fun s=>s.1) (fun ((v25,v29,v30),(a26,a27,a28)) h=>(a26=none→v29=[])∧(a27.length=a28)∧Own vars h0 [((some g14),.cells [((encL 4 encNode) p0.nodes),((encL 1 Value.string) p0.names),((encL 3 encMem) p0.mems),((encL 1 i64) p0.outs),((encL 1 (encL 2 encLn)) r11),(.slice (some ⟨g12,0,none⟩) p0.nodes.length p0.nodes.length),(tailV 1 a26 a28 (v29.map i64))] false),((some g12),.cells (flatC (v25.map n8)) false),(a26,.cells (a27++flatC (v29.map i64)) false)] h) (fun ((v25,v29,v30),(a26,a27,a28))=>[(56,(i64 v30))]) (((List.replicate p0.nodes.length (0:Nat)),([]:List Nat),0),(none,[],0)) hm ⟨(fun _=>rfl),rfl,(O.sel [0,2,1] (by decide))⟩ ?_
    clear hm;rintro⟨⟨v25,v29,v30⟩,⟨a26,a27,a28⟩⟩ nx33 base h hm ⟨ha31,hp32,O⟩
    refine gX ?_
    refine br hm (fun hm=>?_) fun hm=>?_
    ·refine gX ?_
     refine ix 1 hm fun x34 hx34 hm=>?_;refine gH ?_
     refine O.stE 1 (.tail _ (.head _)) hx34 2 fun h O=>?_;refine gX ?_
     refine fz ?_;refine gH ?_
     refine Own.appendT (enc:=i64) (l:=v29) (new:=([v30]:(List Nat))) (s:=1) (b:=8) hp32 O (.tail _ (.tail _ (.head _))) ha31 rfl rfl rfl rfl rfl rfl rfl rfl (YOk.fl rfl) (fun _=>rfl) (fun _=>rfl) (by decide) hm.1 fun a35 q37 o38 h hp39 ha36 O=>?_;refine gH ?_
     replace hm:=hm.2
     refine O.stC 1 (.head _) [((encL 4 encNode) p0.nodes),((encL 1 Value.string) p0.names),((encL 3 encMem) p0.mems),((encL 1 i64) p0.outs),((encL 1 (encL 2 encLn)) r11),(.slice (some ⟨g12,0,none⟩) p0.nodes.length p0.nodes.length),(tailV 1 a35 o38 ((v29++([v30]:(List Nat))).map i64))] fun h O=>?_;refine gX ?_
     refine aAdd hm fun hm=>?_;refine gH ?_
     exact jx (((v25.set v30 2),(v29++([v30]:(List Nat))),(v30+1)),(a35,q37,o38)) hm ⟨ha36,hp39,O⟩
    ·refine gX ?_
     exact jx ((v25,v29),(a26,a27,a28)) hm ⟨ha31,hp32,O⟩
   ·clear hm;rintro⟨⟨v17,v21⟩,⟨a18,a19,a20⟩⟩ base h hm ⟨ha22,hp23,O⟩
    conv=>whnf
    refine jn (σ:=((List Nat)×(List Nat))×(Option Nat×(List Value)×Nat)) hm 125 [2,10] (fun s=>s.1) (fun ((v40,v44),(a41,a42,a43)) h=>(a41=none→v44=[])∧(a42.length=a43)∧Own vars h0 [((some g14),.cells [((encL 4 encNode) p0.nodes),((encL 1 Value.string) p0.names),((encL 3 encMem) p0.mems),((encL 1 i64) p0.outs),((encL 1 (encL 2 encLn)) r11),(.slice (some ⟨g12,0,none⟩) p0.nodes.length p0.nodes.length),(tailV 1 a41 a43 (v44.map i64))] false),((some g12),.cells (flatC (v40.map n8)) false),(a41,.cells (a42++flatC (v44.map i64)) false)] h) (fun ((v40,v44),(a41,a42,a43))=>[]) (fun hm=>?_) ?_
    ·refine gX ?_
     refine lw 125 [2,10,76,77] (σ:=((List Nat)×(List Nat)×Nat)×(Option Nat×(List Value)×Nat)) (fun s=>s.1) (fun ((v48,v52,v53),(a49,a50,a51)) h=>(a49=none→v52=[])∧(a50.length=a51)∧Own vars h0 [((some g14),.cells [((encL 4 encNode) p0.nodes),((encL 1 Value.string) p0.names),((encL 3 encMem) p0.mems),((encL 1 i64) p0.outs),((encL 1 (encL 2 encLn)) r11),(.slice (some ⟨g12,0,none⟩) p0.nodes.length p0.nodes.length),(tailV 1 a49 a51 (v52.map i64))] false),((some g12),.cells (flatC (v48.map n8)) false),(a49,.cells (a50++flatC (v52.map i64)) false)] h) (fun ((v48,v52,v53),(a49,a50,a51))=>[(78,(i64 v53))]) ((v17,v21,0),(a18,a19,a20)) hm ⟨ha22,hp23,O⟩ ?_
     clear hm;rintro⟨⟨v48,v52,v53⟩,⟨a49,a50,a51⟩⟩ nx56 base h hm ⟨ha54,hp55,O⟩
     refine gX ?_
     refine br hm (fun hm=>?_) fun hm=>?_
     ·refine gX ?_
      refine atF hm fun x57 hx57 hm=>?_;refine gH ?_
      refine O.new (anew_alloc (l:=[(i64 0),(n8 0)]) rfl rfl rfl) fun g58 h O=>?_;refine gH ?_
      refine O.stC 2 (.head _) [(i64 x57.net),(n8 x57.value)] fun h O=>?_;refine gX ?_
      obtain⟨_,h,hcall,r60,x61,x65,a62,a63,a64,hm,rfl,ha66,hp67,O,_⟩:=work_put_walk hm ha54 hp55 (O.sel [1,2,3,0] (by decide))
      refine⟨_,_,hcall,?_⟩;refine gX ?_
      refine br hm (fun hm=>?_) fun hm=>?_
      ·refine gX ?_
       have O:=O.addNil (.cells (flatC (([]:(List Nat)).map n8)) false)
       exact⟨([],false,0),none,hm,VLe.refl _ _,(fun _=>rfl),(fun _ _=>rfl),O.sel [0] (by decide)⟩
      ·refine gX ?_
       refine aAdd hm fun hm=>?_;refine gH ?_
       exact jx ((x61,x65,(v53+1)),(a62,a63,a64)) hm ⟨ha66,hp67,(O.sel [0,1,2] (by decide))⟩
     ·refine gX ?_
      exact jx ((v48,v52),(a49,a50,a51)) hm ⟨ha54,hp55,O⟩
    ·clear hm;rintro⟨⟨v40,v44⟩,⟨a41,a42,a43⟩⟩ base h hm ⟨ha45,hp46,O⟩
     conv=>whnf
     apply Cs;conv=>whnf
     apply Cs;conv=>whnf
     refine jn (σ:=((List Nat)×(List Nat))×(Option Nat×(List Value)×Nat)) hm 125 [10] (fun s=>s.1) (fun ((v68,v72),(a69,a70,a71)) h=>(a69=none→v72=[])∧(a70.length=a71)∧Own vars h0 [((some g14),.cells [((encL 4 encNode) p0.nodes),((encL 1 Value.string) p0.names),((encL 3 encMem) p0.mems),((encL 1 i64) p0.outs),((encL 1 (encL 2 encLn)) r11),(.slice (some ⟨g12,0,none⟩) p0.nodes.length p0.nodes.length),(tailV 1 a69 a71 (v72.map i64))] false),((some g12),.cells (flatC (v68.map n8)) false),(a69,.cells (a70++flatC (v72.map i64)) false)] h) (fun ((v68,v72),(a69,a70,a71))=>[]) (fun hm=>?_) ?_
     ·refine gX ?_
      refine lw 125 [2,10] (σ:=((List Nat)×(List Nat))×(Option Nat×(List Value)×Nat)) (fun s=>s.1) (fun ((v76,v80),(a77,a78,a79)) h=>(a77=none→v80=[])∧(a78.length=a79)∧Own vars h0 [((some g14),.cells [((encL 4 encNode) p0.nodes),((encL 1 Value.string) p0.names),((encL 3 encMem) p0.mems),((encL 1 i64) p0.outs),((encL 1 (encL 2 encLn)) r11),(.slice (some ⟨g12,0,none⟩) p0.nodes.length p0.nodes.length),(tailV 1 a77 a79 (v80.map i64))] false),((some g12),.cells (flatC (v76.map n8)) false),(a77,.cells (a78++flatC (v80.map i64)) false)] h) (fun ((v76,v80),(a77,a78,a79))=>[]) ((v40,v44),(a41,a42,a43)) hm ⟨ha45,hp46,O⟩ ?_
      clear hm;rintro⟨⟨v76,v80⟩,⟨a77,a78,a79⟩⟩ nx83 base h hm ⟨ha81,hp82,O⟩
      refine gX ?_
      refine br hm (fun hm=>?_) fun hm=>?_
      ·refine gX ?_
       obtain⟨x84,hx84,hm⟩:=hm
       have h9:=hm
       obtain⟨g85,rfl⟩:=addr_some ha81 hx84
       replace hm:=h9
       refine tailAtK (s:=1) (enc:=i64) (o:=a79) (j:=0) rfl rfl rfl rfl hx84 ?_;refine gH ?_
       refine⟨_,loadK rfl (O.at (.tail _ (.tail _ (.head _)))) rfl (tail_cell (enc:=i64) (s:=1) (k:=0) hp82 (fun _=>rfl) hx84 rfl),?_⟩;refine gX ?_
       refine tailFromK (s:=1) (enc:=i64) (l:=v80) (o:=a79) (k:=1) rfl rfl rfl rfl hm.1 ?_;refine gH ?_
       rw[tail_split (enc:=i64) (l:=v80) 1] at O
       have hp86:=tail_len (enc:=i64) (l:=v80) (s:=1) (k:=1) (fun _=>rfl) hp82 hm.1
       replace hm:=hm.2
       refine O.stC 1 (.head _) [((encL 4 encNode) p0.nodes),((encL 1 Value.string) p0.names),((encL 3 encMem) p0.mems),((encL 1 i64) p0.outs),((encL 1 (encL 2 encLn)) r11),(.slice (some ⟨g12,0,none⟩) p0.nodes.length p0.nodes.length),(tailV 1 (some g85) (a79+1*1) ((v80.drop 1).map i64))] fun h O=>?_;refine gX ?_
       refine atF hm fun x87 hx87 hm=>?_;refine gH ?_
       refine ca (implies_free_walk hm O.has) fun r88 hm=>?_;refine gX ?_
       refine br hm (fun hm=>?_) fun hm=>?_
       ·refine gX ?_
        exact jx ((v76,(v80.drop 1)),((some g85),(a78++flatC ((v80.take 1).map i64)),(a79+1*1))) hm ⟨someNone,hp86,O⟩
       ·refine gX ?_
        obtain⟨_,h,hcall,r89,x90,x94,a91,a92,a93,hm,rfl,ha95,hp96,O,_⟩:=work_gate_walk hm someNone hp86 O
        refine⟨_,_,hcall,?_⟩;refine gX ?_
        refine br hm (fun hm=>?_) fun hm=>?_
        ·refine gX ?_
         have O:=O.addNil (.cells (flatC (([]:(List Nat)).map n8)) false)
         exact⟨([],false,0),none,hm,VLe.refl _ _,(fun _=>rfl),(fun _ _=>rfl),O.sel [0] (by decide)⟩
        ·refine gX ?_
         exact jx ((x90,x94),(a91,a92,a93)) hm ⟨ha95,hp96,O⟩
      ·refine gX ?_
       exact jx ((v76,v80),(a77,a78,a79)) hm ⟨ha81,hp82,O⟩
     ·clear hm;rintro⟨⟨v68,v72⟩,⟨a69,a70,a71⟩⟩ base h hm ⟨ha73,hp74,O⟩
      refine gX ?_
      obtain⟨hn97,hp98,hm⟩:=hm
      exact⟨(v68,true,0),some g12,hm,VLe.of_eq (congrArg (fun z=>Value.tuple ⟨[z,(.bool true),(i64 0)]⟩) (clipE (l:=v68) (enc:=n8) (g:=g12) hn97)),(fun e=>nomatch e),someIff hp98,O.sel [1] (by decide)⟩
theorem implies_Close_walk {p0:Circ}{p1:(List Asg)}{K:((List Nat)×Bool×Nat)→Prop} (hm:implies_Close_wp p0 p1 K) {h0:Heap} (hB:HasB vars h0):∃ r,K r∧CallD Tryz.prog NG 14 ⟨[encCirc p0,(encL 2 encAsg) p1]⟩ h0 ((fun (r:((List Nat)×Bool×Nat))=>Value.tuple ⟨[(encL 1 n8) (r.1),Value.bool (r.2.1),i64 (r.2.2)]⟩) r) h0 :=
 valO (implies_Close_walkO hm hB) (fk Tryz.func14) (fun r=>PureV.tup (AllPure.cons (pureL (fun _=>AllPure.cons (PureV.flat rfl) AllPure.nil)) (AllPure.cons (PureV.flat rfl) (AllPure.cons (PureV.flat rfl) (AllPure.nil))))) (fun r a h1 h3 O F ha h2=>VLe.tup (LLe.cons (O.clipL F (Nat.le_refl _) (.head _) ha (fun _=>rfl)) (LLe.cons (VLe.refl _ _) (LLe.cons (VLe.refl _ _) (LLe.nil _)))))
theorem implies_Close_walkN {p0:Circ}{p1:(List Asg)}{K:((List Nat)×Bool×Nat)→Prop} (hm:implies_Close_wp p0 p1 K) {h0:Heap} (hB:HasB vars h0):∃ r,K r∧CallD Tryz.prog NG 14 ⟨[encCirc p0,(encL 2 encAsg) p1]⟩ h0 ((fun (r:((List Nat)×Bool×Nat))=>Value.tuple ⟨[(encN 1 n8) (r.1),Value.bool (r.2.1),i64 (r.2.2)]⟩) r) h0 :=
 valO (implies_Close_walkO hm hB) (fk Tryz.func14) (fun r=>PureV.tup (AllPure.cons (pureN (fun _=>AllPure.cons (PureV.flat rfl) AllPure.nil)) (AllPure.cons (PureV.flat rfl) (AllPure.cons (PureV.flat rfl) (AllPure.nil))))) (fun r a h1 h3 O F ha h2=>VLe.tup (LLe.cons (O.clipN F (Nat.le_refl _) (.head _) ha (h2 rfl) (fun _=>rfl)) (LLe.cons (VLe.refl _ _) (LLe.cons (VLe.refl _ _) (LLe.nil _)))))
structure Lawv where
 cond:Asg
 thn:Asg
def encLaw (x:Lawv):Value:=.agg ⟨[i64 x.cond.net,n8 x.cond.value,i64 x.thn.net,n8 x.thn.value]⟩
theorem pure_lawC (x:Lawv):AllPure (cl (encLaw x)):=AllPure.cons (PureV.flat rfl) (AllPure.cons (PureV.flat rfl) (AllPure.cons (PureV.flat rfl) (AllPure.cons (PureV.flat rfl) AllPure.nil)))
set_option maxHeartbeats 8000000
def learns_known_wp (p0:Circ) (p1:(List Asg)) (K:Bool→Prop):Prop :=
 joinW (α:=Unit) (fun k1=>loopW (S:=Nat) (fun v2 nx3=>((ltN v2 p1.length)=true→∃ x4,p1[v2]?=some x4∧joinW (α:=Bool) (fun k8=>((ltN x4.net 0)=true→k8 true)∧((ltN x4.net 0)=false→((!ltN x4.net p0.nodes.length)=true→k8 true)∧((!ltN x4.net p0.nodes.length)=false→logic_Known_wp x4.value (fun r9=>k8 (!r9))))) (fun v7=>(v7=true→K false)∧(v7=false→v2+1<2 ^ 63∧nx3 (v2+1))))∧((ltN v2 p1.length)=false→k1 ())) 0) (fun _=>K true)
theorem learns_known_walk {p0:Circ}{p1:(List Asg)}{K:Bool→Prop} (hm:learns_known_wp p0 p1 K) {h0:Heap} (hB:HasB vars h0):∃ r,K r∧CallD Tryz.prog NG 60 ⟨[encCirc p0,(encL 2 encAsg) p1]⟩ h0 (Value.bool r) h0:=by
 unfold learns_known_wp at hm
 refine fw Tryz.func60 hB (enc:=Value.bool) (fun r=>PureV.flat rfl) fun O=>?_;conv=>whnf
 refine gX ?_
 refine fz ?_;refine gH ?_
 refine jn hm 31 [] (fun s=>s) (fun _ h=>Own vars h0 [] h) (fun _=>[]) (fun hm=>?_) ?_
 ·refine gX ?_
  refine lw 31 [2,7,8] (σ:=Nat) (fun s=>s) (fun v2 h=>Own vars h0 [] h) (fun v2=>[(9,(i64 v2))]) 0 hm O ?_
  clear hm;rintro v2 nx3 base h hm O
  refine gX ?_
  refine br hm (fun hm=>?_) fun hm=>?_
  ·refine gX ?_
   refine atF hm fun x4 hx4 hm=>?_;refine gH ?_
   refine O.new (anew_alloc (l:=[(i64 0),(n8 0)]) rfl rfl rfl) fun g5 h O=>?_;refine gH ?_
   refine O.stC 2 (.head _) [(i64 x4.net),(n8 x4.value)] fun h O=>?_;refine gH ?_
   refine jn hm 31 [2,7,8,9] (fun s=>s) (fun v7 h=>Own vars h0 [] h) (fun v7=>[(29,(.bool v7))]) (fun hm=>?_) ?_
   ·refine gX ?_
    refine br hm (fun hm=>?_) fun hm=>?_
    ·refine gX ?_
     refine bt ?_;refine gH ?_
     exact jx true hm (O.sel [] (by decide))
    ·refine gX ?_
     refine br hm (fun hm=>?_) fun hm=>?_
     ·refine gX ?_
      exact jx true hm (O.sel [] (by decide))
     ·refine gX ?_
      refine ca (logic_Known_walk hm O.has) fun r9 hm=>?_;refine gH ?_
      exact jx (!r9) hm (O.sel [] (by decide))
   ·clear hm;rintro v7 base h hm O
    refine gX ?_
    refine br hm (fun hm=>?_) fun hm=>?_
    ·refine gX ?_
     exact fe hm O
    ·refine gX ?_
     refine aAdd hm fun hm=>?_;refine gH ?_
     exact jx (v2+1) hm O
  ·refine gX ?_
   exact jx () hm O
 ·clear hm;rintro _ base h hm O
  refine gX ?_
  exact fe hm O
def probecardlaw25_at_wp (p0:Nat) (p1:Nat) (K:Asg→Prop):Prop :=
 K (⟨p0,p1⟩:Asg)
theorem probecardlaw25_at_walk {p0:Nat}{p1:Nat}{K:Asg→Prop} (hm:probecardlaw25_at_wp p0 p1 K) {h0:Heap} (hB:HasB vars h0):∃ r,K r∧CallD Tryz.prog NG 22 ⟨[i64 p0,n8 p1]⟩ h0 (encAsg r) h0:=by
 unfold probecardlaw25_at_wp at hm
 refine fw Tryz.func22 hB (enc:=encAsg) (fun r=>pure_asg _) fun O=>?_;conv=>whnf
 refine gX ?_
 refine O.new (anew_alloc (l:=[(i64 0),(n8 0)]) rfl rfl rfl) fun g1 h O=>?_;refine gH ?_
 refine gX ?_
 refine O.stC 2 (.head _) [(i64 p0),(n8 p1)] fun h O=>?_;refine gX ?_
 refine⟨_,resAggK rfl rfl (O.at (.head _)) rfl rfl (lbE rfl) rfl,?_⟩;conv=>whnf
 exact fe hm O
def probecardlaw25_equal_wp (p0:(List Nat)) (p1:Bool) (p2:(List Nat)) (p3:Bool) (K:Bool→Prop):Prop :=
 joinW (α:=Bool) (fun k2=>((p1 != p3)=true→k2 true)∧((p1 != p3)=false→k2 (neN p0.length p2.length))) (fun v1=>(v1=true→K false)∧(v1=false→joinW (α:=Unit) (fun k3=>loopW (S:=Nat) (fun v4 nx5=>((ltN v4 p0.length)=true→∃ x6,p0[v4]?=some x6∧∃ x7,p2[v4]?=some x7∧((neN x6 x7)=true→K false)∧((neN x6 x7)=false→v4+1<2 ^ 63∧nx5 (v4+1)))∧((ltN v4 p0.length)=false→k3 ())) 0) (fun _=>K true)))
theorem probecardlaw25_equal_walk {p0:(List Nat)}{p1:Bool}{p2:(List Nat)}{p3:Bool}{K:Bool→Prop} (hm:probecardlaw25_equal_wp p0 p1 p2 p3 K) {h0:Heap} (hB:HasB vars h0):∃ r,K r∧CallD Tryz.prog NG 26 ⟨[(encL 1 n8) p0,Value.bool p1,(encL 1 n8) p2,Value.bool p3]⟩ h0 (Value.bool r) h0:=by
 unfold probecardlaw25_equal_wp at hm
 refine fw Tryz.func26 hB (enc:=Value.bool) (fun r=>PureV.flat rfl) fun O=>?_;conv=>whnf
 apply Cs;conv=>whnf
 apply Cs;refine gH ?_
 apply Cs;conv=>whnf
 refine jn hm 35 [0,2] (fun s=>s) (fun v1 h=>Own vars h0 [] h) (fun v1=>[(19,(.bool v1))]) (fun hm=>?_) ?_
 ·refine gX ?_
  refine br hm (fun hm=>?_) fun hm=>?_
  ·refine gX ?_
   exact jx true hm O
  ·refine gX ?_
   exact jx (neN p0.length p2.length) hm O
 ·clear hm;rintro v1 base h hm O
  refine gX ?_
  refine br hm (fun hm=>?_) fun hm=>?_
  ·refine gX ?_
   exact fe hm O
  ·apply Cs;conv=>whnf
   refine jn hm 35 [] (fun s=>s) (fun _ h=>Own vars h0 [] h) (fun _=>[]) (fun hm=>?_) ?_
   ·refine gX ?_
    refine lw 35 [0,2] (σ:=Nat) (fun s=>s) (fun v4 h=>Own vars h0 [] h) (fun v4=>[(9,(i64 v4))]) 0 hm O ?_
    clear hm;rintro v4 nx5 base h hm O
    refine gX ?_
    refine br hm (fun hm=>?_) fun hm=>?_
    ·refine gX ?_
     refine atF hm fun x6 hx6 hm=>?_;refine gH ?_
     refine atF hm fun x7 hx7 hm=>?_;refine gX ?_
     refine br hm (fun hm=>?_) fun hm=>?_
     ·refine gX ?_
      exact fe hm O
     ·refine gX ?_
      refine aAdd hm fun hm=>?_;refine gH ?_
      exact jx (v4+1) hm O
    ·refine gX ?_
     exact jx () hm O
   ·clear hm;rintro _ base h hm O
    refine gX ?_
    exact fe hm O
def probecardlaw25_example_wp  (K:Circ→Prop):Prop :=
 K (⟨([(⟨0,([]:(List Nat)),0,0⟩:Node),(⟨0,([]:(List Nat)),0,0⟩:Node),(⟨5,([0,1]:(List Nat)),0,0⟩:Node),(⟨4,([0]:(List Nat)),0,0⟩:Node),(⟨5,([3,1]:(List Nat)),0,0⟩:Node),(⟨7,([2,4]:(List Nat)),0,0⟩:Node)]:(List Node)),([(⟨#[97]⟩:ByteArray),(⟨#[98]⟩:ByteArray),(⟨#[100]⟩:ByteArray),(⟨#[101]⟩:ByteArray),(⟨#[102]⟩:ByteArray),(⟨#[103]⟩:ByteArray)]:(List ByteArray)),[],([5]:(List Nat))⟩:Circ)
theorem probecardlaw25_example_walk  {K:Circ→Prop} (hm:probecardlaw25_example_wp  K) {h0:Heap} (hB:HasB vars h0):∃ r,K r∧CallD Tryz.prog NG 29 ⟨[]⟩ h0 (encCirc r) h0:=by
 unfold probecardlaw25_example_wp at hm
 refine fw Tryz.func29 hB (enc:=encCirc) (fun r=>pure_circ _) fun O=>?_;conv=>whnf
 refine gX ?_
 refine O.new (anew_alloc (l:=[(.slice none 0 0),(.slice none 0 0),(.slice none 0 0),(.slice none 0 0)]) rfl rfl rfl) fun g1 h O=>?_;refine gH ?_
 refine gX ?_
 refine fz ?_;refine gH ?_
 refine fz ?_;refine gH ?_
 refine fz ?_;refine gH ?_
 refine fz ?_;refine gH ?_
 refine NewG.frzW rfl (VLe.els (s:=4) (es':=([(⟨0,([]:(List Nat)),0,0⟩:Node),(⟨0,([]:(List Nat)),0,0⟩:Node),(⟨5,([0,1]:(List Nat)),0,0⟩:Node),(⟨4,([0]:(List Nat)),0,0⟩:Node),(⟨5,([3,1]:(List Nat)),0,0⟩:Node),(⟨7,([2,4]:(List Nat)),0,0⟩:Node)]).map encNode) rfl (map_size (enc:=encNode) (s:=4) (fun _=>rfl) _) (LLe.cons (VLe.refl _ _) (LLe.cons (VLe.nil _ _) (LLe.cons (VLe.refl _ _) (LLe.cons (VLe.refl _ _) (LLe.cons (VLe.refl _ _) (LLe.cons (VLe.nil _ _) (LLe.cons (VLe.refl _ _) (LLe.cons (VLe.refl _ _) (LLe.cons (VLe.refl _ _) (LLe.cons (VLe.refl _ _) (LLe.cons (VLe.refl _ _) (LLe.cons (VLe.refl _ _) (LLe.cons (VLe.refl _ _) (LLe.cons (VLe.refl _ _) (LLe.cons (VLe.refl _ _) (LLe.cons (VLe.refl _ _) (LLe.cons (VLe.refl _ _) (LLe.cons (VLe.refl _ _) (LLe.cons (VLe.refl _ _) (LLe.cons (VLe.refl _ _) (LLe.cons (VLe.refl _ _) (LLe.cons (VLe.refl _ _) (LLe.cons (VLe.refl _ _) (LLe.cons (VLe.refl _ _) (LLe.nil _)))))))))))))))))))))))))) ?_;refine gH ?_
 refine fz ?_;refine gH ?_
 refine fz ?_;refine gH ?_
 refine O.stC 4 (.head _) [((encL 4 encNode) ([(⟨0,([]:(List Nat)),0,0⟩:Node),(⟨0,([]:(List Nat)),0,0⟩:Node),(⟨5,([0,1]:(List Nat)),0,0⟩:Node),(⟨4,([0]:(List Nat)),0,0⟩:Node),(⟨5,([3,1]:(List Nat)),0,0⟩:Node),(⟨7,([2,4]:(List Nat)),0,0⟩:Node)]:(List Node))),((encL 1 Value.string) ([(⟨#[97]⟩:ByteArray),(⟨#[98]⟩:ByteArray),(⟨#[100]⟩:ByteArray),(⟨#[101]⟩:ByteArray),(⟨#[102]⟩:ByteArray),(⟨#[103]⟩:ByteArray)]:(List ByteArray))),(.slice none 0 0),((encL 1 i64) ([5]:(List Nat)))] fun h O=>?_;refine gX ?_
 refine⟨_,resAggK rfl rfl (O.at (.head _)) rfl rfl (lbE rfl) rfl,?_⟩;conv=>whnf
 exact⟨(⟨([(⟨0,([]:(List Nat)),0,0⟩:Node),(⟨0,([]:(List Nat)),0,0⟩:Node),(⟨5,([0,1]:(List Nat)),0,0⟩:Node),(⟨4,([0]:(List Nat)),0,0⟩:Node),(⟨5,([3,1]:(List Nat)),0,0⟩:Node),(⟨7,([2,4]:(List Nat)),0,0⟩:Node)]:(List Node)),([(⟨#[97]⟩:ByteArray),(⟨#[98]⟩:ByteArray),(⟨#[100]⟩:ByteArray),(⟨#[101]⟩:ByteArray),(⟨#[102]⟩:ByteArray),(⟨#[103]⟩:ByteArray)]:(List ByteArray)),[],([5]:(List Nat))⟩:Circ),hm,O.ext,fun h2 F=>VLe.agg (LLe.cons (VLe.refl _ _) (LLe.cons (VLe.refl _ _) (LLe.cons (VLe.nil _ _) (LLe.cons (VLe.refl _ _) (LLe.nil _)))))⟩
def cmp_Or_int__wp (p0:(List Int)) (K:Int→Prop):Prop :=
 joinW (α:=Unit) (fun k1=>loopW (S:=Nat) (fun v2 nx3=>((ltN v2 p0.length)=true→∃ x4,p0[v2]?=some x4∧((neZ x4 (Int.ofNat 0))=true→K x4)∧((neZ x4 (Int.ofNat 0))=false→v2+1<2 ^ 63∧nx3 (v2+1)))∧((ltN v2 p0.length)=false→k1 ())) 0) (fun _=>K (Int.ofNat 0))
theorem cmp_Or_int__walk {p0:(List Int)}{K:Int→Prop} (hm:cmp_Or_int__wp p0 K) {h0:Heap} (hB:HasB vars h0):∃ r,K r∧CallD Tryz.prog NG 57 ⟨[(encL 1 z64) p0]⟩ h0 (z64 r) h0:=by
 unfold cmp_Or_int__wp at hm
 refine fw Tryz.func57 hB (enc:=z64) (fun r=>PureV.flat rfl) fun O=>?_;conv=>whnf
 apply Cs;conv=>whnf
 apply Cs;refine gH ?_
 apply Cs;conv=>whnf
 apply Cs;refine gH ?_
 refine jn hm 18 [3] (fun s=>s) (fun _ h=>Own vars h0 [] h) (fun _=>[]) (fun hm=>?_) ?_
 ·refine gX ?_
  refine lw 18 [3,6,7] (σ:=Nat) (fun s=>s) (fun v2 h=>Own vars h0 [] h) (fun v2=>[(8,(i64 v2))]) 0 hm O ?_
  clear hm;rintro v2 nx3 base h hm O
  refine gX ?_
  refine br hm (fun hm=>?_) fun hm=>?_
  ·refine gX ?_
   refine atF hm fun x4 hx4 hm=>?_;refine gX ?_
   refine br hm (fun hm=>?_) fun hm=>?_
   ·refine gX ?_
    exact fe hm O
   ·refine gX ?_
    refine aAdd hm fun hm=>?_;refine gH ?_
    exact jx (v2+1) hm O
  ·refine gX ?_
   exact jx () hm O
 ·clear hm;rintro _ base h hm O
  refine gX ?_
  exact fe hm O
def cmp_Compare_int__wp (p0:Nat) (p1:Nat) (K:Int→Prop):Prop :=
 cmp_isNaN_wp p0 (fun r1=>cmp_isNaN_wp p1 (fun r2=>(r1=true→(r2=true→K (Int.ofNat 0))∧(r2=false→K (Int.negSucc 0)))∧(r1=false→(r2=true→K (Int.ofNat 1))∧(r2=false→((ltN p0 p1)=true→K (Int.negSucc 0))∧((ltN p0 p1)=false→((ltN p1 p0)=true→K (Int.ofNat 1))∧((ltN p1 p0)=false→K (Int.ofNat 0)))))))
theorem cmp_Compare_int__walk {p0:Nat}{p1:Nat}{K:Int→Prop} (hm:cmp_Compare_int__wp p0 p1 K) {h0:Heap} (hB:HasB vars h0):∃ r,K r∧CallD Tryz.prog NG 81 ⟨[i64 p0,i64 p1]⟩ h0 (z64 r) h0:=by
 unfold cmp_Compare_int__wp at hm
 refine fw Tryz.func81 hB (enc:=z64) (fun r=>PureV.flat rfl) fun O=>?_;conv=>whnf
 refine gX ?_
 refine ca (cmp_isNaN_walk hm O.has) fun r1 hm=>?_;refine gX ?_
 refine ca (cmp_isNaN_walk hm O.has) fun r2 hm=>?_;refine gX ?_
 refine br hm (fun hm=>?_) fun hm=>?_
 ·refine gX ?_
  refine br hm (fun hm=>?_) fun hm=>?_
  ·refine gX ?_
   exact fe hm O
  ·refine gX ?_
   exact fe hm O
 ·refine gX ?_
  refine br hm (fun hm=>?_) fun hm=>?_
  ·refine gX ?_
   exact fe hm O
  ·refine gX ?_
   refine br hm (fun hm=>?_) fun hm=>?_
   ·refine gX ?_
    exact fe hm O
   ·refine gX ?_
    refine br hm (fun hm=>?_) fun hm=>?_
    ·refine gX ?_
     exact fe hm O
    ·refine gX ?_
     exact fe hm O
def api_Value__wp (p0:Nat) (p1:Nat) (K:Int→Prop):Prop :=
 ((neN p0 p0)=true→((neN p1 p1)=true→K (Int.ofNat 0))∧((neN p1 p1)=false→K (Int.negSucc 0)))∧((neN p0 p0)=false→((neN p1 p1)=true→K (Int.ofNat 1))∧((neN p1 p1)=false→((ltN p0 p1)=true→K (Int.negSucc 0))∧((ltN p0 p1)=false→((ltN p1 p0)=true→K (Int.ofNat 1))∧((ltN p1 p0)=false→K (Int.ofNat 0)))))
theorem api_Value__walk {p0:Nat}{p1:Nat}{K:Int→Prop} (hm:api_Value__wp p0 p1 K) {h0:Heap} (hB:HasB vars h0):∃ r,K r∧CallD Tryz.prog NG 94 ⟨[n8 p0,n8 p1]⟩ h0 (z64 r) h0:=by
 unfold api_Value__wp at hm
 refine fw Tryz.func94 hB (enc:=z64) (fun r=>PureV.flat rfl) fun O=>?_;conv=>whnf
 refine gX ?_
 refine fg Tryz.func122 ?_;refine gX ?_
 refine fg Tryz.func122 ?_;refine gX ?_
 refine br hm (fun hm=>?_) fun hm=>?_
 ·refine gX ?_
  refine br hm (fun hm=>?_) fun hm=>?_
  ·refine gX ?_
   exact fe hm O
  ·refine gX ?_
   exact fe hm O
 ·refine gX ?_
  refine br hm (fun hm=>?_) fun hm=>?_
  ·refine gX ?_
   exact fe hm O
  ·refine gX ?_
   refine br hm (fun hm=>?_) fun hm=>?_
   ·refine gX ?_
    exact fe hm O
   ·refine gX ?_
    refine br hm (fun hm=>?_) fun hm=>?_
    ·refine gX ?_
     exact fe hm O
    ·refine gX ?_
     exact fe hm O
def learns_order_wp (p0:Asg) (p1:Asg) (K:Int→Prop):Prop :=
 cmp_Compare_int__wp p0.net p1.net (fun r1=>api_Value__wp p0.value p1.value (fun r2=>2=([r1,r2]:(List Int)).length∧cmp_Or_int__wp ([r1,r2]:(List Int)) (fun r5=>K r5)))
theorem learns_order_walk {p0:Asg}{p1:Asg}{K:Int→Prop} (hm:learns_order_wp p0 p1 K) {h0:Heap} (hB:HasB vars h0):∃ r,K r∧CallD Tryz.prog NG 58 ⟨[encAsg p0,encAsg p1]⟩ h0 (z64 r) h0:=by
 unfold learns_order_wp at hm
 refine fw Tryz.func58 hB (enc:=z64) (fun r=>PureV.flat rfl) fun O=>?_;conv=>whnf
 refine gX ?_
 refine fz ?_;refine gH ?_
 refine fz ?_;refine gX ?_
 refine ca (cmp_Compare_int__walk hm O.has) fun r1 hm=>?_;refine gH ?_
 refine⟨.inl (Ext.refl _),?_⟩;refine gH ?_
 refine ca (api_Value__walk hm O.has) fun r2 hm=>?_;refine gH ?_
 refine⟨.inl (Ext.refl _),?_⟩;refine gH ?_
 refine O.buildLX (l:=([r1,r2]:(List Int))) (enc:=z64) (s:=1) (z:=(z64 0)) rfl rfl (by kernel_rfl) (by kernel_rfl) rfl rfl rfl rfl (fun _=>rfl) fun g3 h O=>?_;refine gH ?_
 obtain⟨hn6,hm⟩:=hm
 refine CallD.useB (fun _ hb=>cmp_Or_int__walk hm hb) (fun _=>flatB_ok rfl) fzVars O.has (fun h2 F=>(LLe.cons (O.flatL F (Nat.zero_le _) (.head _) (fun _=>rfl) hn6) (LLe.nil _))) (by kernel_rfl) (fun r5 hm'=>?_);replace hm:=hm';refine gH ?_
 refine⟨.inl (Ext.refl _),?_⟩;refine gH ?_
 refine gX ?_
 exact fe hm O
def learns_order2_wp (p0:Lawv) (p1:Lawv) (K:Int→Prop):Prop :=
 learns_order_wp p0.cond p1.cond (fun r1=>learns_order_wp p0.thn p1.thn (fun r2=>2=([r1,r2]:(List Int)).length∧cmp_Or_int__wp ([r1,r2]:(List Int)) (fun r5=>K r5)))
theorem learns_order2_walk {p0:Lawv}{p1:Lawv}{K:Int→Prop} (hm:learns_order2_wp p0 p1 K) {h0:Heap} (hB:HasB vars h0):∃ r,K r∧CallD Tryz.prog NG 56 ⟨[encLaw p0,encLaw p1]⟩ h0 (z64 r) h0:=by
 unfold learns_order2_wp at hm
 refine fw Tryz.func56 hB (enc:=z64) (fun r=>PureV.flat rfl) fun O=>?_;conv=>whnf
 refine gX ?_
 refine fz ?_;refine gH ?_
 refine fz ?_;refine gX ?_
 first|refine⟨.inr (.inr (rfl)),?_⟩|refine⟨.inr (.inl (by kernel_rfl)),?_⟩
 refine gX ?_
 first|refine⟨.inr (.inr (rfl)),?_⟩|refine⟨.inr (.inl (by kernel_rfl)),?_⟩
 refine gX ?_
 refine ca (learns_order_walk hm O.has) fun r1 hm=>?_;refine gH ?_
 refine⟨.inl (Ext.refl _),?_⟩;refine gH ?_
 first|refine⟨.inr (.inr (rfl)),?_⟩|refine⟨.inr (.inl (by kernel_rfl)),?_⟩
 refine gX ?_
 first|refine⟨.inr (.inr (rfl)),?_⟩|refine⟨.inr (.inl (by kernel_rfl)),?_⟩
 refine gX ?_
 refine ca (learns_order_walk hm O.has) fun r2 hm=>?_;refine gH ?_
 refine⟨.inl (Ext.refl _),?_⟩;refine gH ?_
 refine O.buildLX (l:=([r1,r2]:(List Int))) (enc:=z64) (s:=1) (z:=(z64 0)) rfl rfl (by kernel_rfl) (by kernel_rfl) rfl rfl rfl rfl (fun _=>rfl) fun g3 h O=>?_;refine gH ?_
 obtain⟨hn6,hm⟩:=hm
 refine CallD.useB (fun _ hb=>cmp_Or_int__walk hm hb) (fun _=>flatB_ok rfl) fzVars O.has (fun h2 F=>(LLe.cons (O.flatL F (Nat.zero_le _) (.head _) (fun _=>rfl) hn6) (LLe.nil _))) (by kernel_rfl) (fun r5 hm'=>?_);replace hm:=hm';refine gH ?_
 refine⟨.inl (Ext.refl _),?_⟩;refine gH ?_
 refine gX ?_
 exact fe hm O
def learns_list_wp (p0:(List Nat)) (K:(List Asg)→Prop):Prop :=
 joinW (α:=(List Asg)) (fun k5=>loopW (S:=((List Asg)×Nat)) (fun (v7,v8) nx10=>((ltN v8 p0.length)=true→joinW (α:=(List Asg)) (fun k14=>∃ x15,p0[v8]?=some x15∧((neN x15 2)=true→(v7.length+([(⟨v8,x15⟩:Asg)]:(List Asg)).length)*16≤2 ^ 47∧k14 (v7++([(⟨v8,x15⟩:Asg)]:(List Asg))))∧((neN x15 2)=false→k14 v7)) (fun v12=>v8+1<2 ^ 63∧nx10 (v12,(v8+1))))∧((ltN v8 p0.length)=false→k5 v7)) (([]:List Asg),0)) (fun v3=>K v3)
theorem learns_list_walkO {p0:(List Nat)}{K:(List Asg)→Prop} (hm:learns_list_wp p0 K) {h0:Heap} (hB:HasB vars h0):∃ v h',CallD Tryz.prog NG 54 ⟨[(encL 1 n8) p0]⟩ h0 v h'∧OwnRes vars h0 K (fun (r:(List Asg)) a=>growV 2 a (r.map encAsg)) (fun (r:(List Asg))=>r) encAsg false v h':=by
 unfold learns_list_wp at hm
 refine fg Tryz.func54 (Q:=OwnRes vars h0 K (fun (r:(List Asg)) a=>growV 2 a (r.map encAsg)) (fun (r:(List Asg))=>r) encAsg false) ?_;have O:=Own.start hB;conv=>whnf
 apply Cs;conv=>whnf
 apply Cs;refine gH ?_
 have O:=O.addNil (.cells (flatC ((([]:List Asg)).map encAsg)) false)
 refine jn (σ:=(List Asg)×Option Nat) hm 22 [] (fun s=>s.1) (fun (v3,a2) h=>(a2=none→v3=[])∧Own vars h0 [(a2,.cells (flatC (v3.map encAsg)) false)] h) (fun (v3,a2)=>[(2,(growV 2 a2 (v3.map encAsg)))]) (fun hm=>?_) ?_
 ·refine gX ?_
  refine lw 22 [5,6] (σ:=((List Asg)×Nat)×Option Nat) (fun s=>s.1) (fun ((v7,v8),a6) h=>(a6=none→v7=[])∧Own vars h0 [(a6,.cells (flatC (v7.map encAsg)) false)] h) (fun ((v7,v8),a6)=>[(2,(growV 2 a6 (v7.map encAsg))),(7,(i64 v8))]) ((([]:List Asg),0),none) hm ⟨(fun _=>rfl),O⟩ ?_
  clear hm;rintro⟨⟨v7,v8⟩,a6⟩ nx10 base h hm ⟨ha9,O⟩
  refine gX ?_
  refine br hm (fun hm=>?_) fun hm=>?_
  ·apply Cs;conv=>whnf
   refine jn (σ:=(List Asg)×Option Nat) hm 22 [5,6,7] (fun s=>s.1) (fun (v12,a11) h=>(a11=none→v12=[])∧Own vars h0 [(a11,.cells (flatC (v12.map encAsg)) false)] h) (fun (v12,a11)=>[(2,(growV 2 a11 (v12.map encAsg)))]) (fun hm=>?_) ?_
   ·refine gX ?_
    refine atF hm fun x15 hx15 hm=>?_;refine gX ?_
    refine br hm (fun hm=>?_) fun hm=>?_
    ·refine gX ?_
     refine fz ?_;refine gH ?_
     refine O.apL (enc:=encAsg) (l:=v7) (new:=([(⟨v8,x15⟩:Asg)]:(List Asg))) 2 (.head _) ha9 hm fun a16 h ha17 O hm=>?_;refine gH ?_
     exact jx ((v7++([(⟨v8,x15⟩:Asg)]:(List Asg))),a16) hm ⟨ha17,O⟩
    ·refine gX ?_
     exact jx (v7,a6) hm ⟨ha9,O⟩
   ·clear hm;rintro⟨v12,a11⟩ base h hm ⟨ha13,O⟩
    refine gX ?_
    refine aAdd hm fun hm=>?_;refine gH ?_
    exact jx ((v12,(v8+1)),a11) hm ⟨ha13,O⟩
  ·refine gX ?_
   exact jx (v7,a6) hm ⟨ha9,O⟩
 ·clear hm;rintro⟨v3,a2⟩ base h hm ⟨ha4,O⟩
  refine gX ?_
  exact⟨v3,a2,hm,VLe.refl _ _,ha4,(fun e=>nomatch e),O.sel [0] (by decide)⟩
theorem learns_list_walk {p0:(List Nat)}{K:(List Asg)→Prop} (hm:learns_list_wp p0 K) {h0:Heap} (hB:HasB vars h0):∃ r,K r∧CallD Tryz.prog NG 54 ⟨[(encL 1 n8) p0]⟩ h0 ((encL 2 encAsg) r) h0 :=
 valO (learns_list_walkO hm hB) (fk Tryz.func54) (fun r=>pureL (fun _=>pure_asgC _)) (fun r a h1 h3 O F ha h2=>O.grownL F (Nat.le_refl _) (.head _) ha (fun _=>rfl))
def learns_common_wp (p0:Nat) (p1:Nat) (K:Nat→Prop):Prop :=
 ((eqN p0 p1)=true→K p0)∧((eqN p0 p1)=false→K 2)
theorem learns_common_walk {p0:Nat}{p1:Nat}{K:Nat→Prop} (hm:learns_common_wp p0 p1 K) {h0:Heap} (hB:HasB vars h0):∃ r,K r∧CallD Tryz.prog NG 96 ⟨[n8 p0,n8 p1]⟩ h0 (n8 r) h0:=by
 unfold learns_common_wp at hm
 refine fw Tryz.func96 hB (enc:=n8) (fun r=>PureV.flat rfl) fun O=>?_;conv=>whnf
 refine gX ?_
 refine br hm (fun hm=>?_) fun hm=>?_
 ·refine gX ?_
  exact fe hm O
 ·refine gX ?_
  exact fe hm O
end Go.Proofs.YteanlacbmiiloaaGreatDoor
