/-
  J0, J1, Ln2, W0, Keys, Par: parts of the proof.
-/
import Derived.Test.YtgiedjgdlckahaaGreatDoorTk42
namespace Go.Proofs.YtgiedjgdlckahaaGreatDoor
open Go.Abs
set_option maxRecDepth 100000
set_option maxHeartbeats 8000000
def cZ (p0:Circ) (K:Nat->Prop):Prop :=
 cw p0 (fun r1=>((neN r1 0)=true->K r1)/\((neN r1 0)=false->((ltN 0 p0.mems.length)=true->K 7)/\((ltN 0 p0.mems.length)=false->K 0)))
theorem kz {p0:Circ}{K:Nat->Prop} (hm:cZ p0 K) {h0:Heap} (hB:HasB vars h0):∃ r,K r/\CallD Tryz.prog NG 79 ⟨[ar p0]⟩ h0 (i64 r) h0:=by
 unfold cZ at hm
 refine fw Tryz.func79 hB (enc:=i64) (fun r=>PureV.flat rfl) fun O=>?_;conv=>whnf
 refine gX ?_;refine fz ?_;refine gX ?_;refine ca (jl hm O.has) fun r1 hm=>?_;refine gX ?_;refine br hm (fun hm=>?_) fun hm=>?_
 ·refine gX ?_;exact fe hm O
 ·refine gX ?_;refine br hm (fun hm=>?_) fun hm=>?_
  ·refine gX ?_;exact fe hm O
  ·refine gX ?_;exact fe hm O
def gM (p0:Circ) (p1:Nat) (K:(List Bool)->Prop):Prop :=
 1*p0.nodes.length<=2 ^ 48/\p0.nodes.length<2 ^ 63/\p1<p0.nodes.length/\∃ x3,(List.replicate p0.nodes.length (false:Bool))[p1]?=some x3/\an (α:=(List Bool)) (fun k5=>aF (S:=((List Bool)×(List Nat))) (fun (v8,v12) nx15=>((ltN 0 v12.length)=true->1<=v12.length/\v12.length<2 ^ 63/\∃ x16,v12[(v12.length-1)]?=some x16/\1<=v12.length/\v12.length<2 ^ 63/\(v12.length-1)<=v12.length/\∃ x18,p0.nodes[x16]?=some x18/\((eqN x18.kind 14)=true->nx15 (v8,(v12.take (v12.length-1))))/\((eqN x18.kind 14)=false->∃ x19,p0.nodes[x16]?=some x19/\aF (S:=((List Bool)×(List Nat)×Nat)) (fun (v20,v24,v25) nx28=>((ltN v25 x19.ins.length)=true->an (α:=((List Bool)×(List Nat))) (fun k36=>∃ x37,x19.ins[v25]?=some x37/\x37<p0.nodes.length/\∃ x38,v20[x37]?=some x38/\((!x38)=true->(v24.length+([x37]:(List Nat)).length)*8<=2 ^ 47/\x37<p0.nodes.length/\∃ x44,v20[x37]?=some x44/\k36 ((v20.set x37 true),(v24++([x37]:(List Nat)))))/\((!x38)=false->k36 (v20,v24))) (fun (v29,v33)=>v25+1<2 ^ 63/\nx28 (v29,v33,(v25+1))))/\((ltN v25 x19.ins.length)=false->nx15 (v20,v24))) (v8,(v12.take (v12.length-1)),0)))/\((ltN 0 v12.length)=false->k5 v8)) (((List.replicate p0.nodes.length (false:Bool)).set p1 true),([p1]:(List Nat)))) (fun v4=>p0.nodes.length=v4.length/\K v4)
theorem lp {p0:Circ}{p1:Nat}{K:(List Bool)->Prop} (hm:gM p0 p1 K) {h0:Heap} (hB:HasB vars h0):∃ r,K r/\CallD Tryz.prog NG 184 ⟨[ar p0,i64 p1]⟩ h0 ((ah 1 Value.bool) r) h0:=by
 unfold gM at hm
 refine fw Tryz.func184 hB (enc:=(ah 1 Value.bool)) (fun r=>cF (fun _=>AllPure.cons (PureV.flat rfl) AllPure.nil)) fun O=>?_;conv=>whnf
 refine gX ?_;refine fz ?_;refine gX ?_;refine O.mkL (enc:=Value.bool) 1 1 false hm fun g1 h O hm=>?_;refine gX ?_;refine ix 1 hm fun x3 hx3 hm=>?_;refine gH ?_;refine O.stE 1 (.head _) hx3 true fun h O=>?_;refine gH ?_;refine jn hm 65 [5] (fun s=>s) (fun v4 h=>Own vars h0 [(sC g1 (flatC (v4.map Value.bool)))] h) (fun v4=>[]) (fun hm=>?_) ?_
 ·refine gX ?_;refine O.uO (l:=([p1]:(List Nat))) (enc:=i64) (s:=1) (z:=(i64 0)) rfl rfl (by kernel_rfl) (by kernel_rfl) rfl rfl rfl rfl (fun _=>rfl) fun g6 h O=>?_;refine gX ?_;refine lw 65 [2,5] (σ:=((List Bool)×(List Nat))×(Option Nat×Option Nat×(List Nat))) (fun s=>s.1) (fun ((v8,v12),(a9,a10,a11)) h=>(a9=none->v12++a11=[])/\(a10=none\/a10=some 1)/\Own vars h0 [(sC g1 (flatC (v8.map Value.bool))),(a9,.cells (flatC ((v12++a11).map i64)) false)] h) (fun ((v8,v12),(a9,a10,a11))=>[(6,(stV i64 a9 a10 v12 a11))]) ((((List.replicate p0.nodes.length (false:Bool)).set p1 true),([p1]:(List Nat))),((some g6),none,([]:(List Nat)))) hm ⟨cE,(.inl rfl),(O.sel [1,0] (by decide))⟩ ?_;clear hm;rintro⟨⟨v8,v12⟩,⟨a9,a10,a11⟩⟩ nx15 base h hm ⟨ha13,ht14,O⟩;refine gX ?_;refine br hm (fun hm=>?_) fun hm=>?_
  ·refine gX ?_;refine nW hm fun hm=>?_;refine gH ?_;obtain⟨x16,hx16,hm⟩:=hm;have h9:=hm;obtain⟨g17,rfl⟩:=Fe ha13 hx16;replace hm:=h9;refine bb (s:=1) (j:=(v12.length-1)) rfl rfl rfl rfl (ag hx16) ?_;refine gH ?_;replace hx16:=Ic (J:=a11) hx16;refine ldE (s:=1) (i:=0) O.i1 hx16 ?_;refine gX ?_;refine nW hm fun hm=>?_;refine gH ?_;refine Ih (enc:=i64) (l:=v12) (J:=a11) (s:=1) (k:=(v12.length-1)) rfl rfl rfl ht14 rfl hm.1 ?_;refine gX ?_;rw[Jw (enc:=i64) v12 a11 (v12.length-1)] at O;replace hm:=hm.2;refine atF hm fun x18 hx18 hm=>?_;refine gX ?_;refine br hm (fun hm=>?_) fun hm=>?_
   ·refine gX ?_;exact jx ((v8,(v12.take (v12.length-1))),((some g17),a10,(v12.drop (v12.length-1)++a11))) hm ⟨cE,ht14,O⟩
   ·refine gX ?_;refine atF hm fun x19 hx19 hm=>?_;refine gX ?_;refine lw 65 [2,5,45,46] (σ:=((List Bool)×(List Nat)×Nat)×(Option Nat×Option Nat×(List Nat))) (fun s=>s.1) (fun ((v20,v24,v25),(a21,a22,a23)) h=>(a21=none->v24++a23=[])/\(a22=none\/a22=some 1)/\Own vars h0 [(sC g1 (flatC (v20.map Value.bool))),(a21,.cells (flatC ((v24++a23).map i64)) false)] h) (fun ((v20,v24,v25),(a21,a22,a23))=>[(6,(stV i64 a21 a22 v24 a23)),(47,(i64 v25))]) ((v8,(v12.take (v12.length-1)),0),((some g17),a10,(v12.drop (v12.length-1)++a11))) hm ⟨cE,ht14,O⟩ ?_;clear hm;rintro⟨⟨v20,v24,v25⟩,⟨a21,a22,a23⟩⟩ nx28 base h hm ⟨ha26,ht27,O⟩;refine gX ?_;refine br hm (fun hm=>?_) fun hm=>?_
    ·apply Cs;conv=>whnf
     refine jn (σ:=((List Bool)×(List Nat))×(Option Nat×Option Nat×(List Nat))) hm 65 [2,5,45,46,47] (fun s=>s.1) (fun ((v29,v33),(a30,a31,a32)) h=>(a30=none->v33++a32=[])/\(a31=none\/a31=some 1)/\Own vars h0 [(sC g1 (flatC (v29.map Value.bool))),(a30,.cells (flatC ((v33++a32).map i64)) false)] h) (fun ((v29,v33),(a30,a31,a32))=>[(6,(stV i64 a30 a31 v33 a32))]) (fun hm=>?_) ?_
     ·refine gX ?_;refine atF hm fun x37 hx37 hm=>?_;refine gX ?_;refine ix 1 hm fun x38 hx38 hm=>?_;refine gH ?_;refine ldE (s:=1) (i:=0) O.i0 hx38 ?_;refine gX ?_;refine br hm (fun hm=>?_) fun hm=>?_
      ·refine gX ?_;refine fz ?_;refine gH ?_;refine O.A7 (enc:=i64) (l:=v24) (J:=a23) (new:=([x37]:(List Nat))) (s:=1) (b:=8) (.tail _ (.head _)) ha26 ht27 rfl rfl rfl rfl rfl rfl rfl rfl (YOk.fl rfl) (fun _=>rfl) (fun _=>rfl) (by decide) hm.1 fun a39 a40 a41 h ha42 ht43 O=>?_;refine gH ?_;replace hm:=hm.2;refine ix 1 hm fun x44 hx44 hm=>?_;refine gH ?_;refine O.stE 1 (.head _) hx44 true fun h O=>?_;refine gH ?_;exact jx (((v20.set x37 true),(v24++([x37]:(List Nat)))),(a39,a40,a41)) hm ⟨ha42,ht43,O⟩
      ·refine gX ?_;exact jx ((v20,v24),(a21,a22,a23)) hm ⟨ha26,ht27,O⟩
     ·clear hm;rintro⟨⟨v29,v33⟩,⟨a30,a31,a32⟩⟩ base h hm ⟨ha34,ht35,O⟩;refine gX ?_;refine aH hm fun hm=>?_;refine gH ?_;exact jx ((v29,v33,(v25+1)),(a30,a31,a32)) hm ⟨ha34,ht35,O⟩
    ·refine gX ?_;exact jx ((v20,v24),(a21,a22,a23)) hm ⟨ha26,ht27,O⟩
  ·refine gX ?_;exact jx v8 hm (O.sel [0] (by decide))
 ·clear hm;rintro v4 base h hm O;refine gX ?_;obtain⟨hn45,hm⟩:=hm;exact⟨v4,hm,O.ext,fun h2 F=>O.gA F (Nat.le_refl _) (.head _) (fun _=>rfl) hn45⟩
def ee (p0:Circ) (p1:LnZ) (K:Bool->Prop):Prop :=
 ((!ltN p1.node 0)=true->((ltN p1.node p0.nodes.length)=true->((!ltI p1.pin (Int.negSucc 0))=true->∃ x1,p0.nodes[p1.node]?=some x1/\K (ltI p1.pin (Int.ofNat x1.ins.length)))/\((!ltI p1.pin (Int.negSucc 0))=false->K false))/\((ltN p1.node p0.nodes.length)=false->K false))/\((!ltN p1.node 0)=false->K false)
theorem re {p0:Circ}{p1:LnZ}{K:Bool->Prop} (hm:ee p0 p1 K) {h0:Heap} (hB:HasB vars h0):∃ r,K r/\CallD Tryz.prog NG 138 ⟨[ar p0,dC p1]⟩ h0 (Value.bool r) h0:=by
 unfold ee at hm
 refine fw Tryz.func138 hB (enc:=Value.bool) (fun r=>PureV.flat rfl) fun O=>?_;conv=>whnf
 refine gX ?_;refine fz ?_;refine gH ?_;refine fz ?_;refine gX ?_;refine br hm (fun hm=>?_) fun hm=>?_
 ·refine gX ?_;refine dF ?_;refine gX ?_;refine br hm (fun hm=>?_) fun hm=>?_
  ·refine gX ?_;refine br hm (fun hm=>?_) fun hm=>?_
   ·refine gX ?_;refine dF ?_;refine gX ?_;refine atF hm fun x1 hx1 hm=>?_;refine gH ?_;refine dF ?_;refine gX ?_;exact fe hm O
   ·refine gX ?_;exact fe hm O
  ·refine gX ?_;refine bf ?_;refine gX ?_;exact fe hm O
 ·refine gX ?_;refine bf ?_;refine gH ?_;refine bf ?_;refine gX ?_;exact fe hm O
def iv (p0:Circ) (p1:Flt) (K:Nat->Prop):Prop :=
 an (α:=Bool) (fun k2=>((neZ p1.line.pin (Int.negSucc 0))=true->k2 true)/\((neZ p1.line.pin (Int.negSucc 0))=false->((ltN p1.other 0)=true->k2 true)/\((ltN p1.other 0)=false->((!ltN p1.other p0.nodes.length)=true->k2 true)/\((!ltN p1.other p0.nodes.length)=false->((eqN p1.line.node p1.other)=true->k2 true)/\((eqN p1.line.node p1.other)=false->((eqN p1.model 2)=true->((ltN p1.other p1.line.node)=true->k2 true)/\((ltN p1.other p1.line.node)=false->((eqN p1.model 3)=true->k2 (neN p1.value 0))/\((eqN p1.model 3)=false->k2 false)))/\((eqN p1.model 2)=false->((eqN p1.model 3)=true->k2 (neN p1.value 0))/\((eqN p1.model 3)=false->k2 false))))))) (fun v1=>(v1=true->K 1)/\(v1=false->an (α:=Bool) (fun k4=>∃ x5,p0.nodes[p1.line.node]?=some x5/\((eqN x5.kind 12)=true->k4 true)/\((eqN x5.kind 12)=false->∃ x6,p0.nodes[p1.other]?=some x6/\k4 (eqN x6.kind 12))) (fun v3=>(v3=true->K 7)/\(v3=false->an (α:=Bool) (fun k8=>gM p0 p1.line.node (fun r9=>∃ x10,r9[p1.other]?=some x10/\(x10=true->k8 true)/\(x10=false->gM p0 p1.other (fun r11=>∃ x12,r11[p1.line.node]?=some x12/\k8 x12)))) (fun v7=>(v7=true->K 6)/\(v7=false->K 0))))))
theorem oZ {p0:Circ}{p1:Flt}{K:Nat->Prop} (hm:iv p0 p1 K) {h0:Heap} (hB:HasB vars h0):∃ r,K r/\CallD Tryz.prog NG 139 ⟨[ar p0,az p1]⟩ h0 (i64 r) h0:=by
 unfold iv at hm
 refine fw Tryz.func139 hB (enc:=i64) (fun r=>PureV.flat rfl) fun O=>?_;conv=>whnf
 refine gX ?_;refine fz ?_;refine gH ?_;refine fz ?_;refine gH ?_
 apply Cs;conv=>whnf
 apply Cs;refine gH ?_
 apply Cs;conv=>whnf
 apply Cs;conv=>whnf
 refine jn hm 85 [2,5,6] (fun s=>s) (fun v1 h=>Own vars h0 [] h) (fun v1=>[(12,(.bool v1))]) (fun hm=>?_) ?_
 ·refine gX ?_;refine br hm (fun hm=>?_) fun hm=>?_
  ·refine gX ?_;refine bt ?_;refine gH ?_;refine bt ?_;refine gH ?_;refine bt ?_;refine gH ?_;refine bt ?_;refine gH ?_;exact jx true hm O
  ·refine gX ?_;refine br hm (fun hm=>?_) fun hm=>?_
   ·refine gX ?_;refine bt ?_;refine gH ?_;refine bt ?_;refine gH ?_;refine bt ?_;refine gH ?_;exact jx true hm O
   ·refine gX ?_;refine br hm (fun hm=>?_) fun hm=>?_
    ·refine gX ?_;refine bt ?_;refine gH ?_;refine bt ?_;refine gH ?_;exact jx true hm O
    ·refine gX ?_;refine br hm (fun hm=>?_) fun hm=>?_
     ·refine gX ?_;refine bt ?_;refine gH ?_;exact jx true hm O
     ·refine gX ?_;refine br hm (fun hm=>?_) fun hm=>?_
      ·refine gX ?_;refine br hm (fun hm=>?_) fun hm=>?_
       ·refine gX ?_;exact jx true hm O
       ·refine gX ?_;refine br hm (fun hm=>?_) fun hm=>?_
        ·refine gX ?_;exact jx (neN p1.value 0) hm O
        ·refine gX ?_;exact jx false hm O
      ·refine gX ?_;refine bf ?_;refine gH ?_;refine br hm (fun hm=>?_) fun hm=>?_
       ·refine gX ?_;exact jx (neN p1.value 0) hm O
       ·refine gX ?_;exact jx false hm O
 ·clear hm;rintro v1 base h hm O;refine gX ?_;refine br hm (fun hm=>?_) fun hm=>?_
  ·refine gX ?_;exact fe hm O
  ·refine jn hm 85 [2,5,6] (fun s=>s) (fun v3 h=>Own vars h0 [] h) (fun v3=>[(53,(.bool v3))]) (fun hm=>?_) ?_
   ·refine gX ?_;refine atF hm fun x5 hx5 hm=>?_;refine gH ?_;refine br hm (fun hm=>?_) fun hm=>?_
    ·refine gX ?_;exact jx true hm O
    ·refine gX ?_;refine atF hm fun x6 hx6 hm=>?_;refine gH ?_;exact jx (eqN x6.kind 12) hm O
   ·clear hm;rintro v3 base h hm O;refine gX ?_;refine br hm (fun hm=>?_) fun hm=>?_
    ·refine gX ?_;exact fe hm O
    ·refine jn hm 85 [] (fun s=>s) (fun v7 h=>Own vars h0 [] h) (fun v7=>[(70,(.bool v7))]) (fun hm=>?_) ?_
     ·refine gX ?_;refine ca (lp hm O.has) fun r9 hm=>?_;refine gH ?_;refine atF hm fun x10 hx10 hm=>?_;refine gH ?_;refine br hm (fun hm=>?_) fun hm=>?_
      ·refine gX ?_;exact jx true hm O
      ·refine gX ?_;refine ca (lp hm O.has) fun r11 hm=>?_;refine gH ?_;refine atF hm fun x12 hx12 hm=>?_;refine gH ?_;exact jx x12 hm O
     ·clear hm;rintro v7 base h hm O;refine gX ?_;refine br hm (fun hm=>?_) fun hm=>?_
      ·refine gX ?_;exact fe hm O
      ·refine gX ?_;exact fe hm O
def faults_Check_wp (p0:Circ) (p1:Flt) (K:Nat->Prop):Prop :=
 cZ p0 (fun r1=>((neN r1 0)=true->K r1)/\((neN r1 0)=false->an (α:=Bool) (fun k3=>((ltN 3 p1.model)=true->k3 true)/\((ltN 3 p1.model)=false->((ltN 1 p1.value)=true->k3 true)/\((ltN 1 p1.value)=false->ee p0 p1.line (fun r4=>k3 (!r4))))) (fun v2=>(v2=true->K 1)/\(v2=false->((!ltN p1.model 2)=true->iv p0 p1 (fun r5=>K r5))/\((!ltN p1.model 2)=false->((neN p1.other 0)=true->K 1)/\((neN p1.other 0)=false->K 0))))))
theorem km {p0:Circ}{p1:Flt}{K:Nat->Prop} (hm:faults_Check_wp p0 p1 K) {h0:Heap} (hB:HasB vars h0):∃ r,K r/\CallD Tryz.prog NG 68 ⟨[ar p0,az p1]⟩ h0 (i64 r) h0:=by
 unfold faults_Check_wp at hm
 refine fw Tryz.func68 hB (enc:=i64) (fun r=>PureV.flat rfl) fun O=>?_;conv=>whnf
 refine gX ?_;refine fz ?_;refine gH ?_;refine fz ?_;refine gX ?_;refine ca (kz hm O.has) fun r1 hm=>?_;refine gX ?_;refine br hm (fun hm=>?_) fun hm=>?_
 ·refine gX ?_;exact fe hm O
 ·apply Cs;conv=>whnf
  apply Cs;conv=>whnf
  apply Cs;conv=>whnf
  refine jn hm 38 [2,3] (fun s=>s) (fun v2 h=>Own vars h0 [] h) (fun v2=>[(11,(.bool v2))]) (fun hm=>?_) ?_
  ·refine gX ?_;refine br hm (fun hm=>?_) fun hm=>?_
   ·refine gX ?_;refine bt ?_;refine gH ?_;exact jx true hm O
   ·refine gX ?_;refine br hm (fun hm=>?_) fun hm=>?_
    ·refine gX ?_;exact jx true hm O
    ·refine gX ?_;refine ca (re hm O.has) fun r4 hm=>?_;refine gH ?_;exact jx (!r4) hm O
  ·clear hm;rintro v2 base h hm O;refine gX ?_;refine br hm (fun hm=>?_) fun hm=>?_
   ·refine gX ?_;exact fe hm O
   ·refine gX ?_;refine br hm (fun hm=>?_) fun hm=>?_
    ·refine gX ?_;refine ca (oZ hm O.has) fun r5 hm=>?_;refine gX ?_;exact fe hm O
    ·refine gX ?_;refine br hm (fun hm=>?_) fun hm=>?_
     ·refine gX ?_;exact fe hm O
     ·refine gX ?_;exact fe hm O
def cb (p0:Circ) (K:((List LnZ)×Nat)->Prop):Prop :=
 cZ p0 (fun r1=>((neN r1 0)=true->K ([],r1))/\((neN r1 0)=false->an (α:=(List LnZ)) (fun k6=>aF (S:=((List LnZ)×Nat)) (fun (v8,v9) nx11=>((ltN v9 p0.nodes.length)=true->an (α:=(List LnZ)) (fun k15=>∃ x16,p0.nodes[v9]?=some x16/\x16.ins.length+1<2 ^ 63/\aF (S:=((List LnZ)×Nat)) (fun (v20,v21) nx23=>((ltN v21 (x16.ins.length+1))=true -> -(2 ^ 63)<=((Int.ofNat v21)-(Int.ofNat 1))/\((Int.ofNat v21)-(Int.ofNat 1))<2 ^ 63/\(v20.length+([(⟨v9,((Int.ofNat v21)-(Int.ofNat 1))⟩:LnZ)]:(List LnZ)).length)*16<=2 ^ 47/\v21+1<2 ^ 63/\nx23 ((v20++([(⟨v9,((Int.ofNat v21)-(Int.ofNat 1))⟩:LnZ)]:(List LnZ))),(v21+1)))/\((ltN v21 (x16.ins.length+1))=false->k15 v20)) (v8,0)) (fun v13=>v9+1<2 ^ 63/\nx11 (v13,(v9+1))))/\((ltN v9 p0.nodes.length)=false->k6 v8)) (([]:List LnZ),0)) (fun v4=>K (v4,0))))
theorem gK {p0:Circ}{K:((List LnZ)×Nat)->Prop} (hm:cb p0 K) {h0:Heap} (hB:HasB vars h0):∃ r,K r/\CallD Tryz.prog NG 27 ⟨[ar p0]⟩ h0 ((fun (r:((List LnZ)×Nat))=>Value.tuple ⟨[(ah 2 dC) (r.1),i64 (r.2)]⟩) r) h0:=by
 unfold cb at hm
 refine fw Tryz.func27 hB (enc:=(fun (r:((List LnZ)×Nat))=>Value.tuple ⟨[(ah 2 dC) (r.1),i64 (r.2)]⟩)) (fun r=>PureV.tup (AllPure.cons (cF (fun _=>DL _)) (AllPure.cons (PureV.flat rfl) (AllPure.nil)))) fun O=>?_;conv=>whnf
 refine gX ?_;refine fz ?_;refine gX ?_;refine ca (kz hm O.has) fun r1 hm=>?_;refine gX ?_;refine br hm (fun hm=>?_) fun hm=>?_
 ·refine gX ?_;exact⟨([],r1),hm,O.ext,fun h2 F=>VLe.tup (LLe.cons (VLe.nil _ _) (LLe.cons (VLe.refl _ _) (LLe.nil _)))⟩
 ·apply Cs;conv=>whnf
  apply Cs;conv=>whnf
  apply Cs;refine gH ?_;have O:=O.bC (.cells (flatC ((([]:List LnZ)).map dC)) false);refine jn (σ:=(List LnZ)×Option Nat) hm 40 [] (fun s=>s.1) (fun (v4,a3) h=>(a3=none->v4=[])/\Own vars h0 [(a3,.cells (flatC (v4.map dC)) false)] h) (fun (v4,a3)=>[(5,(ae 2 a3 (v4.map dC)))]) (fun hm=>?_) ?_
  ·refine gX ?_;refine lw 40 [15,16] (σ:=((List LnZ)×Nat)×Option Nat) (fun s=>s.1) (fun ((v8,v9),a7) h=>(a7=none->v8=[])/\Own vars h0 [(a7,.cells (flatC (v8.map dC)) false)] h) (fun ((v8,v9),a7)=>[(5,(ae 2 a7 (v8.map dC))),(17,(i64 v9))]) ((([]:List LnZ),0),none) hm ⟨(fun _=>rfl),O⟩ ?_;clear hm;rintro⟨⟨v8,v9⟩,a7⟩ nx11 base h hm ⟨ha10,O⟩;refine gX ?_;refine br hm (fun hm=>?_) fun hm=>?_
   ·apply Cs;conv=>whnf
    refine jn (σ:=(List LnZ)×Option Nat) hm 40 [15,16,17] (fun s=>s.1) (fun (v13,a12) h=>(a12=none->v13=[])/\Own vars h0 [(a12,.cells (flatC (v13.map dC)) false)] h) (fun (v13,a12)=>[(5,(ae 2 a12 (v13.map dC)))]) (fun hm=>?_) ?_
    ·refine gX ?_;refine atF hm fun x16 hx16 hm=>?_;refine gH ?_;refine O.new (ai (l:=[(n8 0),nS,(i64 0),(i64 0)]) rfl rfl rfl) fun g17 h O=>?_;refine gH ?_;refine O.stC 4 (.head _) [(n8 x16.kind),((ah 1 i64) x16.ins),(i64 x16.mem),(i64 x16.bit)] fun h O=>?_;refine gX ?_;refine aH hm fun hm=>?_;refine gX ?_;refine lw 40 [6,15,16,17,25] (σ:=((List LnZ)×Nat)×Option Nat) (fun s=>s.1) (fun ((v20,v21),a19) h=>(a19=none->v20=[])/\Own vars h0 [(a19,.cells (flatC (v20.map dC)) false)] h) (fun ((v20,v21),a19)=>[(5,(ae 2 a19 (v20.map dC))),(26,(i64 v21))]) ((v8,0),a7) hm ⟨ha10,(O.sel [1] (by decide))⟩ ?_;clear hm;rintro⟨⟨v20,v21⟩,a19⟩ nx23 base h hm ⟨ha22,O⟩;refine gX ?_;refine br hm (fun hm=>?_) fun hm=>?_
     ·refine gX ?_;refine⟨_,Fw (a:=(Int.ofNat v21)) (b:=(Int.ofNat 1)) rfl rfl hm.1 hm.2.1,?_⟩;refine gH ?_;replace hm:=hm.2.2;refine fz ?_;refine gH ?_;refine O.apL (enc:=dC) (l:=v20) (new:=([(⟨v9,((Int.ofNat v21)-(Int.ofNat 1))⟩:LnZ)]:(List LnZ))) 2 (.head _) ha22 hm fun a24 h ha25 O hm=>?_;refine gX ?_;refine aH hm fun hm=>?_;refine gH ?_;exact jx (((v20++([(⟨v9,((Int.ofNat v21)-(Int.ofNat 1))⟩:LnZ)]:(List LnZ))),(v21+1)),a24) hm ⟨ha25,O⟩
     ·refine gX ?_;exact jx (v20,a19) hm ⟨ha22,O⟩
    ·clear hm;rintro⟨v13,a12⟩ base h hm ⟨ha14,O⟩;refine gX ?_;refine aH hm fun hm=>?_;refine gH ?_;exact jx ((v13,(v9+1)),a12) hm ⟨ha14,O⟩
   ·refine gX ?_;exact jx (v8,a7) hm ⟨ha10,O⟩
  ·clear hm;rintro⟨v4,a3⟩ base h hm ⟨ha5,O⟩;refine gX ?_;refine fg Tryz.func35 ?_;refine gX ?_;refine ui (s:=2) (enc:=dC) (l:=v4) (n:=v4.length) (m:=v4.length) rfl rfl rfl rfl rfl rfl rfl ?_;refine gX ?_;exact⟨(v4,0),hm,O.ext,fun h2 F=>VLe.tup (LLe.cons (O.B0 F (Nat.le_refl _) (.head _) ha5 (fun _=>rfl)) (LLe.cons (VLe.refl _ _) (LLe.nil _)))⟩
set_option maxHeartbeats 8000000
abbrev clo (f:FuncId) (l:List Value):Value:=.func (.func f) ⟨[]⟩ ⟨l⟩
structure N2 where
 a:Nat
 b:Nat
deriving DecidableEq
def aM (x:N2):Value:=.agg ⟨[i64 x.a,i64 x.b]⟩
structure Rul where
 pin:Nat
 out:Nat
def qH (x:Rul):Value:=.agg ⟨[n8 x.pin,n8 x.out]⟩
theorem wv (x:Rul):AllPure (cl (qH x)):=AllPure.cons (PureV.flat rfl) (AllPure.cons (PureV.flat rfl) AllPure.nil)
theorem FO (x:Rul):PureV (qH x):=PureV.agg (wv x)
structure Sus where
 fault:Nat
 both:Nat
 missed:Nat
 extra:Nat
deriving DecidableEq
set_option maxHeartbeats 80000000
def er (c:Circ) (K:((List Nat)×(List Nat)×Nat)->Prop):Prop :=
 an (α:=((List Nat)×Nat)) (fun k10=>aF (S:=((List Nat)×Nat×Nat)) (fun (v12,v13,v14) nx16=>((ltN v14 c.nodes.length)=true->∃ x17,c.nodes[v14]?=some x17/\(v12.length+([v13]:(List Nat)).length)*8<=2 ^ 47/\x17.ins.length+1<2 ^ 63/\2*(x17.ins.length+1)<2 ^ 63/\v13+(2*(x17.ins.length+1))<2 ^ 63/\v14+1<2 ^ 63/\nx16 ((v12++([v13]:(List Nat))),(v13+(2*(x17.ins.length+1))),(v14+1)))/\((ltN v14 c.nodes.length)=false->k10 (v12,v13))) (([]:List Nat),0,0)) (fun (v7,v8)=>8*v8<=2 ^ 48/\v8<2 ^ 63/\an (α:=(List Nat)) (fun k27=>aF (S:=((List Nat)×Nat)) (fun (v28,v29) nx31=>((ltN v29 v8)=true->v29<v8/\∃ x32,v28[v29]?=some x32/\v29+1<2 ^ 63/\nx31 ((v28.set v29 v29),(v29+1)))/\((ltN v29 v8)=false->k27 v28)) ((List.replicate v8 (0:Nat)),0)) (fun v25=>K (v7,v25,v8)))
theorem rB {c:Circ}  {L:List Slot}{K:((List Nat)×(List Nat)×Nat)->Prop} (hm:er c K) {h0 h:Heap}  (O:Own vars h0 (L) h):∃ v h',CallD Tryz.prog NG 204 ⟨[(ar c)]⟩ h v h'/\∃ (w2:(List Nat)) (w4:(List Nat)) (w5:Nat) (b0:Nat) (b1:Option Nat) (b3:Nat),K (w2,w4,w5)/\v=(.pointer (some ⟨b0,0,none⟩))/\(b1=none->w2=[])/\Own vars h0 (((some b0),.cells [(ae 1 b1 (w2.map i64)),(.slice (some ⟨b3,0,none⟩) w5 w5)] false)::(b1,.cells (flatC (w2.map i64)) false)::((some b3),.cells (flatC (w4.map i64)) false)::L) h'/\True:=by
 unfold er at hm
 refine fg Tryz.func204 (Q:=fun v h'=>∃ (w2:(List Nat)) (w4:(List Nat)) (w5:Nat) (b0:Nat) (b1:Option Nat) (b3:Nat),K (w2,w4,w5)/\v=(.pointer (some ⟨b0,0,none⟩))/\(b1=none->w2=[])/\Own vars h0 (((some b0),.cells [(ae 1 b1 (w2.map i64)),(.slice (some ⟨b3,0,none⟩) w5 w5)] false)::(b1,.cells (flatC (w2.map i64)) false)::((some b3),.cells (flatC (w4.map i64)) false)::L) h'/\True) ?_;conv=>whnf
 refine gX ?_;refine fz ?_;refine gX ?_;have O:=O.bC (.cells (flatC ((([]:List Nat)).map i64)) false);have O:=O.bC (.cells (flatC ((([]:List Nat)).map i64)) false);refine O.new (GR rfl) fun g2 h O=>?_;refine gH ?_
 apply Cs;conv=>whnf
 apply Cs;refine gH ?_;refine jn (σ:=((List Nat)×Nat)×Option Nat) hm 57 [3] (fun s=>s.1) (fun ((v7,v8),a6) h=>(a6=none->v7=[])/\Own vars h0 (((some g2),.cells [(ae 1 a6 (v7.map i64)),(ae 1 none (([]:List Nat).map i64))] false)::(a6,.cells (flatC (v7.map i64)) false)::(none,.cells (flatC (([]:List Nat).map i64)) false)::L) h) (fun ((v7,v8),a6)=>[(4,(i64 v8))]) (fun hm=>?_) ?_
 ·refine gX ?_;refine lw 57 [3,11,12] (σ:=((List Nat)×Nat×Nat)×Option Nat) (fun s=>s.1) (fun ((v12,v13,v14),a11) h=>(a11=none->v12=[])/\Own vars h0 (((some g2),.cells [(ae 1 a11 (v12.map i64)),(ae 1 none (([]:List Nat).map i64))] false)::(a11,.cells (flatC (v12.map i64)) false)::(none,.cells (flatC (([]:List Nat).map i64)) false)::L) h) (fun ((v12,v13,v14),a11)=>[(4,(i64 v13)),(13,(i64 v14))]) ((([]:List Nat),0,0),none) hm ⟨(fun _=>rfl),(Own.fY [((some g2),.cells [(ae 1 none (([]:List Nat).map i64)),(ae 1 none (([]:List Nat).map i64))] false),(none,.cells (flatC (([]:List Nat).map i64)) false),(none,.cells (flatC (([]:List Nat).map i64)) false)] O [0,2,1] (by decide))⟩ ?_;clear hm;rintro⟨⟨v12,v13,v14⟩,a11⟩ nx16 base h hm ⟨ha15,O⟩;refine gX ?_;refine br hm (fun hm=>?_) fun hm=>?_
  ·refine gX ?_;refine atF hm fun x17 hx17 hm=>?_;refine gH ?_;have O:=O.bC (.cells (flatC ((([]:List Nat)).map i64)) false);refine O.new (ai (l:=[(n8 0),(.slice none 0 0),(i64 0),(i64 0)]) rfl rfl rfl) fun g18 h O=>?_;refine gH ?_;refine O.stC 4 (.head _) [(n8 x17.kind),((ah 1 i64) x17.ins),(i64 x17.mem),(i64 x17.bit)] fun h O=>?_;refine gX ?_;refine fz ?_;refine gH ?_;refine O.apL (enc:=i64) (l:=v12) (new:=([v13]:(List Nat))) 1 (.tail _ (.tail _ (.tail _ (.head _)))) ha15 hm fun a21 h ha22 O hm=>?_;refine gH ?_;refine O.stC 1 (.tail _ (.tail _ (.head _))) [(ae 1 a21 ((v12++([v13]:(List Nat))).map i64)),(ae 1 none (([]:List Nat).map i64))] fun h O=>?_;refine gX ?_;refine aH hm fun hm=>?_;refine gH ?_;refine E4 hm fun hm=>?_;refine gH ?_;refine aH hm fun hm=>?_;refine gX ?_;refine aH hm fun hm=>?_;refine gH ?_;exact jx (((v12++([v13]:(List Nat))),(v13+(2*(x17.ins.length+1))),(v14+1)),a21) hm ⟨ha22,(Own.fY [((some g18),.cells [(n8 x17.kind),((ah 1 i64) x17.ins),(i64 x17.mem),(i64 x17.bit)] false),(none,.cells (flatC (([]:List Nat).map i64)) false),((some g2),.cells [(ae 1 a21 ((v12++([v13]:(List Nat))).map i64)),(ae 1 none (([]:List Nat).map i64))] false),(a21,.cells (flatC ((v12++([v13]:(List Nat))).map i64)) false),(none,.cells (flatC (([]:List Nat).map i64)) false)] O [2,3,4] (by decide))⟩
  ·refine gX ?_;exact jx ((v12,v13),a11) hm ⟨ha15,O⟩
 ·clear hm;rintro⟨⟨v7,v8⟩,a6⟩ base h hm ⟨ha9,O⟩;refine gX ?_;refine O.mkL (enc:=i64) 8 1 0 hm fun g23 h O hm=>?_;refine gH ?_;refine O.stC 1 (.tail _ (.head _)) [(ae 1 a6 (v7.map i64)),(.slice (some ⟨g23,0,none⟩) v8 v8)] fun h O=>?_;refine gH ?_;refine jn hm 57 [3] (fun s=>s) (fun v25 h=>(a6=none->v7=[])/\Own vars h0 (((some g2),.cells [(ae 1 a6 (v7.map i64)),(.slice (some ⟨g23,0,none⟩) v8 v8)] false)::(a6,.cells (flatC (v7.map i64)) false)::((some g23),.cells (flatC (v25.map i64)) false)::L) h) (fun v25=>[]) (fun hm=>?_) ?_
  ·refine gX ?_;refine lw 57 [3,44] (σ:=((List Nat)×Nat)) (fun s=>s) (fun (v28,v29) h=>(a6=none->v7=[])/\Own vars h0 (((some g2),.cells [(ae 1 a6 (v7.map i64)),(.slice (some ⟨g23,0,none⟩) v8 v8)] false)::(a6,.cells (flatC (v7.map i64)) false)::((some g23),.cells (flatC (v28.map i64)) false)::L) h) (fun (v28,v29)=>[(45,(i64 v29))]) ((List.replicate v8 (0:Nat)),0) hm ⟨ha9,(Own.fY [((some g23),.cells (flatC ((List.replicate v8 (0:Nat)).map i64)) false),((some g2),.cells [(ae 1 a6 (v7.map i64)),(.slice (some ⟨g23,0,none⟩) v8 v8)] false),(a6,.cells (flatC (v7.map i64)) false),(none,.cells (flatC (([]:List Nat).map i64)) false)] O [1,2,0] (by decide))⟩ ?_;clear hm;rintro⟨v28,v29⟩ nx31 base h hm ⟨ha30,O⟩;refine gX ?_;refine br hm (fun hm=>?_) fun hm=>?_
   ·refine gX ?_;refine ix 1 hm fun x32 hx32 hm=>?_;refine gH ?_;refine O.stE 1 (.tail _ (.tail _ (.head _))) hx32 v29 fun h O=>?_;refine gX ?_;refine aH hm fun hm=>?_;refine gH ?_;exact jx ((v28.set v29 v29),(v29+1)) hm ⟨ha30,O⟩
   ·refine gX ?_;exact jx v28 hm ⟨ha30,O⟩
  ·clear hm;rintro v25 base h hm ⟨ha26,O⟩;refine gX ?_;exact⟨v7,v25,v8,g2,a6,g23,hm,rfl,ha26,O,trivial⟩
def bV (np:Nat) (_:List Nat) (ps:List Nat) (i:Nat) (K:((List Nat)×Nat)->Prop):Prop :=
 an (α:=(Nat×(List Nat))) (fun k5=>aF (S:=((List Nat)×Nat)) (fun (v6,v7) nx9=>v7<np/\∃ x10,v6[v7]?=some x10/\((neN x10 v7)=true->v7<np/\∃ x11,v6[v7]?=some x11/\x11<np/\∃ x12,v6[x11]?=some x12/\v7<np/\∃ x13,v6[v7]?=some x13/\v7<np/\∃ x14,(v6.set v7 x12)[v7]?=some x14/\nx9 ((v6.set v7 x12),x14))/\((neN x10 v7)=false->k5 (v7,v6))) (ps,i)) (fun (v2,v3)=>K (v3,v2))
theorem dz {np:Nat}{fs:List Nat}{ps:List Nat}{i:Nat}{gt:Nat}{ga:Option Nat}{gb:Nat}{L:List Slot}{K:((List Nat)×Nat)->Prop} (hm:bV np fs ps i K) {h0 h:Heap} (ha0:ga=none->fs=[]) (O:Own vars h0 (((some gt),.cells [(ae 1 ga (fs.map i64)),(.slice (some ⟨gb,0,none⟩) np np)] false)::(ga,.cells (flatC (fs.map i64)) false)::((some gb),.cells (flatC (ps.map i64)) false)::L) h):∃ v h',CallD Tryz.prog NG 150 ⟨[(.pointer (some ⟨gt,0,none⟩)),(i64 i)]⟩ h v h'/\∃ (w0:(List Nat)) (w1:Nat),K (w0,w1)/\v=(i64 w1)/\(ga=none->fs=[])/\Own vars h0 (((some gt),.cells [(ae 1 ga (fs.map i64)),(.slice (some ⟨gb,0,none⟩) np np)] false)::(ga,.cells (flatC (fs.map i64)) false)::((some gb),.cells (flatC (w0.map i64)) false)::L) h'/\True:=by
 unfold bV at hm
 refine fg Tryz.func150 (Q:=fun v h'=>∃ (w0:(List Nat)) (w1:Nat),K (w0,w1)/\v=(i64 w1)/\(ga=none->fs=[])/\Own vars h0 (((some gt),.cells [(ae 1 ga (fs.map i64)),(.slice (some ⟨gb,0,none⟩) np np)] false)::(ga,.cells (flatC (fs.map i64)) false)::((some gb),.cells (flatC (w0.map i64)) false)::L) h'/\True) ?_;conv=>whnf
 apply Cs;conv=>whnf
 apply Cs;refine gH ?_;refine jn hm 41 [] (fun s=>s) (fun (v2,v3) h=>(ga=none->fs=[])/\Own vars h0 (((some gt),.cells [(ae 1 ga (fs.map i64)),(.slice (some ⟨gb,0,none⟩) np np)] false)::(ga,.cells (flatC (fs.map i64)) false)::((some gb),.cells (flatC (v3.map i64)) false)::L) h) (fun (v2,v3)=>[(1,(i64 v2))]) (fun hm=>?_) ?_
 ·refine gX ?_;refine lw 41 [0] (σ:=((List Nat)×Nat)) (fun s=>s) (fun (v6,v7) h=>(ga=none->fs=[])/\Own vars h0 (((some gt),.cells [(ae 1 ga (fs.map i64)),(.slice (some ⟨gb,0,none⟩) np np)] false)::(ga,.cells (flatC (fs.map i64)) false)::((some gb),.cells (flatC (v6.map i64)) false)::L) h) (fun (v6,v7)=>[(1,(i64 v7))]) (ps,i) hm ⟨ha0,O⟩ ?_;clear hm;rintro⟨v6,v7⟩ nx9 base h hm ⟨ha8,O⟩;refine gX ?_;refine ix 1 hm fun x10 hx10 hm=>?_;refine gH ?_;refine ldE (s:=1) (i:=0) O.i2 hx10 ?_;refine gX ?_;refine br hm (fun hm=>?_) fun hm=>?_
  ·refine gX ?_
   first|refine⟨.inr (.inr (bz rfl O.i0 rfl rfl)),?_⟩|refine⟨.inr (.inl (by kernel_rfl)),?_⟩
   refine gX ?_
   first|refine⟨.inr (.inr (bz rfl O.i0 rfl rfl)),?_⟩|refine⟨.inr (.inl (by kernel_rfl)),?_⟩
   refine gX ?_
   first|refine⟨.inr (.inr (bz rfl O.i0 rfl rfl)),?_⟩|refine⟨.inr (.inl (by kernel_rfl)),?_⟩
   refine gX ?_;refine ix 1 hm fun x11 hx11 hm=>?_;refine gH ?_;refine⟨_,bz rfl O.i2 rfl (fA (enc:=i64) (s:=1) (k:=0) (fun _=>rfl) hx11 rfl),?_⟩;refine gH ?_;refine ix 1 hm fun x12 hx12 hm=>?_;refine gH ?_;refine⟨_,bz rfl O.i2 rfl (fA (enc:=i64) (s:=1) (k:=0) (fun _=>rfl) hx12 rfl),?_⟩;refine gH ?_;refine ix 1 hm fun x13 hx13 hm=>?_;refine gH ?_;refine O.stE 1 (.tail _ (.tail _ (.head _))) hx13 x12 fun h O=>?_;refine gH ?_;refine gX ?_;refine ix 1 hm fun x14 hx14 hm=>?_;refine gH ?_;refine ldE (s:=1) (i:=0) O.i2 hx14 ?_;refine gH ?_;exact jx ((v6.set v7 x12),x14) hm ⟨ha8,O⟩
  ·refine gX ?_;exact jx (v7,v6) hm ⟨ha8,O⟩
 ·clear hm;rintro⟨v2,v3⟩ base h hm ⟨ha4,O⟩;refine gX ?_;exact⟨v3,v2,hm,rfl,ha4,O,trivial⟩
def bY (_:Nat) (fs:List Nat) (_:List Nat) (node:Nat) (pin:Int) (vl:Nat) (K:Nat->Prop):Prop :=
 ∃ x2,fs[node]?=some x2/\∃ j4:Nat,(pin+(Int.ofNat 1))=Int.ofNat j4/\j4<2 ^ 63/\2*j4<2 ^ 63/\x2+(2*j4)<2 ^ 63/\vl<256/\(x2+(2*j4))+vl<2 ^ 63/\K ((x2+(2*j4))+vl)
theorem cM {np:Nat}{fs:List Nat}{ps:List Nat}{node:Nat}{pin:Int}{vl:Nat}{gt:Nat}{ga:Option Nat}{gb:Nat}{L:List Slot}{K:Nat->Prop} (hm:bY np fs ps node pin vl K) {h0 h:Heap} (ha0:ga=none->fs=[]) (O:Own vars h0 (((some gt),.cells [(ae 1 ga (fs.map i64)),(.slice (some ⟨gb,0,none⟩) np np)] false)::(ga,.cells (flatC (fs.map i64)) false)::((some gb),.cells (flatC (ps.map i64)) false)::L) h):∃ v h',CallD Tryz.prog NG 151 ⟨[(.pointer (some ⟨gt,0,none⟩)),(i64 node),(z64 pin),(n8 vl)]⟩ h v h'/\∃ (w1:Nat) (b0:Option Nat),K w1/\v=(i64 w1)/\(b0=none->fs=[])/\Own vars h0 (((some gt),.cells [(ae 1 b0 (fs.map i64)),(.slice (some ⟨gb,0,none⟩) np np)] false)::(b0,.cells (flatC (fs.map i64)) false)::((some gb),.cells (flatC (ps.map i64)) false)::L) h'/\h'=h:=by
 unfold bY at hm
 refine fg Tryz.func151 (Q:=fun v h'=>∃ (w1:Nat) (b0:Option Nat),K w1/\v=(i64 w1)/\(b0=none->fs=[])/\Own vars h0 (((some gt),.cells [(ae 1 b0 (fs.map i64)),(.slice (some ⟨gb,0,none⟩) np np)] false)::(b0,.cells (flatC (fs.map i64)) false)::((some gb),.cells (flatC (ps.map i64)) false)::L) h'/\h'=h) ?_;conv=>whnf
 refine gX ?_;obtain⟨x2,hx2,hm⟩:=hm;have h9:=hm;obtain⟨g3,rfl⟩:=fP ha0 hx2;replace hm:=h9;refine bb (s:=1) (j:=node) rfl rfl rfl rfl (by rw[List.length_map];exact ag hx2) ?_;refine gH ?_;refine ldE (s:=1) (i:=0) O.i1 hx2 ?_;refine gH ?_;obtain⟨j4,hz,hm⟩:=hm;refine⟨_,Jt (a:=pin) (b:=(Int.ofNat 1)) rfl rfl hz hm.1,?_⟩;refine gH ?_;replace hm:=hm.2;refine E4 hm fun hm=>?_;refine gH ?_;refine aH hm fun hm=>?_;refine gH ?_;refine aCv hm wI8 fun hm=>?_;refine gH ?_;refine aH hm fun hm=>?_;refine gX ?_;exact⟨((x2+(2*j4))+vl),(some g3),hm,rfl,cE,O,rfl⟩
def dw (np:Nat) (fs:List Nat) (ps:List Nat) (i:Nat) (j:Nat) (K:(List Nat)->Prop):Prop :=
 bV np fs ps i (fun (x2,x3)=>bV np fs x2 j (fun (x5,x6)=>x3<np/\∃ x8,x5[x3]?=some x8/\K (x5.set x3 x6)))
theorem kY {np:Nat}{fs:List Nat}{ps:List Nat}{i:Nat}{j:Nat}{gt:Nat}{ga:Option Nat}{gb:Nat}{L:List Slot}{K:(List Nat)->Prop} (hm:dw np fs ps i j K) {h0 h:Heap} (ha0:ga=none->fs=[]) (O:Own vars h0 (((some gt),.cells [(ae 1 ga (fs.map i64)),(.slice (some ⟨gb,0,none⟩) np np)] false)::(ga,.cells (flatC (fs.map i64)) false)::((some gb),.cells (flatC (ps.map i64)) false)::L) h):∃ v h',CallD Tryz.prog NG 206 ⟨[(.pointer (some ⟨gt,0,none⟩)),(i64 i),(i64 j)]⟩ h v h'/\∃ (w0:(List Nat)),K w0/\v=.tuple ⟨[]⟩/\(ga=none->fs=[])/\Own vars h0 (((some gt),.cells [(ae 1 ga (fs.map i64)),(.slice (some ⟨gb,0,none⟩) np np)] false)::(ga,.cells (flatC (fs.map i64)) false)::((some gb),.cells (flatC (w0.map i64)) false)::L) h'/\True:=by
 unfold dw at hm
 refine fg Tryz.func206 (Q:=fun v h'=>∃ (w0:(List Nat)),K w0/\v=.tuple ⟨[]⟩/\(ga=none->fs=[])/\Own vars h0 (((some gt),.cells [(ae 1 ga (fs.map i64)),(.slice (some ⟨gb,0,none⟩) np np)] false)::(ga,.cells (flatC (fs.map i64)) false)::((some gb),.cells (flatC (w0.map i64)) false)::L) h'/\True) ?_;conv=>whnf
 refine CodeS.kX ?_;refine gX ?_;refine⟨.inr (.inr (bz rfl O.i0 rfl rfl)),?_⟩;refine gX ?_;have Ok:=O;obtain⟨_,h,hcall,x2,x3,hm,rfl,ha4,O,_⟩:=dz hm ha0 O;refine⟨_,_,hcall,?_⟩;refine gH ?_;refine⟨.inr (.inr (wE (i:=3) (by kernel_rfl) rfl rfl Ok.i0 (O.at (.head _)))),?_⟩;refine gH ?_;clear Ok;have Ok:=O;obtain⟨_,h,hcall,x5,x6,hm,rfl,ha7,O,_⟩:=dz hm ha4 O;refine⟨_,_,hcall,?_⟩;refine gH ?_;refine⟨.inr (.inr (wE (i:=3) (by kernel_rfl) rfl rfl Ok.i0 (O.at (.head _)))),?_⟩;refine gH ?_;clear Ok;refine ix 1 hm fun x8 hx8 hm=>?_;refine gH ?_;refine O.stE 1 (.tail _ (.tail _ (.head _))) hx8 x6 fun h O=>?_;refine gH ?_;exact⟨(x5.set x3 x6),hm,rfl,ha7,O,trivial⟩
def bw (p0:Nat) (K:(Rul×Bool)->Prop):Prop :=
 ((eqN p0 5)=true->K ((⟨0,0⟩:Rul),true))/\((eqN p0 5)=false->((eqN p0 6)=true->K ((⟨0,1⟩:Rul),true))/\((eqN p0 6)=false->((eqN p0 7)=true->K ((⟨1,1⟩:Rul),true))/\((eqN p0 7)=false->((eqN p0 8)=true->K ((⟨1,0⟩:Rul),true))/\((eqN p0 8)=false->K ((⟨0,0⟩:Rul),false)))))
theorem fU {p0:Nat}{K:(Rul×Bool)->Prop} (hm:bw p0 K) {h0:Heap} (hB:HasB vars h0):∃ r,K r/\CallD Tryz.prog NG 152 ⟨[n8 p0]⟩ h0 ((fun (r:(Rul×Bool))=>Value.tuple ⟨[qH (r.1),Value.bool (r.2)]⟩) r) h0:=by
 unfold bw at hm
 refine fw Tryz.func152 hB (enc:=(fun (r:(Rul×Bool))=>Value.tuple ⟨[qH (r.1),Value.bool (r.2)]⟩)) (fun r=>PureV.tup (AllPure.cons (FO _) (AllPure.cons (PureV.flat rfl) (AllPure.nil)))) fun O=>?_;conv=>whnf
 refine gX ?_;refine O.new (ai (l:=[(n8 0),(n8 0)]) rfl rfl rfl) fun g1 h O=>?_;refine gH ?_;refine gX ?_;refine br hm (fun hm=>?_) fun hm=>?_
 ·refine gX ?_;refine O.stC 2 (.head _) [(n8 0),(n8 0)] fun h O=>?_;refine gX ?_
  refine⟨_,au rfl rfl O.i0 rfl rfl (lbE rfl) rfl,?_⟩;conv=>whnf
  exact⟨((⟨0,0⟩:Rul),true),hm,O.ext,fun h2 F=>VLe.tup (LLe.cons (VLe.refl _ _) (LLe.cons (VLe.refl _ _) (LLe.nil _)))⟩
 ·refine gX ?_;refine br hm (fun hm=>?_) fun hm=>?_
  ·refine gX ?_;refine O.stC 2 (.head _) [(n8 0),(n8 1)] fun h O=>?_;refine gX ?_
   refine⟨_,au rfl rfl O.i0 rfl rfl (lbE rfl) rfl,?_⟩;conv=>whnf
   exact⟨((⟨0,1⟩:Rul),true),hm,O.ext,fun h2 F=>VLe.tup (LLe.cons (VLe.refl _ _) (LLe.cons (VLe.refl _ _) (LLe.nil _)))⟩
  ·refine gX ?_;refine br hm (fun hm=>?_) fun hm=>?_
   ·refine gX ?_;refine O.stC 2 (.head _) [(n8 1),(n8 1)] fun h O=>?_;refine gX ?_
    refine⟨_,au rfl rfl O.i0 rfl rfl (lbE rfl) rfl,?_⟩;conv=>whnf
    exact⟨((⟨1,1⟩:Rul),true),hm,O.ext,fun h2 F=>VLe.tup (LLe.cons (VLe.refl _ _) (LLe.cons (VLe.refl _ _) (LLe.nil _)))⟩
   ·refine gX ?_;refine br hm (fun hm=>?_) fun hm=>?_
    ·refine gX ?_;refine O.stC 2 (.head _) [(n8 1),(n8 0)] fun h O=>?_;refine gX ?_
     refine⟨_,au rfl rfl O.i0 rfl rfl (lbE rfl) rfl,?_⟩;conv=>whnf
     exact⟨((⟨1,0⟩:Rul),true),hm,O.ext,fun h2 F=>VLe.tup (LLe.cons (VLe.refl _ _) (LLe.cons (VLe.refl _ _) (LLe.nil _)))⟩
    ·refine gX ?_;refine O.stC 2 (.head _) [(n8 0),(n8 0)] fun h O=>?_;refine gX ?_
     refine⟨_,au rfl rfl O.i0 rfl rfl (lbE rfl) rfl,?_⟩;conv=>whnf
     exact⟨((⟨0,0⟩:Rul),false),hm,O.ext,fun h2 F=>VLe.tup (LLe.cons (VLe.refl _ _) (LLe.cons (VLe.refl _ _) (LLe.nil _)))⟩
def cR (p0:Node) (K:(List Rul)->Prop):Prop :=
 an (α:=Unit) (fun k1=>((eqN p0.kind 3)=true->K ([(⟨0,0⟩:Rul),(⟨1,1⟩:Rul)]:(List Rul)))/\((eqN p0.kind 3)=false->((eqN p0.kind 13)=true->((eqN p0.ins.length 1)=true->K ([(⟨0,0⟩:Rul),(⟨1,1⟩:Rul)]:(List Rul)))/\((eqN p0.ins.length 1)=false->k1 ()))/\((eqN p0.kind 13)=false->((eqN p0.kind 4)=true->K ([(⟨0,1⟩:Rul),(⟨1,0⟩:Rul)]:(List Rul)))/\((eqN p0.kind 4)=false->k1 ())))) (fun _=>bw p0.kind (fun r2=>(r2.2=true->K ([(⟨r2.1.pin,r2.1.out⟩:Rul)]:(List Rul)))/\(r2.2=false->K ([]))))
theorem mT {p0:Node}{K:(List Rul)->Prop} (hm:cR p0 K) {h0:Heap} (hB:HasB vars h0):∃ r,K r/\CallD Tryz.prog NG 205 ⟨[aj p0]⟩ h0 ((ah 2 qH) r) h0:=by
 unfold cR at hm
 refine fw Tryz.func205 hB (enc:=(ah 2 qH)) (fun r=>cF (fun _=>wv _)) fun O=>?_;conv=>whnf
 refine gX ?_;refine fz ?_;refine gH ?_;refine jn hm 39 [1] (fun s=>s) (fun _ h=>Own vars h0 [] h) (fun _=>[]) (fun hm=>?_) ?_
 ·refine gX ?_;refine br hm (fun hm=>?_) fun hm=>?_
  ·refine gX ?_;refine fz ?_;refine gX ?_;exact fe hm O
  ·refine gX ?_;refine br hm (fun hm=>?_) fun hm=>?_
   ·refine gX ?_;refine br hm (fun hm=>?_) fun hm=>?_
    ·refine gX ?_;refine fz ?_;refine gX ?_;exact fe hm O
    ·refine gX ?_;exact jx () hm O
   ·refine gX ?_;refine br hm (fun hm=>?_) fun hm=>?_
    ·refine gX ?_;refine fz ?_;refine gX ?_;exact fe hm O
    ·refine gX ?_;exact jx () hm O
 ·clear hm;rintro _ base h hm O;refine gX ?_;refine ca (fU hm O.has) fun r2 hm=>?_;refine gH ?_;refine O.new (ai (l:=[(n8 0),(n8 0)]) rfl rfl rfl) fun g3 h O=>?_;refine gH ?_;refine O.stC 2 (.head _) [(n8 r2.1.pin),(n8 r2.1.out)] fun h O=>?_;refine gX ?_;refine br hm (fun hm=>?_) fun hm=>?_
  ·refine gX ?_;refine fz ?_;refine gX ?_;exact fe hm O
  ·refine gX ?_;exact⟨[],hm,O.ext,fun h2 F=>VLe.nil _ _⟩
def gZ (p0:(List Nat)) (p1:Nat) (K:Int->Prop):Prop :=
 an (α:=Unit) (fun k1=>aF (S:=Nat) (fun v2 nx3=>((ltN v2 p0.length)=true->∃ x4,p0[v2]?=some x4/\((eqN p1 x4)=true->K (Int.ofNat v2))/\((eqN p1 x4)=false->v2+1<2 ^ 63/\nx3 (v2+1)))/\((ltN v2 p0.length)=false->k1 ())) 0) (fun _=>K (Int.negSucc 0))
theorem ti {p0:(List Nat)}{p1:Nat}{K:Int->Prop} (hm:gZ p0 p1 K) {h0:Heap} (hB:HasB vars h0):∃ r,K r/\CallD Tryz.prog NG 201 ⟨[(ah 1 i64) p0,i64 p1]⟩ h0 (z64 r) h0:=by
 unfold gZ at hm
 refine fw Tryz.func201 hB (enc:=z64) (fun r=>PureV.flat rfl) fun O=>?_;conv=>whnf
 apply Cs;conv=>whnf
 apply Cs;refine gH ?_;refine jn hm 19 [] (fun s=>s) (fun _ h=>Own vars h0 [] h) (fun _=>[]) (fun hm=>?_) ?_
 ·refine gX ?_;refine lw 19 [0,1,7] (σ:=Nat) (fun s=>s) (fun v2 h=>Own vars h0 [] h) (fun v2=>[(8,(i64 v2))]) 0 hm O ?_;clear hm;rintro v2 nx3 base h hm O;refine gX ?_;refine br hm (fun hm=>?_) fun hm=>?_
  ·refine gX ?_;refine atF hm fun x4 hx4 hm=>?_;refine gX ?_;refine br hm (fun hm=>?_) fun hm=>?_
   ·refine gX ?_;exact fe hm O
   ·refine gX ?_;refine aH hm fun hm=>?_;refine gH ?_;exact jx (v2+1) hm O
  ·refine gX ?_;exact jx () hm O
 ·clear hm;rintro _ base h hm O;refine gX ?_;exact fe hm O
def dT (p0:(List Nat)) (p1:Nat) (K:Bool->Prop):Prop :=
 gZ p0 p1 (fun r1=>K (!ltI r1 (Int.ofNat 0)))
theorem pI {p0:(List Nat)}{p1:Nat}{K:Bool->Prop} (hm:dT p0 p1 K) {h0:Heap} (hB:HasB vars h0):∃ r,K r/\CallD Tryz.prog NG 142 ⟨[(ah 1 i64) p0,i64 p1]⟩ h0 (Value.bool r) h0:=by
 unfold dT at hm
 refine fw Tryz.func142 hB (enc:=Value.bool) (fun r=>PureV.flat rfl) fun O=>?_;conv=>whnf
 refine gX ?_;refine ca (ti hm O.has) fun r1 hm=>?_;refine gX ?_;exact fe hm O
def dv (c:Circ) (K:((List Nat)×(List Nat)×Nat)->Prop):Prop :=
 er c (fun (x2,x3,x4)=>an (α:=(List Nat)) (fun k15=>aF (S:=((List Nat)×Nat)) (fun (v17,v18) nx20=>((ltN v18 c.nodes.length)=true->an (α:=(List Nat)) (fun k24=>∃ x25,c.nodes[v18]?=some x25/\cR x25 (fun r28=>aF (S:=((List Nat)×Nat)) (fun (v30,v31) nx33=>((ltN v31 r28.length)=true->an (α:=(List Nat)) (fun k37=>∃ x38,r28[v31]?=some x38/\aF (S:=((List Nat)×Nat)) (fun (v42,v43) nx45=>((ltN v43 x25.ins.length)=true->bY x4 x2 v42 v18 (Int.ofNat v43) x38.pin (fun x46=>bY x4 x2 v42 v18 (Int.negSucc 0) x38.out (fun x49=>dw x4 x2 v42 x46 x49 (fun x52=>v43+1<2 ^ 63/\nx45 (x52,(v43+1))))))/\((ltN v43 x25.ins.length)=false->k37 v42)) (v30,0)) (fun v35=>v31+1<2 ^ 63/\nx33 (v35,(v31+1))))/\((ltN v31 r28.length)=false->k24 v30)) (v17,0))) (fun v22=>v18+1<2 ^ 63/\nx20 (v22,(v18+1))))/\((ltN v18 c.nodes.length)=false->k15 v17)) (x3,0)) (fun v13=>an (α:=(List Nat)) (fun k57=>jk c (fun r58=>aF (S:=((List Nat)×Nat)) (fun (v60,v61) nx63=>((ltN v61 r58.length)=true->an (α:=(List Nat)) (fun k67=>∃ x68,r58[v61]?=some x68/\an (α:=Bool) (fun k71=>((eqN x68.length 1)=true->dT c.outs v61 (fun r72=>k71 (!r72)))/\((eqN x68.length 1)=false->k71 false)) (fun v69=>(v69=true->aF (S:=((List Nat)×Nat)) (fun (v74,v75) nx77=>((!ltN 1 v75)=true->bY x4 x2 v74 v61 (Int.negSucc 0) v75 (fun x78=>∃ x81,x68[0]?=some x81/\∃ x82,x68[0]?=some x82/\bY x4 x2 v74 x81.node x82.pin v75 (fun x83=>dw x4 x2 v74 x78 x83 (fun x86=>v75+1<256/\nx77 (x86,(v75+1))))))/\((!ltN 1 v75)=false->k67 v74)) (v60,0))/\(v69=false->k67 v60))) (fun v65=>v61+1<2 ^ 63/\nx63 (v65,(v61+1))))/\((ltN v61 r58.length)=false->k57 v60)) (v13,0))) (fun v55=>K (x2,v55,x4))))
theorem pg {c:Circ}  {L:List Slot}{K:((List Nat)×(List Nat)×Nat)->Prop} (hm:dv c K) {h0 h:Heap}  (O:Own vars h0 (L) h):∃ v h',CallD Tryz.prog NG 149 ⟨[(ar c)]⟩ h v h'/\∃ (w2:(List Nat)) (w4:(List Nat)) (w5:Nat) (b0:Nat) (b1:Option Nat) (b3:Nat),K (w2,w4,w5)/\v=(.pointer (some ⟨b0,0,none⟩))/\(b1=none->w2=[])/\Own vars h0 (((some b0),.cells [(ae 1 b1 (w2.map i64)),(.slice (some ⟨b3,0,none⟩) w5 w5)] false)::(b1,.cells (flatC (w2.map i64)) false)::((some b3),.cells (flatC (w4.map i64)) false)::L) h'/\True:=by
 unfold dv at hm
 refine fg Tryz.func149 (Q:=fun v h'=>∃ (w2:(List Nat)) (w4:(List Nat)) (w5:Nat) (b0:Nat) (b1:Option Nat) (b3:Nat),K (w2,w4,w5)/\v=(.pointer (some ⟨b0,0,none⟩))/\(b1=none->w2=[])/\Own vars h0 (((some b0),.cells [(ae 1 b1 (w2.map i64)),(.slice (some ⟨b3,0,none⟩) w5 w5)] false)::(b1,.cells (flatC (w2.map i64)) false)::((some b3),.cells (flatC (w4.map i64)) false)::L) h'/\True) ?_;conv=>whnf
 refine gX ?_;refine fz ?_;refine gX ?_;obtain⟨_,h,hcall,x2,x3,x4,a5,a6,a7,hm,rfl,ha11,O,_⟩:=rB hm  O;refine⟨_,_,hcall,?_⟩;refine gH ?_;refine jn (σ:=(List Nat)×Option Nat) hm 92 [1,3] (fun s=>s.1) (fun (v13,a12) h=>(a12=none->x2=[])/\Own vars h0 (((some a5),.cells [(ae 1 a12 (x2.map i64)),(.slice (some ⟨a7,0,none⟩) x4 x4)] false)::(a12,.cells (flatC (x2.map i64)) false)::((some a7),.cells (flatC (v13.map i64)) false)::L) h) (fun (v13,a12)=>[]) (fun hm=>?_) ?_
 ·refine gX ?_;refine lw 92 [1,3,15,16] (σ:=((List Nat)×Nat)×Option Nat) (fun s=>s.1) (fun ((v17,v18),a16) h=>(a16=none->x2=[])/\Own vars h0 (((some a5),.cells [(ae 1 a16 (x2.map i64)),(.slice (some ⟨a7,0,none⟩) x4 x4)] false)::(a16,.cells (flatC (x2.map i64)) false)::((some a7),.cells (flatC (v17.map i64)) false)::L) h) (fun ((v17,v18),a16)=>[(17,(i64 v18))]) ((x3,0),a6) hm ⟨ha11,O⟩ ?_;clear hm;rintro⟨⟨v17,v18⟩,a16⟩ nx20 base h hm ⟨ha19,O⟩;refine gX ?_;refine br hm (fun hm=>?_) fun hm=>?_
  ·apply Cs;conv=>whnf
   refine jn (σ:=(List Nat)×Option Nat) hm 92 [1,3,15,16,17] (fun s=>s.1) (fun (v22,a21) h=>(a21=none->x2=[])/\Own vars h0 (((some a5),.cells [(ae 1 a21 (x2.map i64)),(.slice (some ⟨a7,0,none⟩) x4 x4)] false)::(a21,.cells (flatC (x2.map i64)) false)::((some a7),.cells (flatC (v22.map i64)) false)::L) h) (fun (v22,a21)=>[]) (fun hm=>?_) ?_
   ·refine gX ?_;refine atF hm fun x25 hx25 hm=>?_;refine gH ?_;refine O.new (ai (l:=[(n8 0),(.slice none 0 0),(i64 0),(i64 0)]) rfl rfl rfl) fun g26 h O=>?_;refine gH ?_;refine O.stC 4 (.head _) [(n8 x25.kind),((ah 1 i64) x25.ins),(i64 x25.mem),(i64 x25.bit)] fun h O=>?_;refine gX ?_;refine ldA O.i0 ?_;refine gH ?_;refine ca (mT hm O.has) fun r28 hm=>?_;refine gX ?_;refine lw 92 [1,3,4,5,15,16,17,23,24] (σ:=((List Nat)×Nat)×Option Nat) (fun s=>s.1) (fun ((v30,v31),a29) h=>(a29=none->x2=[])/\Own vars h0 (((some a5),.cells [(ae 1 a29 (x2.map i64)),(.slice (some ⟨a7,0,none⟩) x4 x4)] false)::(a29,.cells (flatC (x2.map i64)) false)::((some a7),.cells (flatC (v30.map i64)) false)::((some g26),.cells [(n8 x25.kind),((ah 1 i64) x25.ins),(i64 x25.mem),(i64 x25.bit)] false)::L) h) (fun ((v30,v31),a29)=>[(25,(i64 v31))]) ((v17,0),a16) hm ⟨ha19,(Own.fY [((some g26),.cells [(n8 x25.kind),((ah 1 i64) x25.ins),(i64 x25.mem),(i64 x25.bit)] false),((some a5),.cells [(ae 1 a16 (x2.map i64)),(.slice (some ⟨a7,0,none⟩) x4 x4)] false),(a16,.cells (flatC (x2.map i64)) false),((some a7),.cells (flatC (v17.map i64)) false)] O [1,2,3,0] (by decide))⟩ ?_;clear hm;rintro⟨⟨v30,v31⟩,a29⟩ nx33 base h hm ⟨ha32,O⟩;refine gX ?_;refine br hm (fun hm=>?_) fun hm=>?_
    ·apply Cs;conv=>whnf
     refine jn (σ:=(List Nat)×Option Nat) hm 92 [1,3,4,5,15,16,17,23,24,25] (fun s=>s.1) (fun (v35,a34) h=>(a34=none->x2=[])/\Own vars h0 (((some a5),.cells [(ae 1 a34 (x2.map i64)),(.slice (some ⟨a7,0,none⟩) x4 x4)] false)::(a34,.cells (flatC (x2.map i64)) false)::((some a7),.cells (flatC (v35.map i64)) false)::((some g26),.cells [(n8 x25.kind),((ah 1 i64) x25.ins),(i64 x25.mem),(i64 x25.bit)] false)::L) h) (fun (v35,a34)=>[]) (fun hm=>?_) ?_
     ·refine gX ?_;refine atF hm fun x38 hx38 hm=>?_;refine gH ?_;refine O.new (ai (l:=[(n8 0),(n8 0)]) rfl rfl rfl) fun g39 h O=>?_;refine gH ?_;refine O.stC 2 (.head _) [(n8 x38.pin),(n8 x38.out)] fun h O=>?_;refine gX ?_;refine ldO O.i4 ?_;refine gX ?_;refine lw 92 [1,3,4,5,7,15,16,17,23,24,25,31] (σ:=((List Nat)×Nat)×Option Nat) (fun s=>s.1) (fun ((v42,v43),a41) h=>(a41=none->x2=[])/\Own vars h0 (((some a5),.cells [(ae 1 a41 (x2.map i64)),(.slice (some ⟨a7,0,none⟩) x4 x4)] false)::(a41,.cells (flatC (x2.map i64)) false)::((some a7),.cells (flatC (v42.map i64)) false)::((some g26),.cells [(n8 x25.kind),((ah 1 i64) x25.ins),(i64 x25.mem),(i64 x25.bit)] false)::((some g39),.cells [(n8 x38.pin),(n8 x38.out)] false)::L) h) (fun ((v42,v43),a41)=>[(32,(i64 v43))]) ((v30,0),a29) hm ⟨ha32,(Own.fY [((some g39),.cells [(n8 x38.pin),(n8 x38.out)] false),((some a5),.cells [(ae 1 a29 (x2.map i64)),(.slice (some ⟨a7,0,none⟩) x4 x4)] false),(a29,.cells (flatC (x2.map i64)) false),((some a7),.cells (flatC (v30.map i64)) false),((some g26),.cells [(n8 x25.kind),((ah 1 i64) x25.ins),(i64 x25.mem),(i64 x25.bit)] false)] O [1,2,3,4,0] (by decide))⟩ ?_;clear hm;rintro⟨⟨v42,v43⟩,a41⟩ nx45 base h hm ⟨ha44,O⟩;refine gX ?_;refine br hm (fun hm=>?_) fun hm=>?_
      ·refine gX ?_;refine ldO O.i4 ?_;refine gH ?_;obtain⟨_,_,hcall,x46,a47,hm,rfl,ha48,O2,rfl⟩:=cM hm ha44 O;have O:=O2;clear O2;refine⟨_,_,hcall,?_⟩;refine gH ?_;refine⟨.inl (Ext.refl _),?_⟩;refine gH ?_;refine ldO O.i4 ?_;refine gH ?_;obtain⟨_,_,hcall,x49,a50,hm,rfl,ha51,O2,rfl⟩:=cM hm ha48 O;have O:=O2;clear O2;refine⟨_,_,hcall,?_⟩;refine gH ?_;refine⟨.inl (Ext.refl _),?_⟩;refine gH ?_;obtain⟨_,h,hcall,x52,hm,rfl,ha53,O,_⟩:=kY hm ha51 O;refine⟨_,_,hcall,?_⟩;refine gH ?_;refine⟨.inr (by kernel_rfl),?_⟩;refine gH ?_;refine gX ?_;refine aH hm fun hm=>?_;refine gH ?_;exact jx ((x52,(v43+1)),a50) hm ⟨ha53,O⟩
      ·refine gX ?_;exact jx (v42,a41) hm ⟨ha44,(Own.fY [((some a5),.cells [(ae 1 a41 (x2.map i64)),(.slice (some ⟨a7,0,none⟩) x4 x4)] false),(a41,.cells (flatC (x2.map i64)) false),((some a7),.cells (flatC (v42.map i64)) false),((some g26),.cells [(n8 x25.kind),((ah 1 i64) x25.ins),(i64 x25.mem),(i64 x25.bit)] false),((some g39),.cells [(n8 x38.pin),(n8 x38.out)] false)] O [0,1,2,3] (by decide))⟩
     ·clear hm;rintro⟨v35,a34⟩ base h hm ⟨ha36,O⟩;refine gX ?_;refine aH hm fun hm=>?_;refine gH ?_;exact jx ((v35,(v31+1)),a34) hm ⟨ha36,O⟩
    ·refine gX ?_;exact jx (v30,a29) hm ⟨ha32,(Own.fY [((some a5),.cells [(ae 1 a29 (x2.map i64)),(.slice (some ⟨a7,0,none⟩) x4 x4)] false),(a29,.cells (flatC (x2.map i64)) false),((some a7),.cells (flatC (v30.map i64)) false),((some g26),.cells [(n8 x25.kind),((ah 1 i64) x25.ins),(i64 x25.mem),(i64 x25.bit)] false)] O [0,1,2] (by decide))⟩
   ·clear hm;rintro⟨v22,a21⟩ base h hm ⟨ha23,O⟩;refine gX ?_;refine aH hm fun hm=>?_;refine gH ?_;exact jx ((v22,(v18+1)),a21) hm ⟨ha23,O⟩
  ·refine gX ?_;exact jx (v17,a16) hm ⟨ha19,O⟩
 ·clear hm;rintro⟨v13,a12⟩ base h hm ⟨ha14,O⟩
  conv=>whnf
  refine jn (σ:=(List Nat)×Option Nat) hm 92 [3] (fun s=>s.1) (fun (v55,a54) h=>(a54=none->x2=[])/\Own vars h0 (((some a5),.cells [(ae 1 a54 (x2.map i64)),(.slice (some ⟨a7,0,none⟩) x4 x4)] false)::(a54,.cells (flatC (x2.map i64)) false)::((some a7),.cells (flatC (v55.map i64)) false)::L) h) (fun (v55,a54)=>[]) (fun hm=>?_) ?_
  ·refine gX ?_;refine ca (mv hm O.has) fun r58 hm=>?_;refine gX ?_;refine lw 92 [1,3,52,53] (σ:=((List Nat)×Nat)×Option Nat) (fun s=>s.1) (fun ((v60,v61),a59) h=>(a59=none->x2=[])/\Own vars h0 (((some a5),.cells [(ae 1 a59 (x2.map i64)),(.slice (some ⟨a7,0,none⟩) x4 x4)] false)::(a59,.cells (flatC (x2.map i64)) false)::((some a7),.cells (flatC (v60.map i64)) false)::L) h) (fun ((v60,v61),a59)=>[(54,(i64 v61))]) ((v13,0),a12) hm ⟨ha14,O⟩ ?_;clear hm;rintro⟨⟨v60,v61⟩,a59⟩ nx63 base h hm ⟨ha62,O⟩;refine gX ?_;refine br hm (fun hm=>?_) fun hm=>?_
   ·apply Cs;conv=>whnf
    refine jn (σ:=(List Nat)×Option Nat) hm 92 [1,3,52,53,54] (fun s=>s.1) (fun (v65,a64) h=>(a64=none->x2=[])/\Own vars h0 (((some a5),.cells [(ae 1 a64 (x2.map i64)),(.slice (some ⟨a7,0,none⟩) x4 x4)] false)::(a64,.cells (flatC (x2.map i64)) false)::((some a7),.cells (flatC (v65.map i64)) false)::L) h) (fun (v65,a64)=>[]) (fun hm=>?_) ?_
    ·refine gX ?_;refine atF hm fun x68 hx68 hm=>?_;refine gH ?_;refine jn hm 92 [1,3,9,10,52,53,54] (fun s=>s) (fun v69 h=>(a59=none->x2=[])/\Own vars h0 (((some a5),.cells [(ae 1 a59 (x2.map i64)),(.slice (some ⟨a7,0,none⟩) x4 x4)] false)::(a59,.cells (flatC (x2.map i64)) false)::((some a7),.cells (flatC (v60.map i64)) false)::L) h) (fun v69=>[(68,(.bool v69))]) (fun hm=>?_) ?_
     ·refine gX ?_;refine br hm (fun hm=>?_) fun hm=>?_
      ·refine gX ?_;refine ca (pI hm O.has) fun r72 hm=>?_;refine gH ?_;exact jx (!r72) hm ⟨ha62,O⟩
      ·refine gX ?_;exact jx false hm ⟨ha62,O⟩
     ·clear hm;rintro v69 base h hm ⟨ha70,O⟩;refine gX ?_;refine br hm (fun hm=>?_) fun hm=>?_
      ·refine gX ?_;refine lw 92 [1,3,9,10,52,53,54] (σ:=((List Nat)×Nat)×Option Nat) (fun s=>s.1) (fun ((v74,v75),a73) h=>(a73=none->x2=[])/\Own vars h0 (((some a5),.cells [(ae 1 a73 (x2.map i64)),(.slice (some ⟨a7,0,none⟩) x4 x4)] false)::(a73,.cells (flatC (x2.map i64)) false)::((some a7),.cells (flatC (v74.map i64)) false)::L) h) (fun ((v74,v75),a73)=>[(11,(n8 v75))]) ((v60,0),a59) hm ⟨ha70,O⟩ ?_;clear hm;rintro⟨⟨v74,v75⟩,a73⟩ nx77 base h hm ⟨ha76,O⟩;refine gX ?_;refine br hm (fun hm=>?_) fun hm=>?_
       ·refine gX ?_;obtain⟨_,_,hcall,x78,a79,hm,rfl,ha80,O2,rfl⟩:=cM hm ha76 O;have O:=O2;clear O2;refine⟨_,_,hcall,?_⟩;refine gH ?_;refine⟨.inl (Ext.refl _),?_⟩;refine gH ?_;refine atF hm fun x81 hx81 hm=>?_;refine gH ?_;refine atF hm fun x82 hx82 hm=>?_;refine gH ?_;obtain⟨_,_,hcall,x83,a84,hm,rfl,ha85,O2,rfl⟩:=cM hm ha80 O;have O:=O2;clear O2;refine⟨_,_,hcall,?_⟩;refine gH ?_;refine⟨.inl (Ext.refl _),?_⟩;refine gH ?_;obtain⟨_,h,hcall,x86,hm,rfl,ha87,O,_⟩:=kY hm ha85 O;refine⟨_,_,hcall,?_⟩;refine gH ?_;refine⟨.inr (by kernel_rfl),?_⟩;refine gH ?_;refine gX ?_;refine⟨_,qw (a:=v75) (b:=1) rfl rfl hm.1,?_⟩;refine gH ?_;replace hm:=hm.2;exact jx ((x86,(v75+1)),a84) hm ⟨ha87,O⟩
       ·refine gX ?_;exact jx (v74,a73) hm ⟨ha76,O⟩
      ·refine gX ?_;exact jx (v60,a59) hm ⟨ha70,O⟩
    ·clear hm;rintro⟨v65,a64⟩ base h hm ⟨ha66,O⟩;refine gX ?_;refine aH hm fun hm=>?_;refine gH ?_;exact jx ((v65,(v61+1)),a64) hm ⟨ha66,O⟩
   ·refine gX ?_;exact jx (v60,a59) hm ⟨ha62,O⟩
  ·clear hm;rintro⟨v55,a54⟩ base h hm ⟨ha56,O⟩;refine gX ?_;exact⟨x2,v55,x4,a5,a54,a7,hm,rfl,ha56,O,trivial⟩
theorem BQ {kd:TypeDesc} (hk:eR kd=false) (a b:Flt):eM Tryz.prog 65 kd (az a) (az b)=some (decide (a=b)):=by
 have he:ma Tryz.prog 65 (az a) (az b)=some ((Int.ofNat a.model==Int.ofNat b.model)&&(((Int.ofNat a.line.node==Int.ofNat b.line.node)&&((a.line.pin==b.line.pin)&&true))&&((Int.ofNat a.value==Int.ofNat b.value)&&((Int.ofNat a.other==Int.ofNat b.other)&&true)))):=by kernel_rfl
 have hd:decide (a=b)=((Int.ofNat a.model==Int.ofNat b.model)&&(((Int.ofNat a.line.node==Int.ofNat b.line.node)&&((a.line.pin==b.line.pin)&&true))&&((Int.ofNat a.value==Int.ofNat b.value)&&((Int.ofNat a.other==Int.ofNat b.other)&&true)))):=by
  rw[Bool.eq_iff_iff];simp only[decide_eq_true_eq,Bool.and_eq_true,beq_iff_eq,Bool.and_true];obtain⟨m,⟨n,p⟩,v,o⟩:=a;obtain⟨m',⟨n',p'⟩,v',o'⟩:=b;simp;omega
 rw[hd];refine AG hk he rfl rfl fun h=>?_
 have:a=b:=by rw[<- hd] at h;exact of_decide_eq_true h
 subst this;simp[qT,Fc,i64,z64,n8]
set_option maxHeartbeats 8000000
abbrev J2:Type:=(List Nat)×(List (List Nat))×(List Nat)×(List (Nat×Nat))×(List (Flt×Nat))×Nat
def bE (p0:Circ) (p1:List Flt) (K:((List Nat)×(List Nat)×Nat×(List (List Nat))×(List Nat)×(List (Nat×Nat)))->Prop):Prop :=
 dv p0 fun (fs,ps,np)=>an (α:=(List Nat)×(List (List Nat))×(List Nat)×(List (Nat×Nat))) (fun k=>aF (S:=J2) (fun (ps,R,os,cs,ot,i) nx =>
   ((ltN i p1.length)=true->∃ f,p1[i]?=some f /\
     an (α:=(List Nat)×(List (Nat×Nat))×(List (Flt×Nat))×Nat×Bool) (fun k2 =>
      ((eqN f.model 0)=true->bY np fs ps f.line.node f.line.pin f.value fun x=>bV np fs ps x fun (ps,r) =>
        ((!(cv cs r).isSome)=true->k2 (ps,kh cs r R.length,ot,(cv cs r).getD 0,(cv cs r).isSome))/\((!(cv cs r).isSome)=false->k2 (ps,cs,ot,(cv cs r).getD 0,(cv cs r).isSome))) /\
      ((eqN f.model 0)=false ->
        ((!(cv ot f).isSome)=true->k2 (ps,cs,kh ot f R.length,(cv ot f).getD 0,(cv ot f).isSome))/\((!(cv ot f).isSome)=false->k2 (ps,cs,ot,(cv ot f).getD 0,(cv ot f).isSome))))
     fun (ps,cs,ot,at_,is)=>an (α:=(List (List Nat))×Nat) (fun k3=>((!is)=true->(R.length+1)*24<=2 ^ 47/\k3 (R++[[]],R.length))/\((!is)=false->k3 (R,at_)))
      fun (R,at_)=>∃ r,R[at_]?=some r/\(r.length+1)*8<=2 ^ 47/\(os.length+1)*8<=2 ^ 47/\i+1<2 ^ 63/\nx (ps,R.set at_ (r++[i]),os++[at_],cs,ot,i+1)) /\
   ((ltN i p1.length)=false->k (ps,R,os,cs))) (ps,[],[],[],[],0))
  fun (ps,R,os,cs)=>(∀ r∈R,r≠[])/\R.length<2 ^ 62/\K (fs,ps,np,R,os,cs)
def jG (gt:Nat) (ga:Option Nat) (gb np:Nat) (fs ps:List Nat) (gp:Nat) (ao:Option Nat) (X:List Rw) (af:Option Nat) (os:List Nat) (gm:Nat) (cs:List (Nat×Nat)) (go:Nat) (ot:List (Flt×Nat)) (L:List Slot):List Slot :=
 (some gt,.cells [ae 1 ga (fs.map i64),.slice (some ⟨gb,0,none⟩) np np] false)::(ga,.cells (flatC (fs.map i64)) false)::(some gb,.cells (flatC (ps.map i64)) false) ::
 (some gp,.cells [.pointer (some ⟨gt,0,none⟩),ae 1 ao (X.map dZ),ae 1 af (os.map i64),.map (some gm)] false)::(ao,.cells (flatC (X.map dZ)) false)::(af,.cells (flatC (os.map i64)) false) ::
 (some gm,.map (bT i64 i64 cs))::(some go,.map (bT az i64 ot))::(L++X.map gU)
theorem GY {gt:Nat}{ga:Option Nat}{gb np:Nat}{fs ps:List Nat}{gp:Nat}{ao:Option Nat}{X:List Rw}{af:Option Nat}{os:List Nat}{gm:Nat}{cs:List (Nat×Nat)}{go:Nat}{ot:List (Flt×Nat)}{L:List Slot}{p:Slot}{h0 h:Heap}
  (O:Own vars h0 (p::jG gt ga gb np fs ps gp ao X af os gm cs go ot L) h):Own vars h0 (jG gt ga gb np fs ps gp ao X af os gm cs go ot (p::L)) h :=
 Own.fY (L:=L++X.map gU) (p::(jG gt ga gb np fs ps gp ao X af os gm cs go ot L).take 8) O [1,2,3,4,5,6,7,8,0] (by decide)
theorem pT {gt:Nat}{ga:Option Nat}{gb np:Nat}{fs ps:List Nat}{gp:Nat}{ao:Option Nat}{X:List Rw}{af:Option Nat}{os:List Nat}{gm:Nat}{cs:List (Nat×Nat)}{go:Nat}{ot:List (Flt×Nat)}{L:List Slot}{p:Slot}{h0 h:Heap}
  (O:Own vars h0 (jG gt ga gb np fs ps gp ao X af os gm cs go ot (p::L)) h):Own vars h0 (jG gt ga gb np fs ps gp ao X af os gm cs go ot L) h :=
 Own.fY (L:=L++X.map gU) ((jG gt ga gb np fs ps gp ao X af os gm cs go ot (p::L)).take 9) O [0,1,2,3,4,5,6,7] (by decide)
theorem fq {c:Circ}{l:List Flt}{L:List Slot}{K:((List Nat)×(List Nat)×Nat×(List (List Nat))×(List Nat)×(List (Nat×Nat)))->Prop} (hm:bE c l K) {h0 h:Heap} (O:Own vars h0 L h) :
  ∃ v h',CallD Tryz.prog NG 74 ⟨[ar c,ah 5 az l]⟩ h v h'/\∃ (fs ps:List Nat) (np:Nat) (R:List (List Nat)) (os:List Nat) (cs:List (Nat×Nat)) (gp gt:Nat) (ga:Option Nat) (gb:Nat) (ao af:Option Nat) (gm:Nat),K (fs,ps,np,R,os,cs)/\v=.pointer (some ⟨gp,0,none⟩) /\
   (ga=none->fs=[])/\(ao=none->R=[])/\(af=none->os=[])/\Own vars h0 ((some gp,.cells [.pointer (some ⟨gt,0,none⟩),ae 1 ao (R.map (aV 1 i64)),ae 1 af (os.map i64),.map (some gm)] false) ::
    (some gt,.cells [ae 1 ga (fs.map i64),.slice (some ⟨gb,0,none⟩) np np] false)::(ga,.cells (flatC (fs.map i64)) false)::(some gb,.cells (flatC (ps.map i64)) false) ::
    (ao,.cells (flatC (R.map (aV 1 i64))) false)::(af,.cells (flatC (os.map i64)) false)::(some gm,.map (bT i64 i64 cs))::L) h'/\True:=by
 unfold bE at hm
 refine fg Tryz.func74 ?_;conv=>whnf
 refine gX ?_;refine fz ?_;refine gX ?_;obtain⟨_,h,hcall,fs,ps,np,gt,ga,gb,hm,rfl,hga,O,_⟩:=pg hm O;refine⟨_,_,hcall,?_⟩;refine gH ?_;refine O.new ((rfl:anew _ _ _=some (.map (bT i64 i64 ([]:List (Nat×Nat))),fun g=>.map (some g)))) fun gm h O=>?_;refine gH ?_;refine O.new (GR rfl) fun gp h O=>?_;refine gH ?_;refine gX ?_;refine O.new ((rfl:anew _ _ _=some (.map (bT az i64 ([]:List (Flt×Nat))),fun g=>.map (some g)))) fun go h O=>?_;refine gH ?_
 apply Cs;conv=>whnf
 apply Cs;refine gH ?_;have O:=(O.bC (.cells (flatC (([]:List Nat).map i64)) false)).bC (.cells (flatC (([]:List Rw).map dZ)) false)
 have O:Own vars h0 (jG gt ga gb np fs ps gp none [] none [] gm [] go [] L) h:=by
  have:=Own.fY [(none,.cells (flatC (([]:List Rw).map dZ)) false),(none,.cells (flatC (([]:List Nat).map i64)) false),(some go,.map (bT az i64 ([]:List (Flt×Nat)))),(some gp,.cells [.pointer (some ⟨gt,0,none⟩),.slice none 0 0,.slice none 0 0,.map (some gm)] false),
   (some gm,.map (bT i64 i64 ([]:List (Nat×Nat)))),(some gt,.cells [ae 1 ga (fs.map i64),.slice (some ⟨gb,0,none⟩) np np] false),(ga,.cells (flatC (fs.map i64)) false),(some gb,.cells (flatC (ps.map i64)) false)] O [5,6,7,3,0,1,4,2] (by decide)
  simpa[jG,yu,ae] using this
 refine jn (σ:=((List Nat)×(List Nat)×(List (Nat×Nat)))×(Option Nat×Option Nat×Option Nat×List Rw×List (Flt×Nat))) hm 153 [5] (fun ((ps,os,cs),(ga,ao,af,X,ot))=>(ps,X.map Rw.val,os,cs)) (fun ((ps,os,cs),(ga,ao,af,X,ot)) h=>(ga=none->fs=[])/\(ao=none->X=[])/\(af=none->os=[])/\(∀ x∈X,∃ a r,x=.own a r/\(a=none↔r=[]))/\Own vars h0 (jG gt ga gb np fs ps gp ao X af os gm cs go ot L) h) (fun _=>[]) (fun hm=>?_) ?_
 ·refine gX ?_;refine lw 153 [5,6,7,25,26] (σ:=((List Nat)×(List Nat)×(List (Nat×Nat))×(List (Flt×Nat))×Nat)×(Option Nat×Option Nat×Option Nat×List Rw)) (fun ((ps,os,cs,ot,i),(ga,ao,af,X))=>(ps,X.map Rw.val,os,cs,ot,i)) (fun ((ps,os,cs,ot,i),(ga,ao,af,X)) h=>(ga=none->fs=[])/\(ao=none->X=[])/\(af=none->os=[])/\(∀ x∈X,∃ a r,x=.own a r/\(a=none↔r=[]))/\Own vars h0 (jG gt ga gb np fs ps gp ao X af os gm cs go ot L) h) (fun ((ps,os,cs,ot,i),(ga,ao,af,X))=>[(27,i64 i)]) ((ps,[],[],[],0),(ga,none,none,[])) hm ⟨hga,fun _=>rfl,fun _=>rfl,fun x hx=>by (cases hx),O⟩ ?_;clear hm O hga;rintro⟨⟨ps,os,cs,ot,i⟩,⟨ga,ao,af,X⟩⟩ nx base h hm ⟨hga,hao,haf,hX,O⟩;refine gX ?_;refine br hm (fun hm=>?_) fun hm=>?_
  ·refine gX ?_;refine atF hm fun f hf hm=>?_;refine gH ?_;refine O.new (ai (l:=[(n8 0),(i64 0),(z64 0),(n8 0),(i64 0)]) rfl rfl rfl) fun g9 h O=>?_;refine gH ?_;refine O.stC 5 (.head _) [(n8 f.model),(i64 f.line.node),(z64 f.line.pin),(n8 f.value),(i64 f.other)] fun h O=>?_;refine gH ?_;have O:=GY O
   apply Cs;conv=>whnf
   apply Cs;refine gH ?_
   apply Cs;conv=>whnf
   apply Cs;refine gH ?_;refine jn (σ:=((List Nat)×(List (Nat×Nat))×(List (Flt×Nat))×Nat×Bool)×(Option Nat)) hm 153 [5,6,7,8,25,26,27] (fun s=>s.1) (fun ((ps,cs,ot,at_,is),ga) h=>(ga=none->fs=[])/\Own vars h0 (jG gt ga gb np fs ps gp ao X af os gm cs go ot L) h) (fun ((ps,cs,ot,at_,is),ga)=>[(10,i64 at_),(11,.bool is)]) (fun hm=>?_) ?_
   ·refine gX ?_;refine ldO O.i8 ?_;refine gX ?_;refine br hm (fun hm=>?_) fun hm=>?_
    ·refine gX ?_;refine ldO O.i3 ?_;refine gH ?_;refine⟨.inr (.inr (bz rfl O.i3 rfl rfl)),?_⟩;refine gH ?_;refine ldO O.i8 ?_;refine gH ?_;refine ldO O.i8 ?_;refine gH ?_;refine ldO O.i8 ?_;refine gH ?_;obtain⟨_,_,hcall,x,_,hm,rfl,_,_,rfl⟩:=cM hm hga O;refine⟨_,_,hcall,?_⟩;refine gH ?_;refine⟨.inl (Ext.refl _),?_⟩;refine gH ?_;obtain⟨_,h,hcall,ps,rt,hm,rfl,hga,O,_⟩:=dz hm hga O;refine⟨_,_,hcall,?_⟩;refine gH ?_;refine⟨.inr (by kernel_rfl),?_⟩;refine gX ?_;have O:Own vars h0 (jG gt ga gb np fs ps gp ao X af os gm cs go ot ((some g9,.cells [(n8 f.model),(i64 f.line.node),(z64 f.line.pin),(n8 f.value),(i64 f.other)] false)::L)) h:=O;refine ldO O.i3 ?_;refine gH ?_;refine⟨_,nP (ek:=i64) (ev:=i64) (m:=cs) (k:=rt) (z:=0) rfl rfl rfl rfl rfl sX O.i6 rfl rfl,?_⟩;refine gX ?_;refine br hm (fun hm=>?_) fun hm=>?_
     ·refine gX ?_;refine ldO O.i3 ?_;refine gH ?_;refine⟨.inr (.inr (bz rfl O.i3 rfl rfl)),?_⟩;refine gH ?_;refine ldO O.i3 ?_;refine gH ?_;refine⟨.inr (.inr (bz rfl O.i3 rfl rfl)),?_⟩;refine gH ?_;refine O.Bd (ek:=i64) (ev:=i64) (m:=cs) (k:=rt) (v:=X.length) (.tail _ (.tail _ (.tail _ (.tail _ (.tail _ (.tail _ (.head _))))))) rfl rfl rfl sX rfl rfl rfl fun h O=>?_;refine gH ?_;have O:=pT (O:Own vars h0 (jG gt ga gb np fs ps gp ao X af os gm (kh cs rt X.length) go ot ((some g9,.cells [(n8 f.model),(i64 f.line.node),(z64 f.line.pin),(n8 f.value),(i64 f.other)] false)::L)) h);rw[<- (List.length_map Rw.val:(X.map Rw.val).length=X.length)] at O;exact jx ((ps,kh cs rt (X.map Rw.val).length,ot,(cv cs rt).getD 0,(cv cs rt).isSome),ga) hm ⟨hga,O⟩
     ·refine gX ?_;exact jx ((ps,cs,ot,(cv cs rt).getD 0,(cv cs rt).isSome),ga) hm ⟨hga,pT O⟩
    ·refine gX ?_;refine ldA O.i8 ?_;refine gH ?_;refine⟨_,nP (ek:=az) (ev:=i64) (m:=ot) (k:=f) (z:=0) rfl rfl rfl (by kernel_rfl) (by kernel_rfl) (BQ rfl) O.i7 rfl rfl,?_⟩;refine gX ?_;refine br hm (fun hm=>?_) fun hm=>?_
     ·refine gX ?_;refine ldA O.i8 ?_;refine gH ?_;refine⟨.inr (.inr (aI rfl O.i8 rfl rfl (lbE rfl) rfl)),?_⟩;refine gH ?_;refine ldO O.i3 ?_;refine gH ?_;refine⟨.inr (.inr (bz rfl O.i3 rfl rfl)),?_⟩;refine gH ?_;refine O.Bd (ek:=az) (ev:=i64) (m:=ot) (k:=f) (v:=X.length) (.tail _ (.tail _ (.tail _ (.tail _ (.tail _ (.tail _ (.tail _ (.head _)))))))) rfl rfl (by kernel_rfl) (BQ rfl) rfl rfl rfl fun h O=>?_;refine gH ?_;have O:=pT (O:Own vars h0 (jG gt ga gb np fs ps gp ao X af os gm cs go (kh ot f X.length) ((some g9,.cells [(n8 f.model),(i64 f.line.node),(z64 f.line.pin),(n8 f.value),(i64 f.other)] false)::L)) h);rw[<- (List.length_map Rw.val:(X.map Rw.val).length=X.length)] at O;exact jx ((ps,cs,kh ot f (X.map Rw.val).length,(cv ot f).getD 0,(cv ot f).isSome),ga) hm ⟨hga,O⟩
     ·refine gX ?_;exact jx ((ps,cs,ot,(cv ot f).getD 0,(cv ot f).isSome),ga) hm ⟨hga,pT O⟩
   ·clear hm hga O;rintro⟨⟨ps,cs,ot,at_,is⟩,ga⟩ base h hm ⟨hga,O⟩
    conv=>whnf
    refine jn (σ:=Nat×(Option Nat×List Rw)) hm 153 [5,6,7,8,25,26,27] (fun (at_,(ao,X))=>(X.map Rw.val,at_)) (fun (at_,(ao,X)) h=>(ao=none->X=[])/\(∀ x∈X,∃ a r,x=.own a r/\(a=none↔r=[]))/\Own vars h0 (jG gt ga gb np fs ps gp ao X af os gm cs go ot L) h) (fun (at_,(ao,X))=>[(10,i64 at_)]) (fun hm=>?_) ?_
    ·refine gX ?_;refine br hm (fun hm=>?_) fun hm=>?_
     ·refine gX ?_;refine ldO O.i3 ?_;refine gX ?_;refine ldO O.i3 ?_;refine gH ?_;refine fz ?_;refine gH ?_;obtain⟨hm1,hm⟩:=hm;rw[List.length_map] at hm1 hm;refine O.apL (b:=24) (W:=True) (enc:=dZ) (l:=X) (new:=[Rw.own none []]) 1 (.tail _ (.tail _ (.tail _ (.tail _ (.head _))))) hao ⟨hm1,trivial⟩ (fun ao' h hao' O _=>?_) (hsz:=fun x=>by rw[ln];rfl) (hone:=fun x=>by cases x <;> rfl);refine gH ?_;refine O.stC 1 (.tail _ (.tail _ (.tail _ (.head _)))) [.pointer (some ⟨gt,0,none⟩),ae 1 ao' ((X++[Rw.own none []]).map dZ),ae 1 af (os.map i64),.map (some gm)] fun h O=>?_;refine gH ?_;have O:=Own.newRow (S:=(jG gt ga gb np fs ps gp ao' (X++[Rw.own none []]) af os gm cs go ot L).take 8++L) (X:=X) O
      have e:(X++[Rw.own none []]).map Rw.val=X.map Rw.val++[[]]:=by simp[Rw.val]
      refine jx (X.length,(ao',X++[Rw.own none []])) (by dsimp only;rw[e];exact hm) ⟨hao',fun x hx=>?_,O⟩
      rcases List.mem_append.1 hx with hx|hx
      ·exact hX x hx
      ·rw[List.mem_singleton] at hx;exact⟨none,[],hx,by simp⟩
     ·refine gX ?_;exact jx (at_,(ao,X)) hm ⟨hao,hX,O⟩
    ·clear hm hao hX O;rintro⟨at_,⟨ao,X⟩⟩ base h hm ⟨hao,hX,O⟩;obtain⟨rw_,hrw,hm1,hm2,hm3,hm⟩:=hm
     obtain⟨x,hx,hxv⟩:∃ x,X[at_]?=some x/\x.val=rw_:=by
      rw[List.getElem?_map] at hrw
      cases hq:X[at_]? with
      |none=>rw[hq] at hrw;cases hrw
      |some x=>rw[hq] at hrw;exact⟨x,rfl,Option.some.inj hrw⟩
     obtain⟨a,r,rfl,har⟩:=hX x (List.mem_of_getElem? hx);obtain rfl:r=rw_:=hxv
     obtain⟨g0,rfl⟩:∃ g0,ao=some g0:=by
      cases ao with
      |none=>have:=hao rfl;subst this;cases hx
      |some g=>exact⟨g,rfl⟩
     have O:=Own.B2 (S:=(jG gt ga gb np fs ps gp (some g0) X af os gm cs go ot L).take 8++L) O hx
     have hlt:at_<(X.map dZ).length:=by rw[List.length_map];exact ag hx
     conv=>whnf
     apply Cs;conv=>whnf
     refine CodeS.kX ?_;refine gH ?_;refine ldO O.i4 ?_;refine gH ?_;refine⟨.inr (.inr (bz rfl O.i4 rfl rfl)),?_⟩;refine gH ?_;refine ldO O.i4 ?_;refine gH ?_;refine⟨.inr (.inr (bz rfl O.i4 rfl rfl)),?_⟩;refine gH ?_;refine ix (W:=fun _=>True) (l:=X) (j:=at_) 1 ⟨hlt,_,hx,trivial⟩ fun x' hx' _=>?_;refine gH ?_;refine ldE (enc:=dZ) (l:=X) (s:=1) (i:=0) O.i5 hx ?_ (v:=ae 1 a (r.map i64)) (hs:=fun x=>by rw[ln];rfl);refine gH ?_;refine⟨.inr (.inl (by kernel_rfl)),?_⟩;refine gH ?_;refine O.dJ (l:=([i]:(List Nat))) (enc:=i64) (s:=1) (z:=(i64 0)) rfl rfl (by kernel_rfl) (by kernel_rfl) rfl rfl rfl rfl (fun _=>rfl) fun g64 h O=>?_;refine gH ?_;have Ok:=O;refine O.gR (enc:=i64) (l:=r) (new:=([i]:(List Nat))) (s:=1) (b:=8) (.tail _ (.head _)) har.1 rfl rfl rfl rfl rfl rfl rfl rfl (YOk.own O.i0 rfl (fun _=>rfl) rfl) (fun _=>rfl) (fun _=>rfl) (by decide) hm1 fun a2 h ha2 O=>?_;refine gH ?_;refine⟨.inr (.inr (wE (i:=3) (by kernel_rfl) rfl rfl Ok.i5 (O.at (.tail _ (.tail _ (.tail _ (.tail _ (.tail _ (.head _))))))))),?_⟩;refine gH ?_;clear Ok;refine ix (W:=fun _=>True) (l:=X) (j:=at_) 1 ⟨hlt,_,hx,trivial⟩ fun x' hx' _=>?_;refine gH ?_;refine O.stE (enc:=dZ) (l:=X) 1 (.tail _ (.tail _ (.tail _ (.tail _ (.tail _ (.tail _ (.head _))))))) hx (Rw.own a2 (r++[i])) (fun h O=>?_) (hz:=fun x=>by rw[ln];rfl);refine gH ?_;have O:=O.tail;obtain⟨X2,hX2⟩:∃ X2,X.set at_ (Rw.own a2 (r++[i]))=X2:=⟨_,rfl⟩;have eg:ae 1 (some g0) (X.map dZ)=ae 1 (some g0) (X2.map dZ):=A9 (by rw[<- hX2];simp)
     have ev:X2.map Rw.val=(X.map Rw.val).set at_ (r++[i]):=by rw[<- hX2,List.map_set];rfl
     have O:=Own.putRow (S:=(jG gt ga gb np fs ps gp (some g0) X2 af os gm cs go ot L).take 8++L) (j:=at_) (x:=.own a r) (X:=X) (by rw[eg,hX2] at O;exact O) hx;rw[hX2] at O;have O:Own vars h0 (jG gt ga gb np fs ps gp (some g0) X2 af os gm cs go ot L) h:=O;refine gX ?_;refine ldO O.i3 ?_;refine gH ?_;refine fz ?_;refine gH ?_;refine O.apL (b:=8) (W:=True) (enc:=i64) (l:=os) (new:=[at_]) 1 (.tail _ (.tail _ (.tail _ (.tail _ (.tail _ (.head _)))))) haf ⟨hm2,trivial⟩ fun af' h haf' O _=>?_;refine gH ?_;refine O.stC 1 (.tail _ (.tail _ (.tail _ (.head _)))) [.pointer (some ⟨gt,0,none⟩),ae 1 (some g0) (X2.map dZ),ae 1 af' ((os++[at_]).map i64),.map (some gm)] fun h O=>?_;refine gX ?_;refine aH (a:=i) (b:=1) (W:=True) ⟨hm3,trivial⟩ fun _=>?_;refine gH ?_;refine jx ((ps,os++[at_],cs,ot,i+1),(ga,some g0,af',X2)) (by dsimp only;rw[ev];exact hm) ⟨hga,(fun e=>by cases e),haf',fun y hy=>?_,O⟩;rw[<- hX2] at hy
     rcases List.mem_or_eq_of_mem_set hy with hy|hy
     ·exact hX y hy
     ·exact⟨a2,r++[i],hy,⟨ha2,fun e=>by simp at e⟩⟩
  ·refine gX ?_;refine jx ((ps,os,cs),(ga,ao,af,X,ot)) hm ⟨hga,hao,haf,hX,O⟩
 ·clear hm O hga;rintro⟨⟨ps,os,cs⟩,⟨ga,ao,af,X,ot⟩⟩ base h hm ⟨hga,hao,haf,hX,O⟩;obtain⟨hne,hlen,hm⟩:=hm;obtain⟨R,hR⟩:∃ R,X.map Rw.val=R:=⟨_,rfl⟩;simp only[hR] at hne hlen hm
  have hn:X.length=R.length:=by rw[<- hR];simp
  have hao':ao=none->R=[]:=fun e=>by rw[<- hR,hao e];rfl
  conv=>whnf
  refine jn (α:=Unit) (first:=fun k=>k ()) (rest:=fun _=>True) (σ:=Unit) trivial 153 [5] (fun s=>s) (fun _ h=>Own vars h0 (jG gt ga gb np fs ps gp ao (R.map Rw.fz) af os gm cs go ot L) h) (fun _=>[]) (fun _=>?_) ?_
  ·refine gX ?_;refine ldO O.i3 ?_;refine gH ?_
   apply Cs;conv=>whnf
   apply Cs;conv=>whnf
   refine ib hM (nn:=153) (by kernel_rfl) (σ:=Nat×List Rw) (fun (k,Y) h=>k<=R.length/\Y.map Rw.val=R/\(∀ j x,Y[j]?=some x->j<k->∃ r,x=.fz r)/\(∀ j x,Y[j]?=some x->k<=j->∃ a r,x=.own a r/\(a=none↔r=[]))/\Own vars h0 (jG gt ga gb np fs ps gp ao Y af os gm cs go ot L) h)
    (fun (k,Y)=>[(5,.pointer (some ⟨gp,0,none⟩)),(133,i64 X.length),(134,i64 k)]) (fun (k,Y)=>R.length-k) rfl ⟨(0,X),⟨Nat.zero_le _,hR,fun j x _ h=>by omega,fun j x hx _=>hX x (List.mem_of_getElem? hx),O⟩,rfl,rfl,rfl,trivial⟩ ?_
   clear O;rintro⟨k,Y⟩ base h ⟨hk,hY,hd,hu,O⟩;conv=>whnf
   have hYn:Y.length=R.length:=by rw[<- hY];simp
   refine gX ?_;refine br (b:=ltN k X.length) ⟨id,id⟩ (fun hlt=>?_) fun hge=>?_
   ·have hlt:k<Y.length:=by rw[aY] at hlt;simp at hlt;omega
    obtain⟨x,hx⟩:∃ x,Y[k]?=some x:=⟨_,List.getElem?_eq_getElem hlt⟩;obtain⟨a,r,rfl,har⟩:=hu k x hx (Nat.le_refl _);have hr:r≠[]:=hne r (by rw[<- hY];exact List.mem_map.2 ⟨_,List.mem_of_getElem? hx,rfl⟩)
    obtain⟨g,rfl⟩:∃ g,a=some g:=by
     cases a with
     |none=>exact absurd (har.1 rfl) hr
     |some g=>exact⟨g,rfl⟩
    obtain⟨g0,rfl⟩:∃ g0,ao=some g0:=by
     cases ao with
     |none=>have:=hao' rfl;rw[this] at hYn;rw[hYn] at hlt;cases hlt
     |some g=>exact⟨g,rfl⟩
    have O:=Own.B2 (S:=(jG gt ga gb np fs ps gp (some g0) Y af os gm cs go ot L).take 8++L) O hx
    have hlt2:k<(Y.map dZ).length:=by rw[List.length_map];exact hlt
    refine gX ?_;refine ldO O.i4 ?_;refine gH ?_;refine⟨.inr (.inr (bz rfl O.i4 rfl rfl)),?_⟩;refine gH ?_;refine ldO O.i4 ?_;refine gH ?_;refine⟨.inr (.inr (bz rfl O.i4 rfl rfl)),?_⟩;refine gH ?_;refine ix (W:=fun _=>True) (l:=Y) (j:=k) 1 ⟨hlt2,_,hx,trivial⟩ fun x' hx' _=>?_;refine gH ?_;refine ldE (enc:=dZ) (l:=Y) (s:=1) (i:=0) O.i5 hx ?_ (v:=ae 1 (some g) (r.map i64)) (hs:=fun x=>by rw[ln];rfl);refine gH ?_;refine⟨.inr (.inl (by kernel_rfl)),?_⟩;refine gH ?_;refine fg Tryz.func76 ?_;refine gX ?_;refine ui (s:=1) (enc:=i64) (l:=r) (n:=r.length) (m:=r.length) rfl rfl rfl rfl rfl rfl rfl ?_;refine gX ?_;refine⟨.inl (Ext.refl _),?_⟩;refine gH ?_;refine ix (W:=fun _=>True) (l:=Y) (j:=k) 1 ⟨hlt2,_,hx,trivial⟩ fun x' hx' _=>?_;refine gH ?_
    refine O.stE (enc:=dZ) (l:=Y) 1 (.tail _ (.tail _ (.tail _ (.tail _ (.tail _ (.head _)))))) hx (Rw.cut (some g) r) (fun h O=>?_) (hz:=fun x=>by rw[ln];rfl);conv=>whnf
    refine⟨.inl (by kernel_rfl),?_⟩;refine gH ?_;obtain⟨Y2,hY2⟩:∃ Y2,Y.set k (Rw.fz r)=Y2:=⟨_,rfl⟩;refine CodeS.ghost O (.head _) (.tail _ (.tail _ (.tail _ (.tail _ (.tail _ (.head _)))))) (t1:=149) (t2:=145) rfl rfl rfl rfl (cs2':=flatC (Y2.map dZ)) (fun h2 hg=>?_) fun h O=>?_
    ·rw[Ec,Ec,<- hY2,List.map_set,List.map_set];exact LLe.set (VLe.Hr hg)
    have eg:ae 1 (some g0) (Y.map dZ)=ae 1 (some g0) (Y2.map dZ):=A9 (by rw[<- hY2];simp)
    have O:Own vars h0 (jG gt ga gb np fs ps gp (some g0) Y2 af os gm cs go ot L) h:=by
     have O:=O.tail;rw[eg,hY2] at O;exact O
    refine gX ?_;refine aH (a:=k) (b:=1) (W:=True) ⟨by omega,trivial⟩ fun _=>?_;refine gH ?_;refine⟨(k+1,Y2),(show R.length-(k+1)<R.length-k by omega),⟨(show k+1<=R.length by omega),?_,?_,?_,O⟩,rfl,rfl,rfl,trivial⟩
    ·rw[<- hY2,List.map_set,hY];exact iJ (by rw[<- hY,List.getElem?_map,hx];rfl)
    ·intro j x hj hjk;rw[<- hY2] at hj;by_cases c:k=j
     ·subst c;rw[List.getElem?_set_self hlt] at hj
      cases hj
      exact⟨r,rfl⟩
     ·rw[List.getElem?_set_ne c] at hj;exact hd j x hj (by omega)
    ·intro j x hj hjk;rw[<- hY2,List.getElem?_set,if_neg (by omega)] at hj;exact hu j x hj (by omega)
   ·have hge:k=R.length:=by rw[aY] at hge;simp at hge;omega
    have e:Y=R.map Rw.fz:=by
     apply List.ext_getElem?;intro j;rw[List.getElem?_map]
     cases hj:Y[j]? with
     |none=>rw[List.getElem?_eq_none (by have:=List.getElem?_eq_none_iff.1 hj;omega)];rfl
     |some x =>
      have h1:j<Y.length:=ag hj;obtain⟨r,rfl⟩:=hd j x hj (by omega)
      have:R[j]?=some r:=by rw[<- hY,List.getElem?_map,hj];rfl
      rw[this];rfl
    rw[e] at O;refine gX ?_;exact jx () trivial O
  ·rintro⟨⟩ base h _ O;refine gX ?_
   have em:(R.map Rw.fz).map dZ=R.map (aV 1 i64):=by rw[List.map_map];rfl
   have O:=Own.fY (L:=L++(R.map Rw.fz).map gU) ((jG gt ga gb np fs ps gp ao (R.map Rw.fz) af os gm cs go ot L).take 8) O [3,0,1,2,4,5,6] (by decide);rw[<- List.append_assoc] at O;have O:=Own.fst O;refine⟨fs,ps,np,R,os,cs,gp,gt,ga,gb,ao,af,gm,hm,rfl,hga,hao',haf,?_⟩;rw[<- em];exact⟨O,trivial⟩
end Go.Proofs.YtgiedjgdlckahaaGreatDoor
