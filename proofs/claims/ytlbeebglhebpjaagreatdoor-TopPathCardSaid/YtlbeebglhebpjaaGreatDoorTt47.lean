/-
  Tw0, U1, P8, U2, U3: parts of the proof.
-/
import Derived.Test.YtlbeebglhebpjaaGreatDoorTt46
namespace Go.Proofs.YtlbeebglhebpjaaGreatDoor
open Go.Abs
set_option maxRecDepth 100000
set_option maxHeartbeats 8000000
def bO (p0:Nat) (K:(Nat×Bool)->Prop):Prop :=
 ar (α:=Bool) (fun k2=>((eqN p0 5)=true->k2 (eqN p0 5))/\((eqN p0 5)=false->k2 (eqN p0 6))) (fun v1=>(v1=true->K (0,true))/\(v1=false->ar (α:=Bool) (fun k4=>((eqN p0 7)=true->k4 (eqN p0 7))/\((eqN p0 7)=false->k4 (eqN p0 8))) (fun v3=>(v3=true->K (1,true))/\(v3=false->K (2,false)))))
theorem eL {p0:Nat}{K:(Nat×Bool)->Prop} (hm:bO p0 K) {h0:Heap} (hB:HasB vars h0):∃ r,K r/\CallD Tryz.prog NG 68 ⟨[n8 p0]⟩ h0 ((fun (r:(Nat×Bool))=>Value.tuple ⟨[n8 (r.1),Value.bool (r.2)]⟩) r) h0:=by
 unfold bO at hm
 refine fw Tryz.func68 hB (enc:=(fun (r:(Nat×Bool))=>Value.tuple ⟨[n8 (r.1),Value.bool (r.2)]⟩)) (fun r=>PureV.tup (ag.cons (PureV.flat rfl) (ag.cons (PureV.flat rfl) (ag.nil)))) fun O=>?_;conv=>whnf
 apply Cs;conv=>whnf
 apply Cs;refine gH ?_
 apply Cs;conv=>whnf
 apply Cs;conv=>whnf
 apply Cs;refine gH ?_
 apply Cs;conv=>whnf
 refine jn hm 11 [4] (fun s=>s) (fun v1 h=>Own vars h0 [] h) (fun v1=>[(5,(.bool v1))]) (fun hm=>?_) ?_
 ·refine gX ?_
  refine br hm (fun hm=>?_) fun hm=>?_
  ·refine gX ?_
   exact jx (eqN p0 5) hm O
  ·refine gX ?_
   exact jx (eqN p0 6) hm O
 ·clear hm;rintro v1 base h hm O
  refine gX ?_
  refine br hm (fun hm=>?_) fun hm=>?_
  ·refine gX ?_
   exact⟨(0,true),hm,O.ext,fun h2 F=>VLe.tup (LLe.cons (VLe.refl _ _) (LLe.cons (VLe.refl _ _) (LLe.nil _)))⟩
  ·refine jn hm 11 [] (fun s=>s) (fun v3 h=>Own vars h0 [] h) (fun v3=>[(8,(.bool v3))]) (fun hm=>?_) ?_
   ·refine gX ?_
    refine br hm (fun hm=>?_) fun hm=>?_
    ·refine gX ?_
     exact jx (eqN p0 7) hm O
    ·refine gX ?_
     exact jx (eqN p0 8) hm O
   ·clear hm;rintro v3 base h hm O
    refine gX ?_
    refine br hm (fun hm=>?_) fun hm=>?_
    ·refine gX ?_
     exact⟨(1,true),hm,O.ext,fun h2 F=>VLe.tup (LLe.cons (VLe.refl _ _) (LLe.cons (VLe.refl _ _) (LLe.nil _)))⟩
    ·refine gX ?_
     exact⟨(2,false),hm,O.ext,fun h2 F=>VLe.tup (LLe.cons (VLe.refl _ _) (LLe.cons (VLe.refl _ _) (LLe.nil _)))⟩
def bm (p0:Circ) (K:(List Bool)->Prop):Prop :=
 1*p0.nodes.length<=2 ^ 48/\p0.nodes.length<2 ^ 63/\ar (α:=(List Bool)) (fun k4=>aB (S:=((List Bool)×Nat)) (fun (v5,v6) nx7=>((ltN v6 p0.outs.length)=true->∃ x8,p0.outs[v6]?=some x8/\x8<p0.nodes.length/\∃ x9,v5[x8]?=some x9/\v6+1<2 ^ 63/\nx7 ((v5.set x8 true),(v6+1)))/\((ltN v6 p0.outs.length)=false->k4 v5)) ((List.replicate p0.nodes.length (false:Bool)),0)) (fun v3=>ar (α:=(List Bool)) (fun k11=>aV p0 (fun r12=>aB (S:=((List Bool)×Nat)) (fun (v13,v14) nx15=>((ltN v14 r12.length)=true->∃ x16,r12[v14]?=some x16/\∃ x17,p0.nodes[x16]?=some x17/\∃ x18,x17.ins[0]?=some x18/\x18<p0.nodes.length/\∃ x19,v13[x18]?=some x19/\v14+1<2 ^ 63/\nx15 ((v13.set x18 true),(v14+1)))/\((ltN v14 r12.length)=false->k11 v13)) (v3,0))) (fun v10=>p0.nodes.length=v10.length/\K v10))
theorem eh {p0:Circ}{K:(List Bool)->Prop} (hm:bm p0 K) {h0:Heap} (hB:HasB vars h0):∃ r,K r/\CallD Tryz.prog NG 16 ⟨[ax p0]⟩ h0 ((ah 1 Value.bool) r) h0:=by
 unfold bm at hm
 refine fw Tryz.func16 hB (enc:=(ah 1 Value.bool)) (fun r=>cb (fun _=>ag.cons (PureV.flat rfl) ag.nil)) fun O=>?_;conv=>whnf
 refine gX ?_
 refine fz ?_;refine gX ?_
 refine O.mkL (enc:=Value.bool) 1 1 false hm fun g1 h O hm=>?_;refine gH ?_
 refine jn hm 42 [1,3] (fun s=>s) (fun v3 h=>Own vars h0 [(sC g1 (flatC (v3.map Value.bool)))] h) (fun v3=>[]) (fun hm=>?_) ?_
 ·refine gX ?_
  refine lw 42 [1,3,13,14] (σ:=((List Bool)×Nat)) (fun s=>s) (fun (v5,v6) h=>Own vars h0 [(sC g1 (flatC (v5.map Value.bool)))] h) (fun (v5,v6)=>[(15,(i64 v6))]) ((List.replicate p0.nodes.length (false:Bool)),0) hm O ?_
  clear hm;rintro⟨v5,v6⟩ nx7 base h hm O
  refine gX ?_
  refine br hm (fun hm=>?_) fun hm=>?_
  ·refine gX ?_
   refine atF hm fun x8 hx8 hm=>?_;refine gX ?_
   refine ix 1 hm fun x9 hx9 hm=>?_;refine gH ?_
   refine O.stE 1 (.head _) hx9 true fun h O=>?_;refine gX ?_
   refine aR hm fun hm=>?_;refine gH ?_
   exact jx ((v5.set x8 true),(v6+1)) hm O
  ·refine gX ?_
   exact jx v5 hm O
 ·clear hm;rintro v3 base h hm O
  conv=>whnf
  refine jn hm 42 [3] (fun s=>s) (fun v10 h=>Own vars h0 [(sC g1 (flatC (v10.map Value.bool)))] h) (fun v10=>[]) (fun hm=>?_) ?_
  ·refine gX ?_
   refine ca (bX hm O.has) fun r12 hm=>?_;refine gX ?_
   refine lw 42 [1,3,24,25] (σ:=((List Bool)×Nat)) (fun s=>s) (fun (v13,v14) h=>Own vars h0 [(sC g1 (flatC (v13.map Value.bool)))] h) (fun (v13,v14)=>[(26,(i64 v14))]) (v3,0) hm O ?_
   clear hm;rintro⟨v13,v14⟩ nx15 base h hm O
   refine gX ?_
   refine br hm (fun hm=>?_) fun hm=>?_
   ·refine gX ?_
    refine atF hm fun x16 hx16 hm=>?_;refine gX ?_
    refine atF hm fun x17 hx17 hm=>?_;refine gH ?_
    refine atF hm fun x18 hx18 hm=>?_;refine gH ?_
    refine ix 1 hm fun x19 hx19 hm=>?_;refine gH ?_
    refine O.stE 1 (.head _) hx19 true fun h O=>?_;refine gX ?_
    refine aR hm fun hm=>?_;refine gH ?_
    exact jx ((v13.set x18 true),(v14+1)) hm O
   ·refine gX ?_
    exact jx v13 hm O
  ·clear hm;rintro v10 base h hm O
   refine gX ?_
   obtain⟨hn20,hm⟩:=hm
   exact⟨v10,hm,O.ext,fun h2 F=>O.iu F (Nat.le_refl _) (.head _) (fun _=>rfl) hn20⟩
def di (p0:Circ) (p1:(List LnZ)) (K:Bool->Prop):Prop :=
 ar (α:=Unit) (fun k1=>aB (S:=Nat) (fun v2 nx3=>((ltN v2 p1.length)=true->∃ x4,p1[v2]?=some x4/\ar (α:=Bool) (fun k8=>((ltN x4.node 0)=true->k8 true)/\((ltN x4.node 0)=false->k8 (!ltN x4.node p0.nodes.length))) (fun v7=>(v7=true->K false)/\(v7=false->∃ x9,p0.nodes[x4.node]?=some x9/\ar (α:=Bool) (fun k13=>((eqN v2 0)=true->((neZ x4.pin (Int.negSucc 0))=true->k13 true)/\((neZ x4.pin (Int.negSucc 0))=false->((eqN x9.kind 0)=true->k13 false)/\((eqN x9.kind 0)=false->k13 (!(eqN x9.kind 14)))))/\((eqN v2 0)=false->k13 false)) (fun v12=>(v12=true->K false)/\(v12=false->ar (α:=Bool) (fun k15=>((ltN 0 v2)=true->((eqN x9.kind 14)=true->k15 true)/\((eqN x9.kind 14)=false->((ltI x4.pin (Int.ofNat 0))=true->k15 true)/\((ltI x4.pin (Int.ofNat 0))=false->((!ltI x4.pin (Int.ofNat x9.ins.length))=true->k15 true)/\((!ltI x4.pin (Int.ofNat x9.ins.length))=false->∃ j17:Nat,x4.pin=Int.ofNat j17/\∃ x16,x9.ins[j17]?=some x16/\1<=v2/\v2<2 ^ 63/\∃ x18,p1[(v2-1)]?=some x18/\k15 (neN x16 x18.node)))))/\((ltN 0 v2)=false->k15 false)) (fun v14=>(v14=true->K false)/\(v14=false->v2+1<2 ^ 63/\nx3 (v2+1))))))))/\((ltN v2 p1.length)=false->k1 ())) 0) (fun _=>((ltN 0 p1.length)=true->bm p0 (fun r19=>1<=p1.length/\p1.length<2 ^ 63/\∃ x20,p1[(p1.length-1)]?=some x20/\∃ x21,r19[x20.node]?=some x21/\K x21))/\((ltN 0 p1.length)=false->K false))
theorem mX {p0:Circ}{p1:(List LnZ)}{K:Bool->Prop} (hm:di p0 p1 K) {h0:Heap} (hB:HasB vars h0):∃ r,K r/\CallD Tryz.prog NG 67 ⟨[ax p0,(ah 2 au) p1]⟩ h0 (Value.bool r) h0:=by
 unfold di at hm
 refine fw Tryz.func67 hB (enc:=Value.bool) (fun r=>PureV.flat rfl) fun O=>?_;conv=>whnf
 refine gX ?_
 refine fz ?_;refine gH ?_
 refine jn hm 98 [1,2] (fun s=>s) (fun _ h=>Own vars h0 [] h) (fun _=>[]) (fun hm=>?_) ?_
 ·refine gX ?_
  refine lw 98 [1,2,8,9] (σ:=Nat) (fun s=>s) (fun v2 h=>Own vars h0 [] h) (fun v2=>[(10,(i64 v2))]) 0 hm O ?_
  clear hm;rintro v2 nx3 base h hm O
  refine gX ?_
  refine br hm (fun hm=>?_) fun hm=>?_
  ·refine gX ?_
   refine atF hm fun x4 hx4 hm=>?_;refine gH ?_
   (first|refine O.new (ai (l:=[(i64 0),(z64 0)]) rfl rfl rfl) fun g5 h O=>?_|refine O.bF (ai (l:=[(i64 0),(z64 0)]) rfl rfl rfl) fun g5 h O=>?_);refine gH ?_
   refine O.stC 2 (.head _) [(i64 x4.node),(z64 x4.pin)] fun h O=>?_;refine gH ?_
   apply Cs;conv=>whnf
   refine jn hm 98 [1,2,5,6,8,9,10] (fun s=>s) (fun v7 h=>Own vars h0 [(sC g5 [(i64 x4.node),(z64 x4.pin)])] h) (fun v7=>[(25,(.bool v7))]) (fun hm=>?_) ?_
   ·refine gX ?_
    refine br hm (fun hm=>?_) fun hm=>?_
    ·refine gX ?_
     exact jx true hm O
    ·refine gX ?_
     exact jx (!ltN x4.node p0.nodes.length) hm O
   ·clear hm;rintro v7 base h hm O
    refine gX ?_
    refine br hm (fun hm=>?_) fun hm=>?_
    ·refine gX ?_
     exact fe hm O
    ·refine gX ?_
     refine atF hm fun x9 hx9 hm=>?_;refine gH ?_
     (first|refine O.new (ai (l:=[(n8 0),nS,(i64 0),(i64 0)]) rfl rfl rfl) fun g10 h O=>?_|refine O.bF (ai (l:=[(n8 0),nS,(i64 0),(i64 0)]) rfl rfl rfl) fun g10 h O=>?_);refine gH ?_
     refine O.stC 4 (.head _) [(n8 x9.kind),((ah 1 i64) x9.ins),(i64 x9.mem),(i64 x9.bit)] fun h O=>?_;refine gH ?_
     apply Cs;conv=>whnf
     refine jn hm 98 [1,2,5,6,7,8,9,10] (fun s=>s) (fun v12 h=>Own vars h0 [(sC g5 [(i64 x4.node),(z64 x4.pin)]),(sC g10 [(n8 x9.kind),((ah 1 i64) x9.ins),(i64 x9.mem),(i64 x9.bit)])] h) (fun v12=>[(32,(.bool v12))]) (fun hm=>?_) ?_
     ·refine gX ?_
      refine br hm (fun hm=>?_) fun hm=>?_
      ·refine gX ?_
       refine br hm (fun hm=>?_) fun hm=>?_
       ·refine gX ?_
        exact jx true hm (O.sel [1,0] (by decide))
       ·refine gX ?_
        refine ldA (O.at (.head _)) ?_;refine gH ?_
        refine fg Tryz.func17 ?_;refine gX ?_
        refine fz ?_;refine gX ?_
        refine br hm (fun hm=>?_) fun hm=>?_
        ·refine gX ?_
         exact jx false hm (O.sel [1,0] (by decide))
        ·refine gX ?_
         exact jx (!(eqN x9.kind 14)) hm (O.sel [1,0] (by decide))
      ·refine gX ?_
       exact jx false hm (O.sel [1,0] (by decide))
     ·clear hm;rintro v12 base h hm O
      refine gX ?_
      refine br hm (fun hm=>?_) fun hm=>?_
      ·refine gX ?_
       exact fe hm O
      ·refine jn hm 98 [1,2,8,9,10] (fun s=>s) (fun v14 h=>Own vars h0 [] h) (fun v14=>[(45,(.bool v14))]) (fun hm=>?_) ?_
       ·refine gX ?_
        refine br hm (fun hm=>?_) fun hm=>?_
        ·refine gX ?_
         refine br hm (fun hm=>?_) fun hm=>?_
         ·refine gX ?_
          refine bt ?_;refine gH ?_
          refine bt ?_;refine gH ?_
          exact jx true hm (O.sel [] (by decide))
         ·refine gX ?_
          refine br hm (fun hm=>?_) fun hm=>?_
          ·refine gX ?_
           refine bt ?_;refine gH ?_
           exact jx true hm (O.sel [] (by decide))
          ·refine gX ?_
           first|refine⟨.inr (.inr (ae rfl (O.at (.tail _ (.head _))) rfl rfl)),?_⟩|refine⟨.inr (.inl (by kernel_rfl)),?_⟩
           refine gX ?_
           refine br hm (fun hm=>?_) fun hm=>?_
           ·refine gX ?_
            exact jx true hm (O.sel [] (by decide))
           ·refine gX ?_
            first|refine⟨.inr (.inr (ae rfl (O.at (.tail _ (.head _))) rfl rfl)),?_⟩|refine⟨.inr (.inl (by kernel_rfl)),?_⟩
            refine gX ?_
            obtain⟨j17,hz,x16,hx16,hm⟩:=hm
            refine tz (s:=1) (enc:=i64) (j:=j17) rfl rfl rfl (congrArg (Value.int .i64) hz) hx16 ?_;refine gH ?_
            refine rf hm fun hm=>?_;refine gH ?_
            refine atF hm fun x18 hx18 hm=>?_;refine gH ?_
            exact jx (neN x16 x18.node) hm (O.sel [] (by decide))
        ·refine gX ?_
         exact jx false hm (O.sel [] (by decide))
       ·clear hm;rintro v14 base h hm O
        refine gX ?_
        refine br hm (fun hm=>?_) fun hm=>?_
        ·refine gX ?_
         exact fe hm O
        ·refine gX ?_
         refine aR hm fun hm=>?_;refine gH ?_
         exact jx (v2+1) hm O
  ·refine gX ?_
   exact jx () hm O
 ·clear hm;rintro _ base h hm O
  refine gX ?_
  refine br hm (fun hm=>?_) fun hm=>?_
  ·refine gX ?_
   refine dF ?_
   refine gX ?_
   refine ca (eh hm O.has) fun r19 hm=>?_;refine gH ?_
   (first|refine⟨.inr (.inr (ae rfl (O.at (.head _)) rfl rfl)),?_⟩|refine⟨.inr (.inr (ae rfl (O.at (.tail _ (.head _))) rfl rfl)),?_⟩|refine⟨.inr (.inr (ae rfl (O.at (.tail _ (.tail _ (.head _)))) rfl rfl)),?_⟩|refine⟨.inr (.inr (ae rfl (O.at (.tail _ (.tail _ (.tail _ (.head _))))) rfl rfl)),?_⟩|refine⟨.inr (.inr (ae rfl (O.at (.tail _ (.tail _ (.tail _ (.tail _ (.head _)))))) rfl rfl)),?_⟩|refine⟨.inr (.inr (ae rfl (O.at (.tail _ (.tail _ (.tail _ (.tail _ (.tail _ (.head _))))))) rfl rfl)),?_⟩|refine⟨.inr (.inr (ae rfl (O.at (.tail _ (.tail _ (.tail _ (.tail _ (.tail _ (.tail _ (.head _)))))))) rfl rfl)),?_⟩|refine⟨.inl (Ext.refl _),?_⟩|refine⟨.inr (.inr rfl),?_⟩|refine⟨.inr (by kernel_rfl),?_⟩|refine⟨.inl (by kernel_rfl),?_⟩|refine id ?_);refine gH ?_
   refine rf hm fun hm=>?_;refine gH ?_
   refine atF hm fun x20 hx20 hm=>?_;refine gH ?_
   refine atF hm fun x21 hx21 hm=>?_;refine gX ?_
   exact fe hm O
  ·refine gX ?_
   exact fe hm O
def dO (p0:Circ) (p1:(List LnZ)) (K:Nat->Prop):Prop :=
 bw p0 (fun r1=>((neN r1.2 0)=true->K r1.2)/\((neN r1.2 0)=false->((ltN 256 p1.length)=true->K 3)/\((ltN 256 p1.length)=false->di p0 p1 (fun r2=>((!r2)=true->K 1)/\((!r2)=false->K 0)))))
theorem oq {p0:Circ}{p1:(List LnZ)}{K:Nat->Prop} (hm:dO p0 p1 K) {h0:Heap} (hB:HasB vars h0):∃ r,K r/\CallD Tryz.prog NG 33 ⟨[ax p0,(ah 2 au) p1]⟩ h0 (i64 r) h0:=by
 unfold dO at hm
 refine fw Tryz.func33 hB (enc:=i64) (fun r=>PureV.flat rfl) fun O=>?_;conv=>whnf
 refine gX ?_
 refine fz ?_;refine gX ?_
 refine ca (dr hm O.has) fun r1 hm=>?_;refine gX ?_
 refine br hm (fun hm=>?_) fun hm=>?_
 ·refine gX ?_
  exact fe hm O
 ·refine gX ?_
  refine br hm (fun hm=>?_) fun hm=>?_
  ·refine gX ?_
   exact fe hm O
  ·refine gX ?_
   refine ca (mX hm O.has) fun r2 hm=>?_;refine gX ?_
   refine br hm (fun hm=>?_) fun hm=>?_
   ·refine gX ?_
    exact fe hm O
   ·refine gX ?_
    exact fe hm O
def dA (p0:Circ) (K:(List (List LnZ))->Prop):Prop :=
 24*p0.nodes.length<=2 ^ 48/\p0.nodes.length<2 ^ 63/\ar (α:=(List (List LnZ))) (fun k6=>aB (S:=((List (List LnZ))×Nat)) (fun (v7,v9) nx11=>((ltN v9 p0.nodes.length)=true->ar (α:=(List (List LnZ))) (fun k15=>∃ x16,p0.nodes[v9]?=some x16/\aB (S:=((List (List LnZ))×Nat)) (fun (v19,v21) nx23=>((ltN v21 x16.ins.length)=true->ar (α:=(List (List LnZ))) (fun k27=>∃ x28,x16.ins[v21]?=some x28/\((neN x16.kind 14)=true->x28<p0.nodes.length/\∃ x29,v19[x28]?=some x29/\(x29.length+([(⟨v9,(Int.ofNat v21)⟩:LnZ)]:(List LnZ)).length)*16<=2 ^ 47/\x28<p0.nodes.length/\k27 (v19.set x28 (x29++([(⟨v9,(Int.ofNat v21)⟩:LnZ)]:(List LnZ)))))/\((neN x16.kind 14)=false->k27 v19)) (fun v24=>v21+1<2 ^ 63/\nx23 (v24,(v21+1))))/\((ltN v21 x16.ins.length)=false->k15 v19)) (v7,0)) (fun v12=>v9+1<2 ^ 63/\nx11 (v12,(v9+1))))/\((ltN v9 p0.nodes.length)=false->k6 v7)) ((List.replicate p0.nodes.length ([]:List LnZ)),0)) (fun v3=>p0.nodes.length=v3.length/\K v3)
theorem nQ {p0:Circ}{K:(List (List LnZ))->Prop} (hm:dA p0 K) {h0:Heap} (hB:HasB vars h0):∃ r,K r/\CallD Tryz.prog NG 19 ⟨[ax p0]⟩ h0 ((ah 1 (ah 2 au)) r) h0:=by
 unfold dA at hm
 refine fw Tryz.func19 hB (enc:=(ah 1 (ah 2 au))) (fun r=>cb (fun _=>ag.cons (cb (fun _=>tt _)) ag.nil)) fun O=>?_;conv=>whnf
 refine gX ?_
 refine fz ?_;refine gX ?_
 refine Own.uW (α:=LnZ) (b:=24) (n:=p0.nodes.length) au 2 O rfl rfl rfl rfl rfl rfl hm.1 hm.2.1 fun g1 h O=>?_;refine gH ?_
 replace hm:=hm.2.2
 refine jn (σ:=(List (List LnZ))×(List (Option Nat))) hm 46 [3] (fun s=>s.1) (fun (v3,a4) h=>RowsOk a4 v3/\Own vars h0 ([((some g1),.cells (aH 2 au a4 v3) false)]++(aC au a4 v3)) h) (fun (v3,a4)=>[]) (fun hm=>?_) ?_
 ·refine gX ?_
  refine lw 46 [3,13,14] (σ:=((List (List LnZ))×Nat)×(List (Option Nat))) (fun s=>s.1) (fun ((v7,v9),a8) h=>RowsOk a8 v7/\Own vars h0 ([((some g1),.cells (aH 2 au a8 v7) false)]++(aC au a8 v7)) h) (fun ((v7,v9),a8)=>[(15,(i64 v9))]) (((List.replicate p0.nodes.length ([]:List LnZ)),0),(List.replicate p0.nodes.length none)) hm ⟨(RowsOk.start p0.nodes.length),O⟩ ?_
  clear hm;rintro⟨⟨v7,v9⟩,a8⟩ nx11 base h hm ⟨hr10,O⟩
  refine gX ?_
  refine br hm (fun hm=>?_) fun hm=>?_
  ·apply Cs;conv=>whnf
   refine jn (σ:=(List (List LnZ))×(List (Option Nat))) hm 46 [3,13,14,15] (fun s=>s.1) (fun (v12,a13) h=>RowsOk a13 v12/\Own vars h0 ([((some g1),.cells (aH 2 au a13 v12) false)]++(aC au a13 v12)) h) (fun (v12,a13)=>[]) (fun hm=>?_) ?_
   ·refine gX ?_
    refine atF hm fun x16 hx16 hm=>?_;refine gH ?_
    (first|refine O.new (ai (l:=[(n8 0),(.slice none 0 0),(i64 0),(i64 0)]) rfl rfl rfl) fun g17 h O=>?_|refine O.bF (ai (l:=[(n8 0),(.slice none 0 0),(i64 0),(i64 0)]) rfl rfl rfl) fun g17 h O=>?_);refine gH ?_
    refine O.stC 4 (.head _) [(n8 x16.kind),((ah 1 i64) x16.ins),(i64 x16.mem),(i64 x16.bit)] fun h O=>?_;refine gX ?_
    refine lw 46 [3,4,5,13,14,15,21,22] (σ:=((List (List LnZ))×Nat)×(List (Option Nat))) (fun s=>s.1) (fun ((v19,v21),a20) h=>RowsOk a20 v19/\Own vars h0 ([((some g1),.cells (aH 2 au a20 v19) false),((some g17),.cells [(n8 x16.kind),((ah 1 i64) x16.ins),(i64 x16.mem),(i64 x16.bit)] false)]++(aC au a20 v19)) h) (fun ((v19,v21),a20)=>[(23,(i64 v21))]) ((v7,0),a8) hm ⟨hr10,(Own.xg [((some g17),.cells [(n8 x16.kind),((ah 1 i64) x16.ins),(i64 x16.mem),(i64 x16.bit)] false),((some g1),.cells (aH 2 au a8 v7) false)] (L:=(aC au a8 v7)) O [1,0] (by decide))⟩ ?_
    clear hm;rintro⟨⟨v19,v21⟩,a20⟩ nx23 base h hm ⟨hr22,O⟩
    refine gX ?_
    refine br hm (fun hm=>?_) fun hm=>?_
    ·apply Cs;conv=>whnf
     refine jn (σ:=(List (List LnZ))×(List (Option Nat))) hm 46 [3,4,5,13,14,15,21,22,23] (fun s=>s.1) (fun (v24,a25) h=>RowsOk a25 v24/\Own vars h0 ([((some g1),.cells (aH 2 au a25 v24) false),((some g17),.cells [(n8 x16.kind),((ah 1 i64) x16.ins),(i64 x16.mem),(i64 x16.bit)] false)]++(aC au a25 v24)) h) (fun (v24,a25)=>[]) (fun hm=>?_) ?_
     ·refine gX ?_
      refine atF hm fun x28 hx28 hm=>?_;refine gX ?_
      refine br hm (fun hm=>?_) fun hm=>?_
      ·refine gX ?_
       refine bV (s:=1) (j:=x28) rfl rfl rfl rfl hm.1 ?_;refine gH ?_
       replace hm:=hm.2
       obtain⟨x29,hx29,hm⟩:=hm
       obtain⟨a30,hA32,ha31,O⟩:=Own.focus (S:=[((some g1),.cells (aH 2 au a20 v19) false),((some g17),.cells [(n8 x16.kind),((ah 1 i64) x16.ins),(i64 x16.mem),(i64 x16.bit)] false)]) hr22 O hx29
       refine⟨_,tP (O.at (.tail _ (.head _))) hA32 hx29 rfl rfl,?_⟩;refine gH ?_
       refine fz ?_;refine gH ?_
       refine O.apL (enc:=au) (l:=x29) (new:=([(⟨v9,(Int.ofNat v21)⟩:LnZ)]:(List LnZ))) 2 (.head _) ha31.1 hm fun a34 h ha35 O hm=>?_;refine gH ?_
       refine bV (s:=1) (j:=x28) rfl rfl rfl rfl hm.1 ?_;refine gH ?_
       replace hm:=hm.2
       refine O.rY (s:=2) (enc:=au) (j:=x28) (v:=(aj 2 a34 ((x29++([(⟨v9,(Int.ofNat v21)⟩:LnZ)]:(List LnZ))).map au))) (.tail _ (.head _)) hr22 hx29 rfl rfl rfl rfl rfl fun h O=>?_;refine gH ?_
       rw[<- kn] at O
       have hr36:RowsOk (a20.set x28 a34) (v19.set x28 (x29++([(⟨v9,(Int.ofNat v21)⟩:LnZ)]:(List LnZ)))):=RowsOk.set hr22 ⟨ha35,fun e=>absurd e (by simp)⟩
       replace O:=Own.uc (S:=[(some g1,.cells (aH 2 au (a20.set x28 a34) (v19.set x28 (x29++([(⟨v9,(Int.ofNat v21)⟩:LnZ)]:(List LnZ))))) false),((some g17),.cells [(n8 x16.kind),((ah 1 i64) x16.ins),(i64 x16.mem),(i64 x16.bit)] false)]) O hx29 hr22
       exact jx ((v19.set x28 (x29++([(⟨v9,(Int.ofNat v21)⟩:LnZ)]:(List LnZ)))),(a20.set x28 a34)) hm ⟨hr36,O⟩
      ·refine gX ?_
       exact jx (v19,a20) hm ⟨hr22,O⟩
     ·clear hm;rintro⟨v24,a25⟩ base h hm ⟨hr26,O⟩
      refine gX ?_
      refine aR hm fun hm=>?_;refine gH ?_
      exact jx ((v24,(v21+1)),a25) hm ⟨hr26,O⟩
    ·refine gX ?_
     exact jx (v19,a20) hm ⟨hr22,(Own.xg [((some g1),.cells (aH 2 au a20 v19) false),((some g17),.cells [(n8 x16.kind),((ah 1 i64) x16.ins),(i64 x16.mem),(i64 x16.bit)] false)] (L:=(aC au a20 v19)) O [0] (by decide))⟩
   ·clear hm;rintro⟨v12,a13⟩ base h hm ⟨hr14,O⟩
    refine gX ?_
    refine aR hm fun hm=>?_;refine gH ?_
    exact jx ((v12,(v9+1)),a13) hm ⟨hr14,O⟩
  ·refine gX ?_
   exact jx (v7,a8) hm ⟨hr10,O⟩
 ·clear hm;rintro⟨v3,a4⟩ base h hm ⟨hr5,O⟩
  refine gX ?_
  obtain⟨hn37,hm⟩:=hm
  exact⟨v3,hm,O.ext,fun h2 F=>Own.Bf (L:=[((some g1),.cells (aH 2 au a4 v3) false)]) O F (Nat.le_refl _) (.head _) hr5 (fun _=>rfl) hn37⟩
def dN (p0:Circ) (K:(Nat×Nat)->Prop):Prop :=
 bw p0 (fun r1=>((neN r1.2 0)=true->K (0,r1.2))/\((neN r1.2 0)=false->aO p0 (fun r2=>bm p0 (fun r3=>8*p0.nodes.length<=2 ^ 48/\p0.nodes.length<2 ^ 63/\1*p0.nodes.length<=2 ^ 48/\p0.nodes.length<2 ^ 63/\ar (α:=Nat) (fun k9=>aB (S:=((List Nat)×(List Bool)×Nat×Nat)) (fun (v10,v11,v12,v13) nx14=>((ltN v13 r2.1.length)=true->ar (α:=((List Nat)×(List Bool)×Nat)) (fun k18=>∃ x19,r2.1[v13]?=some x19/\∃ x20,p0.nodes[x19]?=some x20/\ar (α:=((List Nat)×(List Bool))) (fun k25=>((eqN x20.kind 0)=true->x19<p0.nodes.length/\∃ x26,v10[x19]?=some x26/\k25 ((v10.set x19 1),v11))/\((eqN x20.kind 0)=false->((eqN x20.kind 14)=true->x19<p0.nodes.length/\∃ x27,v10[x19]?=some x27/\k25 ((v10.set x19 1),v11))/\((eqN x20.kind 14)=false->aB (S:=((List Nat)×(List Bool)×Nat)) (fun (v28,v29,v30) nx31=>((ltN v30 x20.ins.length)=true->ar (α:=((List Nat)×(List Bool))) (fun k34=>∃ x35,x20.ins[v30]?=some x35/\x19<p0.nodes.length/\∃ x36,v28[x19]?=some x36/\x35<p0.nodes.length/\∃ x37,v28[x35]?=some x37/\iV x36 x37 0 (fun r38=>x19<p0.nodes.length/\∃ x39,v28[x19]?=some x39/\x19<p0.nodes.length/\∃ x40,v29[x19]?=some x40/\(x40=true->x19<p0.nodes.length/\∃ x41,v29[x19]?=some x41/\k34 ((v28.set x19 r38.1),(v29.set x19 true)))/\(x40=false->x35<p0.nodes.length/\∃ x42,v29[x35]?=some x42/\(x42=true->x19<p0.nodes.length/\∃ x43,v29[x19]?=some x43/\k34 ((v28.set x19 r38.1),(v29.set x19 true)))/\(x42=false->x19<p0.nodes.length/\∃ x44,v29[x19]?=some x44/\k34 ((v28.set x19 r38.1),(v29.set x19 (ltN 0 r38.2))))))) (fun (v32,v33)=>v30+1<2 ^ 63/\nx31 (v32,v33,(v30+1))))/\((ltN v30 x20.ins.length)=false->k25 (v28,v29))) (v10,v11,0)))) (fun (v23,v24)=>∃ x45,r3[x19]?=some x45/\(x45=true->x19<p0.nodes.length/\∃ x46,v23[x19]?=some x46/\iV v12 x46 0 (fun r47=>ar (α:=Bool) (fun k49=>((ltN 0 r47.2)=true->k49 true)/\((ltN 0 r47.2)=false->x19<p0.nodes.length/\∃ x50,v24[x19]?=some x50/\k49 x50)) (fun v48=>(v48=true->K (0,3))/\(v48=false->k18 (v23,v24,r47.1)))))/\(x45=false->k18 (v23,v24,v12)))) (fun (v15,v16,v17)=>v13+1<2 ^ 63/\nx14 (v15,v16,v17,(v13+1))))/\((ltN v13 r2.1.length)=false->k9 v12)) ((List.replicate p0.nodes.length (0:Nat)),(List.replicate p0.nodes.length (false:Bool)),0,0)) (fun v8=>K (v8,0))))))
theorem nX {p0:Circ}{K:(Nat×Nat)->Prop} (hm:dN p0 K) {h0:Heap} (hB:HasB vars h0):∃ r,K r/\CallD Tryz.prog NG 6 ⟨[ax p0]⟩ h0 ((fun (r:(Nat×Nat))=>Value.tuple ⟨[n64 (r.1),i64 (r.2)]⟩) r) h0:=by
 unfold dN at hm
 refine fw Tryz.func6 hB (enc:=(fun (r:(Nat×Nat))=>Value.tuple ⟨[n64 (r.1),i64 (r.2)]⟩)) (fun r=>PureV.tup (ag.cons (PureV.flat rfl) (ag.cons (PureV.flat rfl) (ag.nil)))) fun O=>?_;conv=>whnf
 refine gX ?_
 refine fz ?_;refine gX ?_
 refine ca (dr hm O.has) fun r1 hm=>?_;refine gX ?_
 refine br hm (fun hm=>?_) fun hm=>?_
 ·refine gX ?_
  exact⟨(0,r1.2),hm,O.ext,fun h2 F=>VLe.tup (LLe.cons (VLe.refl _ _) (LLe.cons (VLe.refl _ _) (LLe.nil _)))⟩
 ·refine gX ?_
  refine ca (cm hm O.has) fun r2 hm=>?_;refine gX ?_
  refine ca (eh hm O.has) fun r3 hm=>?_;refine gX ?_
  refine O.mkL (enc:=n64) 8 1 0 hm fun g4 h O hm=>?_;refine gX ?_
  refine O.mkL (enc:=Value.bool) 1 1 false hm fun g6 h O hm=>?_;refine gH ?_
  apply Cs;conv=>whnf
  apply Cs;refine gH ?_
  refine jn hm 120 [] (fun s=>s) (fun v8 h=>Own vars h0 [] h) (fun v8=>[(11,(n64 v8))]) (fun hm=>?_) ?_
  ·refine gX ?_
   refine lw 120 [1,8,9,10,41,42] (σ:=((List Nat)×(List Bool)×Nat×Nat)) (fun s=>s) (fun (v10,v11,v12,v13) h=>Own vars h0 [(sC g4 (flatC (v10.map n64))),(sC g6 (flatC (v11.map Value.bool)))] h) (fun (v10,v11,v12,v13)=>[(11,(n64 v12)),(43,(i64 v13))]) ((List.replicate p0.nodes.length (0:Nat)),(List.replicate p0.nodes.length (false:Bool)),0,0) hm (O.sel [1,0] (by decide)) ?_
   clear hm;rintro⟨v10,v11,v12,v13⟩ nx14 base h hm O
   refine gX ?_
   refine br hm (fun hm=>?_) fun hm=>?_
   ·apply Cs;conv=>whnf
    refine jn hm 120 [1,8,9,10,41,42,43] (fun s=>s) (fun (v15,v16,v17) h=>Own vars h0 [(sC g4 (flatC (v15.map n64))),(sC g6 (flatC (v16.map Value.bool)))] h) (fun (v15,v16,v17)=>[(11,(n64 v17))]) (fun hm=>?_) ?_
    ·refine gX ?_
     refine atF hm fun x19 hx19 hm=>?_;refine gX ?_
     refine atF hm fun x20 hx20 hm=>?_;refine gH ?_
     (first|refine O.new (ai (l:=[(n8 0),nS,(i64 0),(i64 0)]) rfl rfl rfl) fun g21 h O=>?_|refine O.bF (ai (l:=[(n8 0),nS,(i64 0),(i64 0)]) rfl rfl rfl) fun g21 h O=>?_);refine gH ?_
     refine O.stC 4 (.head _) [(n8 x20.kind),((ah 1 i64) x20.ins),(i64 x20.mem),(i64 x20.bit)] fun h O=>?_;refine gH ?_
     refine jn hm 120 [1,8,9,10,11,14,41,42,43] (fun s=>s) (fun (v23,v24) h=>Own vars h0 [(sC g4 (flatC (v23.map n64))),(sC g6 (flatC (v24.map Value.bool)))] h) (fun (v23,v24)=>[]) (fun hm=>?_) ?_
     ·refine gX ?_
      refine ldA (O.at (.head _)) ?_;refine gH ?_
      refine fg Tryz.func17 ?_;refine gX ?_
      refine fz ?_;refine gX ?_
      refine br hm (fun hm=>?_) fun hm=>?_
      ·refine gX ?_
       refine bt ?_;refine gX ?_
       refine ix 1 hm fun x26 hx26 hm=>?_;refine gH ?_
       refine O.stE 1 (.tail _ (.head _)) hx26 1 fun h O=>?_;refine gH ?_
       exact jx ((v10.set x19 1),v11) hm (O.sel [1,2] (by decide))
      ·refine gX ?_
       refine br hm (fun hm=>?_) fun hm=>?_
       ·refine gX ?_
        refine ix 1 hm fun x27 hx27 hm=>?_;refine gH ?_
        refine O.stE 1 (.tail _ (.head _)) hx27 1 fun h O=>?_;refine gH ?_
        exact jx ((v10.set x19 1),v11) hm (O.sel [1,2] (by decide))
       ·refine gX ?_
        refine lw 120 [1,8,9,10,11,14,41,42,43,58,59] (σ:=((List Nat)×(List Bool)×Nat)) (fun s=>s) (fun (v28,v29,v30) h=>Own vars h0 [(sC g4 (flatC (v28.map n64))),(sC g6 (flatC (v29.map Value.bool)))] h) (fun (v28,v29,v30)=>[(60,(i64 v30))]) (v10,v11,0) hm (O.sel [1,2] (by decide)) ?_
        clear hm;rintro⟨v28,v29,v30⟩ nx31 base h hm O
        refine gX ?_
        refine br hm (fun hm=>?_) fun hm=>?_
        ·apply Cs;conv=>whnf
         refine jn hm 120 [1,8,9,10,11,14,41,42,43,58,59,60] (fun s=>s) (fun (v32,v33) h=>Own vars h0 [(sC g4 (flatC (v32.map n64))),(sC g6 (flatC (v33.map Value.bool)))] h) (fun (v32,v33)=>[]) (fun hm=>?_) ?_
         ·refine gX ?_
          refine atF hm fun x35 hx35 hm=>?_;refine gX ?_
          refine ix 1 hm fun x36 hx36 hm=>?_;refine gH ?_
          refine⟨_,ae rfl (O.at (.head _)) rfl (cR (enc:=n64) (s:=1) (k:=0) (fun _=>rfl) hx36 rfl),?_⟩;refine gH ?_
          refine ix 1 hm fun x37 hx37 hm=>?_;refine gH ?_
          refine⟨_,ae rfl (O.at (.head _)) rfl (cR (enc:=n64) (s:=1) (k:=0) (fun _=>rfl) hx37 rfl),?_⟩;refine gH ?_
          refine ca (jX hm O.has) fun r38 hm=>?_;refine gH ?_
          (first|refine⟨.inr (.inr (ae rfl (O.at (.head _)) rfl rfl)),?_⟩|refine⟨.inr (.inr (ae rfl (O.at (.tail _ (.head _))) rfl rfl)),?_⟩|refine⟨.inr (.inr (ae rfl (O.at (.tail _ (.tail _ (.head _)))) rfl rfl)),?_⟩|refine⟨.inr (.inr (ae rfl (O.at (.tail _ (.tail _ (.tail _ (.head _))))) rfl rfl)),?_⟩|refine⟨.inr (.inr (ae rfl (O.at (.tail _ (.tail _ (.tail _ (.tail _ (.head _)))))) rfl rfl)),?_⟩|refine⟨.inr (.inr (ae rfl (O.at (.tail _ (.tail _ (.tail _ (.tail _ (.tail _ (.head _))))))) rfl rfl)),?_⟩|refine⟨.inr (.inr (ae rfl (O.at (.tail _ (.tail _ (.tail _ (.tail _ (.tail _ (.tail _ (.head _)))))))) rfl rfl)),?_⟩|refine⟨.inl (Ext.refl _),?_⟩|refine⟨.inr (.inr rfl),?_⟩|refine⟨.inr (by kernel_rfl),?_⟩|refine⟨.inl (by kernel_rfl),?_⟩|refine id ?_);refine gH ?_
          refine ix 1 hm fun x39 hx39 hm=>?_;refine gH ?_
          refine O.stE 1 (.head _) hx39 r38.1 fun h O=>?_;refine gH ?_
          (first|refine⟨.inr (.inr (ae rfl (O.at (.head _)) rfl rfl)),?_⟩|refine⟨.inr (.inr (ae rfl (O.at (.tail _ (.head _))) rfl rfl)),?_⟩|refine⟨.inr (.inr (ae rfl (O.at (.tail _ (.tail _ (.head _)))) rfl rfl)),?_⟩|refine⟨.inr (.inr (ae rfl (O.at (.tail _ (.tail _ (.tail _ (.head _))))) rfl rfl)),?_⟩|refine⟨.inr (.inr (ae rfl (O.at (.tail _ (.tail _ (.tail _ (.tail _ (.head _)))))) rfl rfl)),?_⟩|refine⟨.inr (.inr (ae rfl (O.at (.tail _ (.tail _ (.tail _ (.tail _ (.tail _ (.head _))))))) rfl rfl)),?_⟩|refine⟨.inr (.inr (ae rfl (O.at (.tail _ (.tail _ (.tail _ (.tail _ (.tail _ (.tail _ (.head _)))))))) rfl rfl)),?_⟩|refine⟨.inl (Ext.refl _),?_⟩|refine⟨.inr (.inr rfl),?_⟩|refine⟨.inr (by kernel_rfl),?_⟩|refine⟨.inl (by kernel_rfl),?_⟩|refine id ?_);refine gH ?_
          refine gX ?_
          refine ix 1 hm fun x40 hx40 hm=>?_;refine gH ?_
          refine ldE (s:=1) (i:=0) (O.at (.tail _ (.head _))) hx40 ?_;refine gH ?_
          refine br hm (fun hm=>?_) fun hm=>?_
          ·refine gX ?_
           refine bt ?_;refine gH ?_
           refine ix 1 hm fun x41 hx41 hm=>?_;refine gH ?_
           refine O.stE 1 (.tail _ (.head _)) hx41 true fun h O=>?_;refine gH ?_
           exact jx ((v28.set x19 r38.1),(v29.set x19 true)) hm O
          ·refine gX ?_
           refine ix 1 hm fun x42 hx42 hm=>?_;refine gH ?_
           refine ldE (s:=1) (i:=0) (O.at (.tail _ (.head _))) hx42 ?_;refine gH ?_
           refine br hm (fun hm=>?_) fun hm=>?_
           ·refine gX ?_
            refine ix 1 hm fun x43 hx43 hm=>?_;refine gH ?_
            refine O.stE 1 (.tail _ (.head _)) hx43 true fun h O=>?_;refine gH ?_
            exact jx ((v28.set x19 r38.1),(v29.set x19 true)) hm O
           ·refine gX ?_
            refine ix 1 hm fun x44 hx44 hm=>?_;refine gH ?_
            refine O.stE 1 (.tail _ (.head _)) hx44 (ltN 0 r38.2) fun h O=>?_;refine gH ?_
            exact jx ((v28.set x19 r38.1),(v29.set x19 (ltN 0 r38.2))) hm O
         ·clear hm;rintro⟨v32,v33⟩ base h hm O
          refine gX ?_
          refine aR hm fun hm=>?_;refine gH ?_
          exact jx (v32,v33,(v30+1)) hm O
        ·refine gX ?_
         exact jx (v28,v29) hm O
     ·clear hm;rintro⟨v23,v24⟩ base h hm O
      refine gX ?_
      refine atF hm fun x45 hx45 hm=>?_;refine gX ?_
      refine br hm (fun hm=>?_) fun hm=>?_
      ·refine gX ?_
       refine ix 1 hm fun x46 hx46 hm=>?_;refine gH ?_
       refine ldE (s:=1) (i:=0) (O.at (.head _)) hx46 ?_;refine gH ?_
       refine ca (jX hm O.has) fun r47 hm=>?_;refine gH ?_
       refine jn hm 120 [1,8,9,10,11,41,42,43] (fun s=>s) (fun v48 h=>Own vars h0 [(sC g4 (flatC (v23.map n64))),(sC g6 (flatC (v24.map Value.bool)))] h) (fun v48=>[(117,(.bool v48))]) (fun hm=>?_) ?_
       ·refine gX ?_
        refine br hm (fun hm=>?_) fun hm=>?_
        ·refine gX ?_
         exact jx true hm O
        ·refine gX ?_
         refine ix 1 hm fun x50 hx50 hm=>?_;refine gH ?_
         refine ldE (s:=1) (i:=0) (O.at (.tail _ (.head _))) hx50 ?_;refine gH ?_
         exact jx x50 hm O
       ·clear hm;rintro v48 base h hm O
        refine gX ?_
        refine br hm (fun hm=>?_) fun hm=>?_
        ·refine gX ?_
         exact⟨(0,3),hm,O.ext,fun h2 F=>VLe.tup (LLe.cons (VLe.refl _ _) (LLe.cons (VLe.refl _ _) (LLe.nil _)))⟩
        ·refine gX ?_
         exact jx (v23,v24,r47.1) hm O
      ·refine gX ?_
       exact jx (v23,v24,v12) hm O
    ·clear hm;rintro⟨v15,v16,v17⟩ base h hm O
     refine gX ?_
     refine aR hm fun hm=>?_;refine gH ?_
     exact jx (v15,v16,v17,(v13+1)) hm O
   ·refine gX ?_
    exact jx v12 hm (O.sel [] (by decide))
  ·clear hm;rintro v8 base h hm O
   refine gX ?_
   exact⟨(v8,0),hm,O.ext,fun h2 F=>VLe.tup (LLe.cons (VLe.refl _ _) (LLe.cons (VLe.refl _ _) (LLe.nil _)))⟩
def ep (p0:Circ) (p1:PairT) (K:((List Nat)×(List Nat)×Nat)->Prop):Prop :=
 cq p0 p1.first (fun r1=>((neN r1.2.2 0)=true->K ([],[],r1.2.2))/\((neN r1.2.2 0)=false->cq p0 p1.second (fun r2=>((neN r2.2.2 0)=true->K ([],[],r2.2.2))/\((neN r2.2.2 0)=false->K (r1.2.1,r2.2.1,0)))))
theorem pz {p0:Circ}{p1:PairT}{K:((List Nat)×(List Nat)×Nat)->Prop} (hm:ep p0 p1 K) {h0:Heap} (hB:HasB vars h0):∃ r,K r/\CallD Tryz.prog NG 34 ⟨[ax p0,tH p1]⟩ h0 ((fun (r:((List Nat)×(List Nat)×Nat))=>Value.tuple ⟨[(ah 1 n8) (r.1),(ah 1 n8) (r.2.1),i64 (r.2.2)]⟩) r) h0:=by
 unfold ep at hm
 refine fw Tryz.func34 hB (enc:=(fun (r:((List Nat)×(List Nat)×Nat))=>Value.tuple ⟨[(ah 1 n8) (r.1),(ah 1 n8) (r.2.1),i64 (r.2.2)]⟩)) (fun r=>PureV.tup (ag.cons (cb (fun _=>ag.cons (PureV.flat rfl) ag.nil)) (ag.cons (cb (fun _=>ag.cons (PureV.flat rfl) ag.nil)) (ag.cons (PureV.flat rfl) (ag.nil))))) fun O=>?_;conv=>whnf
 refine gX ?_
 refine fz ?_;refine gH ?_
 refine fz ?_;refine gX ?_
 refine ca (eF hm O.has) fun r1 hm=>?_;refine gX ?_
 refine br hm (fun hm=>?_) fun hm=>?_
 ·refine gX ?_
  exact⟨([],[],r1.2.2),hm,O.ext,fun h2 F=>VLe.tup (LLe.cons (VLe.nil _ _) (LLe.cons (VLe.nil _ _) (LLe.cons (VLe.refl _ _) (LLe.nil _))))⟩
 ·refine gX ?_
  refine ca (eF hm O.has) fun r2 hm=>?_;refine gX ?_
  refine br hm (fun hm=>?_) fun hm=>?_
  ·refine gX ?_
   exact⟨([],[],r2.2.2),hm,O.ext,fun h2 F=>VLe.tup (LLe.cons (VLe.nil _ _) (LLe.cons (VLe.nil _ _) (LLe.cons (VLe.refl _ _) (LLe.nil _))))⟩
  ·refine gX ?_
   exact⟨(r1.2.1,r2.2.1,0),hm,O.ext,fun h2 F=>VLe.tup (LLe.cons (VLe.refl _ _) (LLe.cons (VLe.refl _ _) (LLe.cons (VLe.refl _ _) (LLe.nil _))))⟩
def dg (p0:Circ) (p1:(List Nat)) (p2:(List Nat)) (K:(List Bool)->Prop):Prop :=
 1*p0.nodes.length<=2 ^ 48/\p0.nodes.length<2 ^ 63/\aO p0 (fun r3=>ar (α:=(List Bool)) (fun k5=>aB (S:=((List Bool)×Nat)) (fun (v6,v7) nx8=>((ltN v7 r3.1.length)=true->ar (α:=(List Bool)) (fun k10=>∃ x11,r3.1[v7]?=some x11/\∃ x12,p0.nodes[x11]?=some x12/\((eqN x12.kind 0)=true->∃ x15,p1[x11]?=some x15/\aP x15 (fun r16=>(r16=true->∃ x17,p1[x11]?=some x17/\∃ x18,p2[x11]?=some x18/\x11<p0.nodes.length/\∃ x19,v6[x11]?=some x19/\k10 (v6.set x11 (eqN x17 x18)))/\(r16=false->x11<p0.nodes.length/\∃ x20,v6[x11]?=some x20/\k10 (v6.set x11 false))))/\((eqN x12.kind 0)=false->((eqN x12.kind 14)=true->∃ x21,p1[x11]?=some x21/\aP x21 (fun r22=>(r22=true->∃ x23,p1[x11]?=some x23/\∃ x24,p2[x11]?=some x24/\x11<p0.nodes.length/\∃ x25,v6[x11]?=some x25/\k10 (v6.set x11 (eqN x23 x24)))/\(r22=false->x11<p0.nodes.length/\∃ x26,v6[x11]?=some x26/\k10 (v6.set x11 false))))/\((eqN x12.kind 14)=false->bO x12.kind (fun r27=>ar (α:=(Bool×Bool)) (fun k30=>aB (S:=(Bool×Bool×Nat)) (fun (v31,v32,v33) nx34=>((ltN v33 x12.ins.length)=true->ar (α:=(Bool×Bool)) (fun k37=>∃ x38,x12.ins[v33]?=some x38/\ar (α:=Bool) (fun k40=>(v31=true->x38<p0.nodes.length/\∃ x41,v6[x38]?=some x41/\k40 x41)/\(v31=false->k40 false)) (fun v39=>(v32=true->k37 (v39,true))/\(v32=false->(r27.2=true->x38<p0.nodes.length/\∃ x42,v6[x38]?=some x42/\(x42=true->∃ x43,p2[x38]?=some x43/\k37 (v39,(eqN x43 r27.1)))/\(x42=false->k37 (v39,false)))/\(r27.2=false->k37 (v39,false))))) (fun (v35,v36)=>v33+1<2 ^ 63/\nx34 (v35,v36,(v33+1))))/\((ltN v33 x12.ins.length)=false->k30 (v31,v32))) (true,false,0)) (fun (v28,v29)=>(v28=true->∃ x44,p2[x11]?=some x44/\aP x44 (fun r45=>x11<p0.nodes.length/\∃ x46,v6[x11]?=some x46/\k10 (v6.set x11 r45)))/\(v28=false->(v29=true->∃ x47,p2[x11]?=some x47/\aP x47 (fun r48=>x11<p0.nodes.length/\∃ x49,v6[x11]?=some x49/\k10 (v6.set x11 r48)))/\(v29=false->x11<p0.nodes.length/\∃ x50,v6[x11]?=some x50/\k10 (v6.set x11 false)))))))) (fun v9=>v7+1<2 ^ 63/\nx8 (v9,(v7+1))))/\((ltN v7 r3.1.length)=false->k5 v6)) ((List.replicate p0.nodes.length (false:Bool)),0)) (fun v4=>p0.nodes.length=v4.length/\K v4))
theorem nf {p0:Circ}{p1:(List Nat)}{p2:(List Nat)}{K:(List Bool)->Prop} (hm:dg p0 p1 p2 K) {h0:Heap} (hB:HasB vars h0):∃ r,K r/\CallD Tryz.prog NG 36 ⟨[ax p0,(ah 1 n8) p1,(ah 1 n8) p2]⟩ h0 ((ah 1 Value.bool) r) h0:=by
 unfold dg at hm
 refine fw Tryz.func36 hB (enc:=(ah 1 Value.bool)) (fun r=>cb (fun _=>ag.cons (PureV.flat rfl) ag.nil)) fun O=>?_;conv=>whnf
 refine gX ?_
 refine fz ?_;refine gX ?_
 refine O.mkL (enc:=Value.bool) 1 1 false hm fun g1 h O hm=>?_;refine gX ?_
 refine ca (cm hm O.has) fun r3 hm=>?_;refine gH ?_
 refine jn hm 115 [7] (fun s=>s) (fun v4 h=>Own vars h0 [(sC g1 (flatC (v4.map Value.bool)))] h) (fun v4=>[]) (fun hm=>?_) ?_
 ·refine gX ?_
  refine lw 115 [1,2,3,7,28,29] (σ:=((List Bool)×Nat)) (fun s=>s) (fun (v6,v7) h=>Own vars h0 [(sC g1 (flatC (v6.map Value.bool)))] h) (fun (v6,v7)=>[(30,(i64 v7))]) ((List.replicate p0.nodes.length (false:Bool)),0) hm O ?_
  clear hm;rintro⟨v6,v7⟩ nx8 base h hm O
  refine gX ?_
  refine br hm (fun hm=>?_) fun hm=>?_
  ·apply Cs;conv=>whnf
   refine jn hm 115 [1,2,3,7,28,29,30] (fun s=>s) (fun v9 h=>Own vars h0 [(sC g1 (flatC (v9.map Value.bool)))] h) (fun v9=>[]) (fun hm=>?_) ?_
   ·refine gX ?_
    refine atF hm fun x11 hx11 hm=>?_;refine gX ?_
    refine atF hm fun x12 hx12 hm=>?_;refine gH ?_
    (first|refine O.new (ai (l:=[(n8 0),nS,(i64 0),(i64 0)]) rfl rfl rfl) fun g13 h O=>?_|refine O.bF (ai (l:=[(n8 0),nS,(i64 0),(i64 0)]) rfl rfl rfl) fun g13 h O=>?_);refine gH ?_
    refine O.stC 4 (.head _) [(n8 x12.kind),((ah 1 i64) x12.ins),(i64 x12.mem),(i64 x12.bit)] fun h O=>?_;refine gX ?_
    refine ldA (O.at (.head _)) ?_;refine gH ?_
    refine fg Tryz.func17 ?_;refine gX ?_
    refine fz ?_;refine gX ?_
    refine br hm (fun hm=>?_) fun hm=>?_
    ·refine gX ?_
     refine bt ?_;refine gX ?_
     refine atF hm fun x15 hx15 hm=>?_;refine gH ?_
     refine ca (bh hm O.has) fun r16 hm=>?_;refine gH ?_
     (first|refine⟨.inr (.inr (ae rfl (O.at (.head _)) rfl rfl)),?_⟩|refine⟨.inr (.inr (ae rfl (O.at (.tail _ (.head _))) rfl rfl)),?_⟩|refine⟨.inr (.inr (ae rfl (O.at (.tail _ (.tail _ (.head _)))) rfl rfl)),?_⟩|refine⟨.inr (.inr (ae rfl (O.at (.tail _ (.tail _ (.tail _ (.head _))))) rfl rfl)),?_⟩|refine⟨.inr (.inr (ae rfl (O.at (.tail _ (.tail _ (.tail _ (.tail _ (.head _)))))) rfl rfl)),?_⟩|refine⟨.inr (.inr (ae rfl (O.at (.tail _ (.tail _ (.tail _ (.tail _ (.tail _ (.head _))))))) rfl rfl)),?_⟩|refine⟨.inr (.inr (ae rfl (O.at (.tail _ (.tail _ (.tail _ (.tail _ (.tail _ (.tail _ (.head _)))))))) rfl rfl)),?_⟩|refine⟨.inl (Ext.refl _),?_⟩|refine⟨.inr (.inr rfl),?_⟩|refine⟨.inr (by kernel_rfl),?_⟩|refine⟨.inl (by kernel_rfl),?_⟩|refine id ?_);refine gH ?_
     refine br hm (fun hm=>?_) fun hm=>?_
     ·refine gX ?_
      refine atF hm fun x17 hx17 hm=>?_;refine gH ?_
      refine atF hm fun x18 hx18 hm=>?_;refine gH ?_
      refine ix 1 hm fun x19 hx19 hm=>?_;refine gH ?_
      refine O.stE 1 (.tail _ (.head _)) hx19 (eqN x17 x18) fun h O=>?_;refine gH ?_
      (first|refine⟨.inr (.inr (ae rfl (O.at (.head _)) rfl rfl)),?_⟩|refine⟨.inr (.inr (ae rfl (O.at (.tail _ (.head _))) rfl rfl)),?_⟩|refine⟨.inr (.inr (ae rfl (O.at (.tail _ (.tail _ (.head _)))) rfl rfl)),?_⟩|refine⟨.inr (.inr (ae rfl (O.at (.tail _ (.tail _ (.tail _ (.head _))))) rfl rfl)),?_⟩|refine⟨.inr (.inr (ae rfl (O.at (.tail _ (.tail _ (.tail _ (.tail _ (.head _)))))) rfl rfl)),?_⟩|refine⟨.inr (.inr (ae rfl (O.at (.tail _ (.tail _ (.tail _ (.tail _ (.tail _ (.head _))))))) rfl rfl)),?_⟩|refine⟨.inr (.inr (ae rfl (O.at (.tail _ (.tail _ (.tail _ (.tail _ (.tail _ (.tail _ (.head _)))))))) rfl rfl)),?_⟩|refine⟨.inl (Ext.refl _),?_⟩|refine⟨.inr (.inr rfl),?_⟩|refine⟨.inr (by kernel_rfl),?_⟩|refine⟨.inl (by kernel_rfl),?_⟩|refine id ?_);refine gH ?_
      refine gX ?_
      exact jx (v6.set x11 (eqN x17 x18)) hm (O.sel [1] (by decide))
     ·refine gX ?_
      refine ix 1 hm fun x20 hx20 hm=>?_;refine gH ?_
      refine O.stE 1 (.tail _ (.head _)) hx20 false fun h O=>?_;refine gH ?_
      (first|refine⟨.inr (.inr (ae rfl (O.at (.head _)) rfl rfl)),?_⟩|refine⟨.inr (.inr (ae rfl (O.at (.tail _ (.head _))) rfl rfl)),?_⟩|refine⟨.inr (.inr (ae rfl (O.at (.tail _ (.tail _ (.head _)))) rfl rfl)),?_⟩|refine⟨.inr (.inr (ae rfl (O.at (.tail _ (.tail _ (.tail _ (.head _))))) rfl rfl)),?_⟩|refine⟨.inr (.inr (ae rfl (O.at (.tail _ (.tail _ (.tail _ (.tail _ (.head _)))))) rfl rfl)),?_⟩|refine⟨.inr (.inr (ae rfl (O.at (.tail _ (.tail _ (.tail _ (.tail _ (.tail _ (.head _))))))) rfl rfl)),?_⟩|refine⟨.inr (.inr (ae rfl (O.at (.tail _ (.tail _ (.tail _ (.tail _ (.tail _ (.tail _ (.head _)))))))) rfl rfl)),?_⟩|refine⟨.inl (Ext.refl _),?_⟩|refine⟨.inr (.inr rfl),?_⟩|refine⟨.inr (by kernel_rfl),?_⟩|refine⟨.inl (by kernel_rfl),?_⟩|refine id ?_);refine gH ?_
      refine gX ?_
      exact jx (v6.set x11 false) hm (O.sel [1] (by decide))
    ·refine gX ?_
     refine br hm (fun hm=>?_) fun hm=>?_
     ·refine gX ?_
      refine atF hm fun x21 hx21 hm=>?_;refine gH ?_
      refine ca (bh hm O.has) fun r22 hm=>?_;refine gH ?_
      (first|refine⟨.inr (.inr (ae rfl (O.at (.head _)) rfl rfl)),?_⟩|refine⟨.inr (.inr (ae rfl (O.at (.tail _ (.head _))) rfl rfl)),?_⟩|refine⟨.inr (.inr (ae rfl (O.at (.tail _ (.tail _ (.head _)))) rfl rfl)),?_⟩|refine⟨.inr (.inr (ae rfl (O.at (.tail _ (.tail _ (.tail _ (.head _))))) rfl rfl)),?_⟩|refine⟨.inr (.inr (ae rfl (O.at (.tail _ (.tail _ (.tail _ (.tail _ (.head _)))))) rfl rfl)),?_⟩|refine⟨.inr (.inr (ae rfl (O.at (.tail _ (.tail _ (.tail _ (.tail _ (.tail _ (.head _))))))) rfl rfl)),?_⟩|refine⟨.inr (.inr (ae rfl (O.at (.tail _ (.tail _ (.tail _ (.tail _ (.tail _ (.tail _ (.head _)))))))) rfl rfl)),?_⟩|refine⟨.inl (Ext.refl _),?_⟩|refine⟨.inr (.inr rfl),?_⟩|refine⟨.inr (by kernel_rfl),?_⟩|refine⟨.inl (by kernel_rfl),?_⟩|refine id ?_);refine gH ?_
      refine br hm (fun hm=>?_) fun hm=>?_
      ·refine gX ?_
       refine atF hm fun x23 hx23 hm=>?_;refine gH ?_
       refine atF hm fun x24 hx24 hm=>?_;refine gH ?_
       refine ix 1 hm fun x25 hx25 hm=>?_;refine gH ?_
       refine O.stE 1 (.tail _ (.head _)) hx25 (eqN x23 x24) fun h O=>?_;refine gH ?_
       (first|refine⟨.inr (.inr (ae rfl (O.at (.head _)) rfl rfl)),?_⟩|refine⟨.inr (.inr (ae rfl (O.at (.tail _ (.head _))) rfl rfl)),?_⟩|refine⟨.inr (.inr (ae rfl (O.at (.tail _ (.tail _ (.head _)))) rfl rfl)),?_⟩|refine⟨.inr (.inr (ae rfl (O.at (.tail _ (.tail _ (.tail _ (.head _))))) rfl rfl)),?_⟩|refine⟨.inr (.inr (ae rfl (O.at (.tail _ (.tail _ (.tail _ (.tail _ (.head _)))))) rfl rfl)),?_⟩|refine⟨.inr (.inr (ae rfl (O.at (.tail _ (.tail _ (.tail _ (.tail _ (.tail _ (.head _))))))) rfl rfl)),?_⟩|refine⟨.inr (.inr (ae rfl (O.at (.tail _ (.tail _ (.tail _ (.tail _ (.tail _ (.tail _ (.head _)))))))) rfl rfl)),?_⟩|refine⟨.inl (Ext.refl _),?_⟩|refine⟨.inr (.inr rfl),?_⟩|refine⟨.inr (by kernel_rfl),?_⟩|refine⟨.inl (by kernel_rfl),?_⟩|refine id ?_);refine gH ?_
       refine gX ?_
       exact jx (v6.set x11 (eqN x23 x24)) hm (O.sel [1] (by decide))
      ·refine gX ?_
       refine ix 1 hm fun x26 hx26 hm=>?_;refine gH ?_
       refine O.stE 1 (.tail _ (.head _)) hx26 false fun h O=>?_;refine gH ?_
       (first|refine⟨.inr (.inr (ae rfl (O.at (.head _)) rfl rfl)),?_⟩|refine⟨.inr (.inr (ae rfl (O.at (.tail _ (.head _))) rfl rfl)),?_⟩|refine⟨.inr (.inr (ae rfl (O.at (.tail _ (.tail _ (.head _)))) rfl rfl)),?_⟩|refine⟨.inr (.inr (ae rfl (O.at (.tail _ (.tail _ (.tail _ (.head _))))) rfl rfl)),?_⟩|refine⟨.inr (.inr (ae rfl (O.at (.tail _ (.tail _ (.tail _ (.tail _ (.head _)))))) rfl rfl)),?_⟩|refine⟨.inr (.inr (ae rfl (O.at (.tail _ (.tail _ (.tail _ (.tail _ (.tail _ (.head _))))))) rfl rfl)),?_⟩|refine⟨.inr (.inr (ae rfl (O.at (.tail _ (.tail _ (.tail _ (.tail _ (.tail _ (.tail _ (.head _)))))))) rfl rfl)),?_⟩|refine⟨.inl (Ext.refl _),?_⟩|refine⟨.inr (.inr rfl),?_⟩|refine⟨.inr (by kernel_rfl),?_⟩|refine⟨.inl (by kernel_rfl),?_⟩|refine id ?_);refine gH ?_
       refine gX ?_
       exact jx (v6.set x11 false) hm (O.sel [1] (by decide))
     ·refine gX ?_
      refine ca (eL hm O.has) fun r27 hm=>?_;refine gH ?_
      refine jn hm 115 [1,2,3,7,11,28,29,30] (fun s=>s) (fun (v28,v29) h=>Own vars h0 [(sC g1 (flatC (v6.map Value.bool)))] h) (fun (v28,v29)=>[(13,(.bool v28)),(14,(.bool v29))]) (fun hm=>?_) ?_
      ·refine gX ?_
       refine lw 115 [1,2,3,7,11,15,16,28,29,30,67,68] (σ:=(Bool×Bool×Nat)) (fun s=>s) (fun (v31,v32,v33) h=>Own vars h0 [(sC g1 (flatC (v6.map Value.bool)))] h) (fun (v31,v32,v33)=>[(13,(.bool v31)),(14,(.bool v32)),(69,(i64 v33))]) (true,false,0) hm (O.sel [1] (by decide)) ?_
       clear hm;rintro⟨v31,v32,v33⟩ nx34 base h hm O
       refine gX ?_
       refine br hm (fun hm=>?_) fun hm=>?_
       ·apply Cs;conv=>whnf
        refine jn hm 115 [1,2,3,7,11,15,16,28,29,30,67,68,69] (fun s=>s) (fun (v35,v36) h=>Own vars h0 [(sC g1 (flatC (v6.map Value.bool)))] h) (fun (v35,v36)=>[(13,(.bool v35)),(14,(.bool v36))]) (fun hm=>?_) ?_
        ·refine gX ?_
         refine atF hm fun x38 hx38 hm=>?_;refine gH ?_
         refine jn hm 115 [1,2,3,7,11,14,15,16,18,28,29,30,67,68,69] (fun s=>s) (fun v39 h=>Own vars h0 [(sC g1 (flatC (v6.map Value.bool)))] h) (fun v39=>[(13,(.bool v39))]) (fun hm=>?_) ?_
         ·refine gX ?_
          refine br hm (fun hm=>?_) fun hm=>?_
          ·refine gX ?_
           refine ix 1 hm fun x41 hx41 hm=>?_;refine gH ?_
           refine ldE (s:=1) (i:=0) (O.at (.head _)) hx41 ?_;refine gH ?_
           exact jx x41 hm O
          ·refine gX ?_
           exact jx false hm O
         ·clear hm;rintro v39 base h hm O
          refine gX ?_
          refine br hm (fun hm=>?_) fun hm=>?_
          ·refine gX ?_
           exact jx (v39,true) hm O
          ·refine gX ?_
           refine br hm (fun hm=>?_) fun hm=>?_
           ·refine gX ?_
            refine ix 1 hm fun x42 hx42 hm=>?_;refine gH ?_
            refine ldE (s:=1) (i:=0) (O.at (.head _)) hx42 ?_;refine gH ?_
            refine br hm (fun hm=>?_) fun hm=>?_
            ·refine gX ?_
             refine atF hm fun x43 hx43 hm=>?_;refine gH ?_
             exact jx (v39,(eqN x43 r27.1)) hm O
            ·refine gX ?_
             exact jx (v39,false) hm O
           ·refine gX ?_
            refine bf ?_;refine gH ?_
            exact jx (v39,false) hm O
        ·clear hm;rintro⟨v35,v36⟩ base h hm O
         refine gX ?_
         refine aR hm fun hm=>?_;refine gH ?_
         exact jx (v35,v36,(v33+1)) hm O
       ·refine gX ?_
        exact jx (v31,v32) hm O
      ·clear hm;rintro⟨v28,v29⟩ base h hm O
       refine gX ?_
       refine br hm (fun hm=>?_) fun hm=>?_
       ·refine gX ?_
        refine bt ?_;refine gH ?_
        refine atF hm fun x44 hx44 hm=>?_;refine gH ?_
        refine ca (bh hm O.has) fun r45 hm=>?_;refine gH ?_
        refine ix 1 hm fun x46 hx46 hm=>?_;refine gH ?_
        refine O.stE 1 (.head _) hx46 r45 fun h O=>?_;refine gH ?_
        exact jx (v6.set x11 r45) hm O
       ·refine gX ?_
        refine br hm (fun hm=>?_) fun hm=>?_
        ·refine gX ?_
         refine atF hm fun x47 hx47 hm=>?_;refine gH ?_
         refine ca (bh hm O.has) fun r48 hm=>?_;refine gH ?_
         refine ix 1 hm fun x49 hx49 hm=>?_;refine gH ?_
         refine O.stE 1 (.head _) hx49 r48 fun h O=>?_;refine gH ?_
         exact jx (v6.set x11 r48) hm O
        ·refine gX ?_
         refine ix 1 hm fun x50 hx50 hm=>?_;refine gH ?_
         refine O.stE 1 (.head _) hx50 false fun h O=>?_;refine gH ?_
         exact jx (v6.set x11 false) hm O
   ·clear hm;rintro v9 base h hm O
    refine gX ?_
    refine aR hm fun hm=>?_;refine gH ?_
    exact jx (v9,(v7+1)) hm O
  ·refine gX ?_
   exact jx v6 hm O
 ·clear hm;rintro v4 base h hm O
  refine gX ?_
  obtain⟨hn51,hm⟩:=hm
  exact⟨v4,hm,O.ext,fun h2 F=>O.iu F (Nat.le_refl _) (.head _) (fun _=>rfl) hn51⟩
def eE (p0:Circ) (p1:LnZ) (p2:(List Nat)) (p3:(List Bool)) (K:Nat->Prop):Prop :=
 iT p0 p1 (fun r1=>ar (α:=Unit) (fun k6=>aB (S:=Nat) (fun v7 nx8=>((ltN v7 r1.length)=true->∃ x9,r1[v7]?=some x9/\∃ x10,p3[x9]?=some x10/\((!x10)=true->∃ x11,p0.nodes[p1.node]?=some x11/\∃ x12,p0.nodes[p1.node]?=some x12/\∃ j14:Nat,p1.pin=Int.ofNat j14/\∃ x13,x12.ins[j14]?=some x13/\∃ x15,p2[x13]?=some x15/\ar (α:=(Bool×Bool)) (fun k18=>ar (α:=Bool) (fun k20=>ar (α:=Bool) (fun k22=>((eqN x11.kind 3)=true->k22 (eqN x11.kind 3))/\((eqN x11.kind 3)=false->k22 (eqN x11.kind 4))) (fun v21=>(v21=true->k18 (true,true))/\(v21=false->ar (α:=Bool) (fun k24=>((eqN x11.kind 5)=true->k24 (eqN x11.kind 5))/\((eqN x11.kind 5)=false->((eqN x11.kind 6)=true->k24 (eqN x11.kind 6))/\((eqN x11.kind 6)=false->((eqN x11.kind 7)=true->k24 (eqN x11.kind 7))/\((eqN x11.kind 7)=false->k24 (eqN x11.kind 8))))) (fun v23=>(v23=true->bO x11.kind (fun r25=>ar (α:=Unit) (fun k30=>aB (S:=Nat) (fun v31 nx32=>((ltN v31 r1.length)=true->∃ x33,r1[v31]?=some x33/\∃ x34,p2[x33]?=some x34/\bz r25.1 (fun r35=>((!(eqN x34 r35))=true->((!(!ltN v7 0))=true->k18 (true,(!(!ltN v31 0))))/\((!(!ltN v7 0))=false->k18 ((neN x15 r25.1),(!(!ltN v31 0)))))/\((!(eqN x34 r35))=false->v31+1<2 ^ 63/\nx32 (v31+1))))/\((ltN v31 r1.length)=false->k30 ())) 0) (fun _=>((!(!ltN v7 0))=true->k18 (true,(!(!ltI (Int.negSucc 0) (Int.ofNat 0)))))/\((!(!ltN v7 0))=false->k18 ((neN x15 r25.1),(!(!ltI (Int.negSucc 0) (Int.ofNat 0))))))))/\(v23=false->((eqN x11.kind 11)=true->((ltI (Int.ofNat 0) p1.pin)=true->∃ x36,r1[0]?=some x36/\∃ x37,p2[x36]?=some x37/\∃ j38:Nat,(p1.pin-(Int.ofNat 1))=Int.ofNat j38/\j38<2 ^ 63/\∃ x39,r1[0]?=some x39/\∃ x40,p3[x39]?=some x40/\k18 (x40,(eqN x37 (j38%256))))/\((ltI (Int.ofNat 0) p1.pin)=false->∃ x41,r1[0]?=some x41/\∃ x42,p2[x41]?=some x42/\∃ x43,r1[1]?=some x43/\∃ x44,p2[x43]?=some x44/\k20 (neN x42 x44)))/\((eqN x11.kind 11)=false->ar (α:=Bool) (fun k46=>((eqN x11.kind 9)=true->k46 (eqN x11.kind 9))/\((eqN x11.kind 9)=false->k46 (eqN x11.kind 10))) (fun v45=>(v45=true->k20 true)/\(v45=false->k18 ((!(!ltN v7 0)),false))))))))) (fun v19=>(v19=true->ar (α:=Unit) (fun k49=>aB (S:=Nat) (fun v50 nx51=>((ltN v50 r1.length)=true->∃ x52,r1[v50]?=some x52/\∃ x53,p2[x52]?=some x53/\aP x53 (fun r54=>((!r54)=true->k18 ((!(!ltN v7 0)),(!(!ltN v50 0))))/\((!r54)=false->v50+1<2 ^ 63/\nx51 (v50+1))))/\((ltN v50 r1.length)=false->k49 ())) 0) (fun _=>k18 ((!(!ltN v7 0)),(!(!ltI (Int.negSucc 0) (Int.ofNat 0))))))/\(v19=false->k18 ((!(!ltN v7 0)),false)))) (fun (v16,v17)=>((!v17)=true->K 0)/\((!v17)=false->(v16=true->K 2)/\(v16=false->K 1))))/\((!x10)=false->v7+1<2 ^ 63/\nx8 (v7+1)))/\((ltN v7 r1.length)=false->k6 ())) 0) (fun _=>∃ x55,p0.nodes[p1.node]?=some x55/\∃ x56,p0.nodes[p1.node]?=some x56/\∃ j58:Nat,p1.pin=Int.ofNat j58/\∃ x57,x56.ins[j58]?=some x57/\∃ x59,p2[x57]?=some x59/\ar (α:=(Bool×Bool)) (fun k62=>ar (α:=Bool) (fun k64=>ar (α:=Bool) (fun k66=>((eqN x55.kind 3)=true->k66 (eqN x55.kind 3))/\((eqN x55.kind 3)=false->k66 (eqN x55.kind 4))) (fun v65=>(v65=true->k62 (true,true))/\(v65=false->ar (α:=Bool) (fun k68=>((eqN x55.kind 5)=true->k68 (eqN x55.kind 5))/\((eqN x55.kind 5)=false->((eqN x55.kind 6)=true->k68 (eqN x55.kind 6))/\((eqN x55.kind 6)=false->((eqN x55.kind 7)=true->k68 (eqN x55.kind 7))/\((eqN x55.kind 7)=false->k68 (eqN x55.kind 8))))) (fun v67=>(v67=true->bO x55.kind (fun r69=>ar (α:=Unit) (fun k74=>aB (S:=Nat) (fun v75 nx76=>((ltN v75 r1.length)=true->∃ x77,r1[v75]?=some x77/\∃ x78,p2[x77]?=some x78/\bz r69.1 (fun r79=>((!(eqN x78 r79))=true->((!(!ltI (Int.negSucc 0) (Int.ofNat 0)))=true->k62 (true,(!(!ltN v75 0))))/\((!(!ltI (Int.negSucc 0) (Int.ofNat 0)))=false->k62 ((neN x59 r69.1),(!(!ltN v75 0)))))/\((!(eqN x78 r79))=false->v75+1<2 ^ 63/\nx76 (v75+1))))/\((ltN v75 r1.length)=false->k74 ())) 0) (fun _=>((!(!ltI (Int.negSucc 0) (Int.ofNat 0)))=true->k62 (true,(!(!ltI (Int.negSucc 0) (Int.ofNat 0)))))/\((!(!ltI (Int.negSucc 0) (Int.ofNat 0)))=false->k62 ((neN x59 r69.1),(!(!ltI (Int.negSucc 0) (Int.ofNat 0))))))))/\(v67=false->((eqN x55.kind 11)=true->((ltI (Int.ofNat 0) p1.pin)=true->∃ x80,r1[0]?=some x80/\∃ x81,p2[x80]?=some x81/\∃ j82:Nat,(p1.pin-(Int.ofNat 1))=Int.ofNat j82/\j82<2 ^ 63/\∃ x83,r1[0]?=some x83/\∃ x84,p3[x83]?=some x84/\k62 (x84,(eqN x81 (j82%256))))/\((ltI (Int.ofNat 0) p1.pin)=false->∃ x85,r1[0]?=some x85/\∃ x86,p2[x85]?=some x86/\∃ x87,r1[1]?=some x87/\∃ x88,p2[x87]?=some x88/\k64 (neN x86 x88)))/\((eqN x55.kind 11)=false->ar (α:=Bool) (fun k90=>((eqN x55.kind 9)=true->k90 (eqN x55.kind 9))/\((eqN x55.kind 9)=false->k90 (eqN x55.kind 10))) (fun v89=>(v89=true->k64 true)/\(v89=false->k62 ((!(!ltI (Int.negSucc 0) (Int.ofNat 0))),false))))))))) (fun v63=>(v63=true->ar (α:=Unit) (fun k93=>aB (S:=Nat) (fun v94 nx95=>((ltN v94 r1.length)=true->∃ x96,r1[v94]?=some x96/\∃ x97,p2[x96]?=some x97/\aP x97 (fun r98=>((!r98)=true->k62 ((!(!ltI (Int.negSucc 0) (Int.ofNat 0))),(!(!ltN v94 0))))/\((!r98)=false->v94+1<2 ^ 63/\nx95 (v94+1))))/\((ltN v94 r1.length)=false->k93 ())) 0) (fun _=>k62 ((!(!ltI (Int.negSucc 0) (Int.ofNat 0))),(!(!ltI (Int.negSucc 0) (Int.ofNat 0))))))/\(v63=false->k62 ((!(!ltI (Int.negSucc 0) (Int.ofNat 0))),false)))) (fun (v60,v61)=>((!v61)=true->K 0)/\((!v61)=false->(v60=true->K 2)/\(v60=false->K 1)))))
theorem pB {p0:Circ}{p1:LnZ}{p2:(List Nat)}{p3:(List Bool)}{K:Nat->Prop} (hm:eE p0 p1 p2 p3 K) {h0:Heap} (hB:HasB vars h0):∃ r,K r/\CallD Tryz.prog NG 37 ⟨[ax p0,au p1,(ah 1 n8) p2,(ah 1 Value.bool) p3]⟩ h0 (i64 r) h0:=by
 unfold eE at hm
 refine fw Tryz.func37 hB (enc:=i64) (fun r=>PureV.flat rfl) fun O=>?_;conv=>whnf
 refine gX ?_
 refine fz ?_;refine gH ?_
 refine fz ?_;refine gH ?_
 refine fz ?_;refine gH ?_
 refine fz ?_;refine gX ?_
 refine ca (pJ hm O.has) fun r1 hm=>?_;refine gH ?_
 (first|refine O.new (ai (l:=[nS]) rfl rfl rfl) fun g2 h O=>?_|refine O.bF (ai (l:=[nS]) rfl rfl rfl) fun g2 h O=>?_);refine gH ?_
 refine O.stC 1 (.head _) [((ah 1 i64) r1)] fun h O=>?_;refine gX ?_
 refine fg Tryz.func70 ?_;refine gX ?_
 (first|refine O.new (jo rfl) fun g4 h O=>?_|refine O.bF (jo rfl) fun g4 h O=>?_);refine gH ?_
 refine gX ?_
 refine fg Tryz.func71 ?_;refine gX ?_
 refine fg Tryz.func104 ?_;conv=>whnf
 apply Cs;conv=>whnf
 apply Cs;refine gH ?_
 refine jn hm 19 [] (fun s=>s) (fun _ h=>Own vars h0 [(sC g2 [((ah 1 i64) r1)]),(sC g4 [(clo 73 [(FP ((ah 1 Value.bool) p3))])])] h) (fun _=>[]) (fun hm=>?_) ?_
 ·refine gX ?_
  refine lw 19 [0,1,7] (σ:=Nat) (fun s=>s) (fun v7 h=>Own vars h0 [(sC g4 [(clo 73 [(FP ((ah 1 Value.bool) p3))])]),(sC g2 [((ah 1 i64) r1)])] h) (fun v7=>[(8,(i64 v7))]) 0 hm O ?_
  clear hm;rintro v7 nx8 base h hm O
  refine gX ?_
  refine br hm (fun hm=>?_) fun hm=>?_
  ·refine gX ?_
   refine atF hm fun x9 hx9 hm=>?_;refine gH ?_
   refine fg Tryz.func72 ?_;refine gX ?_
   refine fg Tryz.func73 ?_;refine gX ?_
   refine atF hm fun x10 hx10 hm=>?_;refine gX ?_
   refine br hm (fun hm=>?_) fun hm=>?_
   ·refine gX ?_
    refine atF hm fun x11 hx11 hm=>?_;refine gX ?_
    refine dF ?_
    refine gX ?_
    refine dF ?_
    refine gX ?_
    refine atF hm fun x12 hx12 hm=>?_;refine gH ?_
    refine dF ?_
    refine gX ?_
    obtain⟨j14,hz,x13,hx13,hm⟩:=hm
    refine tz (s:=1) (enc:=i64) (j:=j14) rfl rfl rfl (congrArg (Value.int .i64) hz) hx13 ?_;refine gH ?_
    refine atF hm fun x15 hx15 hm=>?_;refine gH ?_
    apply Cs;conv=>whnf
    apply Cs;refine gH ?_
    refine jn hm 117 [] (fun s=>s) (fun (v16,v17) h=>Own vars h0 [] h) (fun (v16,v17)=>[(11,(.bool v16)),(14,(.bool v17))]) (fun hm=>?_) ?_
    ·apply Cs;conv=>whnf
     apply Cs;refine gH ?_
     apply Cs;conv=>whnf
     apply Cs;conv=>whnf
     apply Cs;conv=>whnf
     refine jn hm 117 [6,10] (fun s=>s) (fun v19 h=>Own vars h0 [(sC g2 [((ah 1 i64) r1)])] h) (fun v19=>[(11,(.bool (!(!ltN v7 0)))),(14,(.bool v19))]) (fun hm=>?_) ?_
     ·apply Cs;conv=>whnf
      apply Cs;conv=>whnf
      apply Cs;conv=>whnf
      apply Cs;conv=>whnf
      apply Cs;conv=>whnf
      apply Cs;conv=>whnf
      apply Cs;conv=>whnf
      apply Cs;conv=>whnf
      apply Cs;conv=>whnf
      refine jn hm 117 [5,6,7,9,10,11,12,13,14,45] (fun s=>s) (fun v21 h=>Own vars h0 [(sC g2 [((ah 1 i64) r1)])] h) (fun v21=>[(46,(.bool v21))]) (fun hm=>?_) ?_
      ·refine gX ?_
       refine br hm (fun hm=>?_) fun hm=>?_
       ·refine gX ?_
        exact jx (eqN x11.kind 3) hm (O.sel [1] (by decide))
       ·refine gX ?_
        exact jx (eqN x11.kind 4) hm (O.sel [1] (by decide))
      ·clear hm;rintro v21 base h hm O
       refine gX ?_
       refine br hm (fun hm=>?_) fun hm=>?_
       ·refine gX ?_
        exact jx (true,true) hm (O.sel [] (by decide))
       ·apply Cs;conv=>whnf
        apply Cs;conv=>whnf
        refine jn hm 117 [5,6,7,9,10,11,12,13,14,45] (fun s=>s) (fun v23 h=>Own vars h0 [(sC g2 [((ah 1 i64) r1)])] h) (fun v23=>[(49,(.bool v23))]) (fun hm=>?_) ?_
        ·refine gX ?_
         refine br hm (fun hm=>?_) fun hm=>?_
         ·refine gX ?_
          exact jx (eqN x11.kind 5) hm O
         ·refine gX ?_
          refine br hm (fun hm=>?_) fun hm=>?_
          ·refine gX ?_
           exact jx (eqN x11.kind 6) hm O
          ·refine gX ?_
           refine br hm (fun hm=>?_) fun hm=>?_
           ·refine gX ?_
            exact jx (eqN x11.kind 7) hm O
           ·refine gX ?_
            exact jx (eqN x11.kind 8) hm O
        ·clear hm;rintro v23 base h hm O
         refine gX ?_
         refine br hm (fun hm=>?_) fun hm=>?_
         ·refine gX ?_
          refine ca (eL hm O.has) fun r25 hm=>?_;refine gH ?_
          (first|refine O.new (ai (l:=[(n8 0)]) rfl rfl rfl) fun g26 h O=>?_|refine O.bF (ai (l:=[(n8 0)]) rfl rfl rfl) fun g26 h O=>?_);refine gH ?_
          refine O.stC 1 (.head _) [(n8 r25.1)] fun h O=>?_;refine gX ?_
          refine fg Tryz.func70 ?_;refine gX ?_
          (first|refine O.new (jo rfl) fun g28 h O=>?_|refine O.bF (jo rfl) fun g28 h O=>?_);refine gH ?_
          refine gX ?_
          refine fg Tryz.func71 ?_;refine gX ?_
          refine fg Tryz.func104 ?_;conv=>whnf
          apply Cs;conv=>whnf
          apply Cs;refine gH ?_
          refine jn hm 19 [] (fun s=>s) (fun _ h=>Own vars h0 [(sC g2 [((ah 1 i64) r1)]),(sC g26 [(n8 r25.1)]),(sC g28 [(clo 74 [(FP ((ah 1 n8) p2)),(pG g26)])])] h) (fun _=>[]) (fun hm=>?_) ?_
          ·refine gX ?_
           refine lw 19 [0,1,7] (σ:=Nat) (fun s=>s) (fun v31 h=>Own vars h0 [(sC g28 [(clo 74 [(FP ((ah 1 n8) p2)),(pG g26)])]),(sC g26 [(n8 r25.1)]),(sC g2 [((ah 1 i64) r1)])] h) (fun v31=>[(8,(i64 v31))]) 0 hm O ?_
           clear hm;rintro v31 nx32 base h hm O
           refine gX ?_
           refine br hm (fun hm=>?_) fun hm=>?_
           ·refine gX ?_
            refine atF hm fun x33 hx33 hm=>?_;refine gH ?_
            refine fg Tryz.func72 ?_;refine gX ?_
            refine fg Tryz.func74 ?_;refine gX ?_
            refine dF ?_
            refine gX ?_
            refine atF hm fun x34 hx34 hm=>?_;refine gH ?_
            refine ca (bT hm O.has) fun r35 hm=>?_;refine gH ?_
            (first|refine⟨.inr (.inr (ae rfl (O.at (.head _)) rfl rfl)),?_⟩|refine⟨.inr (.inr (ae rfl (O.at (.tail _ (.head _))) rfl rfl)),?_⟩|refine⟨.inr (.inr (ae rfl (O.at (.tail _ (.tail _ (.head _)))) rfl rfl)),?_⟩|refine⟨.inr (.inr (ae rfl (O.at (.tail _ (.tail _ (.tail _ (.head _))))) rfl rfl)),?_⟩|refine⟨.inr (.inr (ae rfl (O.at (.tail _ (.tail _ (.tail _ (.tail _ (.head _)))))) rfl rfl)),?_⟩|refine⟨.inr (.inr (ae rfl (O.at (.tail _ (.tail _ (.tail _ (.tail _ (.tail _ (.head _))))))) rfl rfl)),?_⟩|refine⟨.inr (.inr (ae rfl (O.at (.tail _ (.tail _ (.tail _ (.tail _ (.tail _ (.tail _ (.head _)))))))) rfl rfl)),?_⟩|refine⟨.inl (Ext.refl _),?_⟩|refine⟨.inr (.inr rfl),?_⟩|refine⟨.inr (by kernel_rfl),?_⟩|refine⟨.inl (by kernel_rfl),?_⟩|refine id ?_);refine gH ?_
            refine gX ?_
            refine br hm (fun hm=>?_) fun hm=>?_
            ·refine gX ?_
             refine br hm (fun hm=>?_) fun hm=>?_
             ·refine gX ?_
              exact jx (true,(!(!ltN v31 0))) hm (O.sel [] (by decide))
             ·refine gX ?_
              exact jx ((neN x15 r25.1),(!(!ltN v31 0))) hm (O.sel [] (by decide))
            ·refine gX ?_
             refine aR hm fun hm=>?_;refine gH ?_
             exact jx (v31+1) hm O
           ·refine gX ?_
            exact jx () hm (O.sel [2,1,0] (by decide))
          ·clear hm;rintro _ base h hm O
           refine gX ?_
           refine br hm (fun hm=>?_) fun hm=>?_
           ·refine gX ?_
            exact jx (true,(!(!ltI (Int.negSucc 0) (Int.ofNat 0)))) hm (O.sel [] (by decide))
           ·refine gX ?_
            exact jx ((neN x15 r25.1),(!(!ltI (Int.negSucc 0) (Int.ofNat 0)))) hm (O.sel [] (by decide))
         ·refine gX ?_
          refine br hm (fun hm=>?_) fun hm=>?_
          ·refine gX ?_
           refine br hm (fun hm=>?_) fun hm=>?_
           ·refine gX ?_
            refine dF ?_
            refine gX ?_
            first|refine⟨.inr (.inr (ae rfl (O.at (.head _)) rfl rfl)),?_⟩|refine⟨.inr (.inl (by kernel_rfl)),?_⟩
            refine gX ?_
            refine atF hm fun x36 hx36 hm=>?_;refine gH ?_
            refine atF hm fun x37 hx37 hm=>?_;refine gH ?_
            obtain⟨j38,hz,hm⟩:=hm
            refine⟨_,C9 (a:=p1.pin) (b:=(Int.ofNat 1)) rfl rfl hz hm.1,?_⟩;refine gH ?_
            replace hm:=hm.2
            refine aCw ?_;refine gX ?_
            refine dF ?_
            refine gX ?_
            first|refine⟨.inr (.inr (ae rfl (O.at (.head _)) rfl rfl)),?_⟩|refine⟨.inr (.inl (by kernel_rfl)),?_⟩
            refine gX ?_
            refine atF hm fun x39 hx39 hm=>?_;refine gH ?_
            refine atF hm fun x40 hx40 hm=>?_;refine gX ?_
            exact jx (x40,(eqN x37 (j38%256))) hm (O.sel [] (by decide))
           ·refine gX ?_
            refine dF ?_
            refine gX ?_
            first|refine⟨.inr (.inr (ae rfl (O.at (.head _)) rfl rfl)),?_⟩|refine⟨.inr (.inl (by kernel_rfl)),?_⟩
            refine gX ?_
            refine atF hm fun x41 hx41 hm=>?_;refine gH ?_
            refine atF hm fun x42 hx42 hm=>?_;refine gH ?_
            refine dF ?_
            refine gX ?_
            first|refine⟨.inr (.inr (ae rfl (O.at (.head _)) rfl rfl)),?_⟩|refine⟨.inr (.inl (by kernel_rfl)),?_⟩
            refine gX ?_
            refine atF hm fun x43 hx43 hm=>?_;refine gH ?_
            refine atF hm fun x44 hx44 hm=>?_;refine gH ?_
            exact jx (neN x42 x44) hm O
          ·apply Cs;conv=>whnf
           refine jn hm 117 [6,10,11,14] (fun s=>s) (fun v45 h=>Own vars h0 [(sC g2 [((ah 1 i64) r1)])] h) (fun v45=>[(56,(.bool v45))]) (fun hm=>?_) ?_
           ·refine gX ?_
            refine br hm (fun hm=>?_) fun hm=>?_
            ·refine gX ?_
             exact jx (eqN x11.kind 9) hm O
            ·refine gX ?_
             exact jx (eqN x11.kind 10) hm O
           ·clear hm;rintro v45 base h hm O
            refine gX ?_
            refine br hm (fun hm=>?_) fun hm=>?_
            ·refine gX ?_
             exact jx true hm O
            ·refine gX ?_
             exact jx ((!(!ltN v7 0)),false) hm (O.sel [] (by decide))
     ·clear hm;rintro v19 base h hm O
      refine gX ?_
      refine br hm (fun hm=>?_) fun hm=>?_
      ·refine gX ?_
       refine fg Tryz.func70 ?_;refine gX ?_
       (first|refine O.new (jo rfl) fun g47 h O=>?_|refine O.bF (jo rfl) fun g47 h O=>?_);refine gH ?_
       refine gX ?_
       refine fg Tryz.func71 ?_;refine gX ?_
       refine fg Tryz.func104 ?_;conv=>whnf
       apply Cs;conv=>whnf
       apply Cs;refine gH ?_
       refine jn hm 19 [] (fun s=>s) (fun _ h=>Own vars h0 [(sC g2 [((ah 1 i64) r1)]),(sC g47 [(clo 75 [(FP ((ah 1 n8) p2))])])] h) (fun _=>[]) (fun hm=>?_) ?_
       ·refine gX ?_
        refine lw 19 [0,1,7] (σ:=Nat) (fun s=>s) (fun v50 h=>Own vars h0 [(sC g47 [(clo 75 [(FP ((ah 1 n8) p2))])]),(sC g2 [((ah 1 i64) r1)])] h) (fun v50=>[(8,(i64 v50))]) 0 hm O ?_
        clear hm;rintro v50 nx51 base h hm O
        refine gX ?_
        refine br hm (fun hm=>?_) fun hm=>?_
        ·refine gX ?_
         refine atF hm fun x52 hx52 hm=>?_;refine gH ?_
         refine fg Tryz.func72 ?_;refine gX ?_
         refine fg Tryz.func75 ?_;refine gX ?_
         refine atF hm fun x53 hx53 hm=>?_;refine gH ?_
         refine ca (bh hm O.has) fun r54 hm=>?_;refine gX ?_
         refine br hm (fun hm=>?_) fun hm=>?_
         ·refine gX ?_
          exact jx ((!(!ltN v7 0)),(!(!ltN v50 0))) hm (O.sel [] (by decide))
         ·refine gX ?_
          refine aR hm fun hm=>?_;refine gH ?_
          exact jx (v50+1) hm O
        ·refine gX ?_
         exact jx () hm (O.sel [1,0] (by decide))
       ·clear hm;rintro _ base h hm O
        refine gX ?_
        exact jx ((!(!ltN v7 0)),(!(!ltI (Int.negSucc 0) (Int.ofNat 0)))) hm (O.sel [] (by decide))
      ·refine gX ?_
       exact jx ((!(!ltN v7 0)),false) hm (O.sel [] (by decide))
    ·clear hm;rintro⟨v16,v17⟩ base h hm O
     refine gX ?_
     refine br hm (fun hm=>?_) fun hm=>?_
     ·refine gX ?_
      exact fe hm O
     ·refine gX ?_
      refine br hm (fun hm=>?_) fun hm=>?_
      ·refine gX ?_
       exact fe hm O
      ·refine gX ?_
       exact fe hm O
   ·refine gX ?_
    refine aR hm fun hm=>?_;refine gH ?_
    exact jx (v7+1) hm O
  ·refine gX ?_
   exact jx () hm (O.sel [1,0] (by decide))
 ·clear hm;rintro _ base h hm O
  refine gX ?_
  refine atF hm fun x55 hx55 hm=>?_;refine gX ?_
  refine dF ?_
  refine gX ?_
  refine dF ?_
  refine gX ?_
  refine atF hm fun x56 hx56 hm=>?_;refine gH ?_
  refine dF ?_
  refine gX ?_
  obtain⟨j58,hz,x57,hx57,hm⟩:=hm
  refine tz (s:=1) (enc:=i64) (j:=j58) rfl rfl rfl (congrArg (Value.int .i64) hz) hx57 ?_;refine gH ?_
  refine atF hm fun x59 hx59 hm=>?_;refine gH ?_
  apply Cs;conv=>whnf
  apply Cs;refine gH ?_
  refine jn hm 117 [] (fun s=>s) (fun (v60,v61) h=>Own vars h0 [] h) (fun (v60,v61)=>[(11,(.bool v60)),(14,(.bool v61))]) (fun hm=>?_) ?_
  ·apply Cs;conv=>whnf
   apply Cs;refine gH ?_
   apply Cs;conv=>whnf
   apply Cs;conv=>whnf
   apply Cs;conv=>whnf
   refine jn hm 117 [6,10] (fun s=>s) (fun v63 h=>Own vars h0 [(sC g2 [((ah 1 i64) r1)])] h) (fun v63=>[(11,(.bool (!(!ltI (Int.negSucc 0) (Int.ofNat 0))))),(14,(.bool v63))]) (fun hm=>?_) ?_
   ·apply Cs;conv=>whnf
    apply Cs;conv=>whnf
    apply Cs;conv=>whnf
    apply Cs;conv=>whnf
    apply Cs;conv=>whnf
    apply Cs;conv=>whnf
    apply Cs;conv=>whnf
    apply Cs;conv=>whnf
    apply Cs;conv=>whnf
    refine jn hm 117 [5,6,7,9,10,11,12,13,14,45] (fun s=>s) (fun v65 h=>Own vars h0 [(sC g2 [((ah 1 i64) r1)])] h) (fun v65=>[(46,(.bool v65))]) (fun hm=>?_) ?_
    ·refine gX ?_
     refine br hm (fun hm=>?_) fun hm=>?_
     ·refine gX ?_
      exact jx (eqN x55.kind 3) hm (O.sel [0] (by decide))
     ·refine gX ?_
      exact jx (eqN x55.kind 4) hm (O.sel [0] (by decide))
    ·clear hm;rintro v65 base h hm O
     refine gX ?_
     refine br hm (fun hm=>?_) fun hm=>?_
     ·refine gX ?_
      exact jx (true,true) hm (O.sel [] (by decide))
     ·apply Cs;conv=>whnf
      apply Cs;conv=>whnf
      refine jn hm 117 [5,6,7,9,10,11,12,13,14,45] (fun s=>s) (fun v67 h=>Own vars h0 [(sC g2 [((ah 1 i64) r1)])] h) (fun v67=>[(49,(.bool v67))]) (fun hm=>?_) ?_
      ·refine gX ?_
       refine br hm (fun hm=>?_) fun hm=>?_
       ·refine gX ?_
        exact jx (eqN x55.kind 5) hm O
       ·refine gX ?_
        refine br hm (fun hm=>?_) fun hm=>?_
        ·refine gX ?_
         exact jx (eqN x55.kind 6) hm O
        ·refine gX ?_
         refine br hm (fun hm=>?_) fun hm=>?_
         ·refine gX ?_
          exact jx (eqN x55.kind 7) hm O
         ·refine gX ?_
          exact jx (eqN x55.kind 8) hm O
      ·clear hm;rintro v67 base h hm O
       refine gX ?_
       refine br hm (fun hm=>?_) fun hm=>?_
       ·refine gX ?_
        refine ca (eL hm O.has) fun r69 hm=>?_;refine gH ?_
        (first|refine O.new (ai (l:=[(n8 0)]) rfl rfl rfl) fun g70 h O=>?_|refine O.bF (ai (l:=[(n8 0)]) rfl rfl rfl) fun g70 h O=>?_);refine gH ?_
        refine O.stC 1 (.head _) [(n8 r69.1)] fun h O=>?_;refine gX ?_
        refine fg Tryz.func70 ?_;refine gX ?_
        (first|refine O.new (jo rfl) fun g72 h O=>?_|refine O.bF (jo rfl) fun g72 h O=>?_);refine gH ?_
        refine gX ?_
        refine fg Tryz.func71 ?_;refine gX ?_
        refine fg Tryz.func104 ?_;conv=>whnf
        apply Cs;conv=>whnf
        apply Cs;refine gH ?_
        refine jn hm 19 [] (fun s=>s) (fun _ h=>Own vars h0 [(sC g2 [((ah 1 i64) r1)]),(sC g70 [(n8 r69.1)]),(sC g72 [(clo 74 [(FP ((ah 1 n8) p2)),(pG g70)])])] h) (fun _=>[]) (fun hm=>?_) ?_
        ·refine gX ?_
         refine lw 19 [0,1,7] (σ:=Nat) (fun s=>s) (fun v75 h=>Own vars h0 [(sC g72 [(clo 74 [(FP ((ah 1 n8) p2)),(pG g70)])]),(sC g70 [(n8 r69.1)]),(sC g2 [((ah 1 i64) r1)])] h) (fun v75=>[(8,(i64 v75))]) 0 hm O ?_
         clear hm;rintro v75 nx76 base h hm O
         refine gX ?_
         refine br hm (fun hm=>?_) fun hm=>?_
         ·refine gX ?_
          refine atF hm fun x77 hx77 hm=>?_;refine gH ?_
          refine fg Tryz.func72 ?_;refine gX ?_
          refine fg Tryz.func74 ?_;refine gX ?_
          refine dF ?_
          refine gX ?_
          refine atF hm fun x78 hx78 hm=>?_;refine gH ?_
          refine ca (bT hm O.has) fun r79 hm=>?_;refine gH ?_
          (first|refine⟨.inr (.inr (ae rfl (O.at (.head _)) rfl rfl)),?_⟩|refine⟨.inr (.inr (ae rfl (O.at (.tail _ (.head _))) rfl rfl)),?_⟩|refine⟨.inr (.inr (ae rfl (O.at (.tail _ (.tail _ (.head _)))) rfl rfl)),?_⟩|refine⟨.inr (.inr (ae rfl (O.at (.tail _ (.tail _ (.tail _ (.head _))))) rfl rfl)),?_⟩|refine⟨.inr (.inr (ae rfl (O.at (.tail _ (.tail _ (.tail _ (.tail _ (.head _)))))) rfl rfl)),?_⟩|refine⟨.inr (.inr (ae rfl (O.at (.tail _ (.tail _ (.tail _ (.tail _ (.tail _ (.head _))))))) rfl rfl)),?_⟩|refine⟨.inr (.inr (ae rfl (O.at (.tail _ (.tail _ (.tail _ (.tail _ (.tail _ (.tail _ (.head _)))))))) rfl rfl)),?_⟩|refine⟨.inl (Ext.refl _),?_⟩|refine⟨.inr (.inr rfl),?_⟩|refine⟨.inr (by kernel_rfl),?_⟩|refine⟨.inl (by kernel_rfl),?_⟩|refine id ?_);refine gH ?_
          refine gX ?_
          refine br hm (fun hm=>?_) fun hm=>?_
          ·refine gX ?_
           refine br hm (fun hm=>?_) fun hm=>?_
           ·refine gX ?_
            exact jx (true,(!(!ltN v75 0))) hm (O.sel [] (by decide))
           ·refine gX ?_
            exact jx ((neN x59 r69.1),(!(!ltN v75 0))) hm (O.sel [] (by decide))
          ·refine gX ?_
           refine aR hm fun hm=>?_;refine gH ?_
           exact jx (v75+1) hm O
         ·refine gX ?_
          exact jx () hm (O.sel [2,1,0] (by decide))
        ·clear hm;rintro _ base h hm O
         refine gX ?_
         refine br hm (fun hm=>?_) fun hm=>?_
         ·refine gX ?_
          exact jx (true,(!(!ltI (Int.negSucc 0) (Int.ofNat 0)))) hm (O.sel [] (by decide))
         ·refine gX ?_
          exact jx ((neN x59 r69.1),(!(!ltI (Int.negSucc 0) (Int.ofNat 0)))) hm (O.sel [] (by decide))
       ·refine gX ?_
        refine br hm (fun hm=>?_) fun hm=>?_
        ·refine gX ?_
         refine br hm (fun hm=>?_) fun hm=>?_
         ·refine gX ?_
          refine dF ?_
          refine gX ?_
          first|refine⟨.inr (.inr (ae rfl (O.at (.head _)) rfl rfl)),?_⟩|refine⟨.inr (.inl (by kernel_rfl)),?_⟩
          refine gX ?_
          refine atF hm fun x80 hx80 hm=>?_;refine gH ?_
          refine atF hm fun x81 hx81 hm=>?_;refine gH ?_
          obtain⟨j82,hz,hm⟩:=hm
          refine⟨_,C9 (a:=p1.pin) (b:=(Int.ofNat 1)) rfl rfl hz hm.1,?_⟩;refine gH ?_
          replace hm:=hm.2
          refine aCw ?_;refine gX ?_
          refine dF ?_
          refine gX ?_
          first|refine⟨.inr (.inr (ae rfl (O.at (.head _)) rfl rfl)),?_⟩|refine⟨.inr (.inl (by kernel_rfl)),?_⟩
          refine gX ?_
          refine atF hm fun x83 hx83 hm=>?_;refine gH ?_
          refine atF hm fun x84 hx84 hm=>?_;refine gX ?_
          exact jx (x84,(eqN x81 (j82%256))) hm (O.sel [] (by decide))
         ·refine gX ?_
          refine dF ?_
          refine gX ?_
          first|refine⟨.inr (.inr (ae rfl (O.at (.head _)) rfl rfl)),?_⟩|refine⟨.inr (.inl (by kernel_rfl)),?_⟩
          refine gX ?_
          refine atF hm fun x85 hx85 hm=>?_;refine gH ?_
          refine atF hm fun x86 hx86 hm=>?_;refine gH ?_
          refine dF ?_
          refine gX ?_
          first|refine⟨.inr (.inr (ae rfl (O.at (.head _)) rfl rfl)),?_⟩|refine⟨.inr (.inl (by kernel_rfl)),?_⟩
          refine gX ?_
          refine atF hm fun x87 hx87 hm=>?_;refine gH ?_
          refine atF hm fun x88 hx88 hm=>?_;refine gH ?_
          exact jx (neN x86 x88) hm O
        ·apply Cs;conv=>whnf
         refine jn hm 117 [6,10,11,14] (fun s=>s) (fun v89 h=>Own vars h0 [(sC g2 [((ah 1 i64) r1)])] h) (fun v89=>[(56,(.bool v89))]) (fun hm=>?_) ?_
         ·refine gX ?_
          refine br hm (fun hm=>?_) fun hm=>?_
          ·refine gX ?_
           exact jx (eqN x55.kind 9) hm O
          ·refine gX ?_
           exact jx (eqN x55.kind 10) hm O
         ·clear hm;rintro v89 base h hm O
          refine gX ?_
          refine br hm (fun hm=>?_) fun hm=>?_
          ·refine gX ?_
           exact jx true hm O
          ·refine gX ?_
           exact jx ((!(!ltI (Int.negSucc 0) (Int.ofNat 0))),false) hm (O.sel [] (by decide))
   ·clear hm;rintro v63 base h hm O
    refine gX ?_
    refine br hm (fun hm=>?_) fun hm=>?_
    ·refine gX ?_
     refine fg Tryz.func70 ?_;refine gX ?_
     (first|refine O.new (jo rfl) fun g91 h O=>?_|refine O.bF (jo rfl) fun g91 h O=>?_);refine gH ?_
     refine gX ?_
     refine fg Tryz.func71 ?_;refine gX ?_
     refine fg Tryz.func104 ?_;conv=>whnf
     apply Cs;conv=>whnf
     apply Cs;refine gH ?_
     refine jn hm 19 [] (fun s=>s) (fun _ h=>Own vars h0 [(sC g2 [((ah 1 i64) r1)]),(sC g91 [(clo 75 [(FP ((ah 1 n8) p2))])])] h) (fun _=>[]) (fun hm=>?_) ?_
     ·refine gX ?_
      refine lw 19 [0,1,7] (σ:=Nat) (fun s=>s) (fun v94 h=>Own vars h0 [(sC g91 [(clo 75 [(FP ((ah 1 n8) p2))])]),(sC g2 [((ah 1 i64) r1)])] h) (fun v94=>[(8,(i64 v94))]) 0 hm O ?_
      clear hm;rintro v94 nx95 base h hm O
      refine gX ?_
      refine br hm (fun hm=>?_) fun hm=>?_
      ·refine gX ?_
       refine atF hm fun x96 hx96 hm=>?_;refine gH ?_
       refine fg Tryz.func72 ?_;refine gX ?_
       refine fg Tryz.func75 ?_;refine gX ?_
       refine atF hm fun x97 hx97 hm=>?_;refine gH ?_
       refine ca (bh hm O.has) fun r98 hm=>?_;refine gX ?_
       refine br hm (fun hm=>?_) fun hm=>?_
       ·refine gX ?_
        exact jx ((!(!ltI (Int.negSucc 0) (Int.ofNat 0))),(!(!ltN v94 0))) hm (O.sel [] (by decide))
       ·refine gX ?_
        refine aR hm fun hm=>?_;refine gH ?_
        exact jx (v94+1) hm O
      ·refine gX ?_
       exact jx () hm (O.sel [1,0] (by decide))
     ·clear hm;rintro _ base h hm O
      refine gX ?_
      exact jx ((!(!ltI (Int.negSucc 0) (Int.ofNat 0))),(!(!ltI (Int.negSucc 0) (Int.ofNat 0)))) hm (O.sel [] (by decide))
    ·refine gX ?_
     exact jx ((!(!ltI (Int.negSucc 0) (Int.ofNat 0))),false) hm (O.sel [] (by decide))
  ·clear hm;rintro⟨v60,v61⟩ base h hm O
   refine gX ?_
   refine br hm (fun hm=>?_) fun hm=>?_
   ·refine gX ?_
    exact fe hm O
   ·refine gX ?_
    refine br hm (fun hm=>?_) fun hm=>?_
    ·refine gX ?_
     exact fe hm O
    ·refine gX ?_
     exact fe hm O
def dP (p0:Circ) (p1:(List LnZ)) (p2:PairT) (K:(Nat×Nat)->Prop):Prop :=
 dO p0 p1 (fun r1=>((neN r1 0)=true->K (0,r1))/\((neN r1 0)=false->ep p0 p2 (fun r2=>((neN r2.2.2 0)=true->K (0,r2.2.2))/\((neN r2.2.2 0)=false->∃ x3,p1[0]?=some x3/\ar (α:=Bool) (fun k5=>∃ x6,r2.1[x3.node]?=some x6/\aP x6 (fun r7=>((!r7)=true->k5 true)/\((!r7)=false->∃ x8,r2.2.1[x3.node]?=some x8/\∃ x9,r2.1[x3.node]?=some x9/\bz x9 (fun r10=>k5 (neN x8 r10))))) (fun v4=>(v4=true->K (0,0))/\(v4=false->dg p0 r2.1 r2.2.1 (fun r11=>ar (α:=Nat) (fun k13=>1<=p1.length/\aB (S:=(Nat×Nat)) (fun (v14,v15) nx16=>((ltN v15 ((p1.drop 1).length))=true->∃ x17,(p1.drop 1)[v15]?=some x17/\eE p0 x17 r2.2.1 r11 (fun r20=>v15+1<2 ^ 63/\nx16 ((min v14 r20),(v15+1))))/\((ltN v15 ((p1.drop 1).length))=false->k13 v14)) (2,0)) (fun v12=>K (v12,0)))))))))
theorem oz {p0:Circ}{p1:(List LnZ)}{p2:PairT}{K:(Nat×Nat)->Prop} (hm:dP p0 p1 p2 K) {h0:Heap} (hB:HasB vars h0):∃ r,K r/\CallD Tryz.prog NG 10 ⟨[ax p0,(ah 2 au) p1,tH p2]⟩ h0 ((fun (r:(Nat×Nat))=>Value.tuple ⟨[i64 (r.1),i64 (r.2)]⟩) r) h0:=by
 unfold dP at hm
 refine fw Tryz.func10 hB (enc:=(fun (r:(Nat×Nat))=>Value.tuple ⟨[i64 (r.1),i64 (r.2)]⟩)) (fun r=>PureV.tup (ag.cons (PureV.flat rfl) (ag.cons (PureV.flat rfl) (ag.nil)))) fun O=>?_;conv=>whnf
 refine gX ?_
 refine fz ?_;refine gH ?_
 refine fz ?_;refine gX ?_
 refine ca (oq hm O.has) fun r1 hm=>?_;refine gX ?_
 refine br hm (fun hm=>?_) fun hm=>?_
 ·refine gX ?_
  exact⟨(0,r1),hm,O.ext,fun h2 F=>VLe.tup (LLe.cons (VLe.refl _ _) (LLe.cons (VLe.refl _ _) (LLe.nil _)))⟩
 ·refine gX ?_
  refine ca (pz hm O.has) fun r2 hm=>?_;refine gX ?_
  refine br hm (fun hm=>?_) fun hm=>?_
  ·refine gX ?_
   exact⟨(0,r2.2.2),hm,O.ext,fun h2 F=>VLe.tup (LLe.cons (VLe.refl _ _) (LLe.cons (VLe.refl _ _) (LLe.nil _)))⟩
  ·refine gX ?_
   refine atF hm fun x3 hx3 hm=>?_;refine gH ?_
   apply Cs;conv=>whnf
   refine jn hm 75 [1,3,9,10] (fun s=>s) (fun v4 h=>Own vars h0 [] h) (fun v4=>[(54,(.bool v4))]) (fun hm=>?_) ?_
   ·refine gX ?_
    refine atF hm fun x6 hx6 hm=>?_;refine gH ?_
    refine ca (bh hm O.has) fun r7 hm=>?_;refine gH ?_
    (first|refine⟨.inr (.inr (ae rfl (O.at (.head _)) rfl rfl)),?_⟩|refine⟨.inr (.inr (ae rfl (O.at (.tail _ (.head _))) rfl rfl)),?_⟩|refine⟨.inr (.inr (ae rfl (O.at (.tail _ (.tail _ (.head _)))) rfl rfl)),?_⟩|refine⟨.inr (.inr (ae rfl (O.at (.tail _ (.tail _ (.tail _ (.head _))))) rfl rfl)),?_⟩|refine⟨.inr (.inr (ae rfl (O.at (.tail _ (.tail _ (.tail _ (.tail _ (.head _)))))) rfl rfl)),?_⟩|refine⟨.inr (.inr (ae rfl (O.at (.tail _ (.tail _ (.tail _ (.tail _ (.tail _ (.head _))))))) rfl rfl)),?_⟩|refine⟨.inr (.inr (ae rfl (O.at (.tail _ (.tail _ (.tail _ (.tail _ (.tail _ (.tail _ (.head _)))))))) rfl rfl)),?_⟩|refine⟨.inl (Ext.refl _),?_⟩|refine⟨.inr (.inr rfl),?_⟩|refine⟨.inr (by kernel_rfl),?_⟩|refine⟨.inl (by kernel_rfl),?_⟩|refine id ?_);refine gH ?_
    refine br hm (fun hm=>?_) fun hm=>?_
    ·refine gX ?_
     exact jx true hm O
    ·refine gX ?_
     refine atF hm fun x8 hx8 hm=>?_;refine gH ?_
     refine atF hm fun x9 hx9 hm=>?_;refine gH ?_
     refine ca (bT hm O.has) fun r10 hm=>?_;refine gH ?_
     (first|refine⟨.inr (.inr (ae rfl (O.at (.head _)) rfl rfl)),?_⟩|refine⟨.inr (.inr (ae rfl (O.at (.tail _ (.head _))) rfl rfl)),?_⟩|refine⟨.inr (.inr (ae rfl (O.at (.tail _ (.tail _ (.head _)))) rfl rfl)),?_⟩|refine⟨.inr (.inr (ae rfl (O.at (.tail _ (.tail _ (.tail _ (.head _))))) rfl rfl)),?_⟩|refine⟨.inr (.inr (ae rfl (O.at (.tail _ (.tail _ (.tail _ (.tail _ (.head _)))))) rfl rfl)),?_⟩|refine⟨.inr (.inr (ae rfl (O.at (.tail _ (.tail _ (.tail _ (.tail _ (.tail _ (.head _))))))) rfl rfl)),?_⟩|refine⟨.inr (.inr (ae rfl (O.at (.tail _ (.tail _ (.tail _ (.tail _ (.tail _ (.tail _ (.head _)))))))) rfl rfl)),?_⟩|refine⟨.inl (Ext.refl _),?_⟩|refine⟨.inr (.inr rfl),?_⟩|refine⟨.inr (by kernel_rfl),?_⟩|refine⟨.inl (by kernel_rfl),?_⟩|refine id ?_);refine gH ?_
     exact jx (neN x8 r10) hm O
   ·clear hm;rintro v4 base h hm O
    refine gX ?_
    refine br hm (fun hm=>?_) fun hm=>?_
    ·refine gX ?_
     exact⟨(0,0),hm,O.ext,fun h2 F=>VLe.tup (LLe.cons (VLe.refl _ _) (LLe.cons (VLe.refl _ _) (LLe.nil _)))⟩
    ·refine gX ?_
     refine ca (nf hm O.has) fun r11 hm=>?_;refine gH ?_
     apply Cs;conv=>whnf
     apply Cs;refine gH ?_
     refine jn hm 75 [] (fun s=>s) (fun v12 h=>Own vars h0 [] h) (fun v12=>[(14,(i64 v12))]) (fun hm=>?_) ?_
     ·refine gX ?_
      refine DP (s:=2) (enc:=au) (l:=p1) (k:=1) rfl rfl rfl rfl hm.1 ?_;refine gX ?_
      replace hm:=hm.2
      refine lw 75 [3,10,13,60,61] (σ:=(Nat×Nat)) (fun s=>s) (fun (v14,v15) h=>Own vars h0 [] h) (fun (v14,v15)=>[(14,(i64 v14)),(62,(i64 v15))]) (2,0) hm O ?_
      clear hm;rintro⟨v14,v15⟩ nx16 base h hm O
      refine gX ?_
      refine br hm (fun hm=>?_) fun hm=>?_
      ·refine gX ?_
       refine atF hm fun x17 hx17 hm=>?_;refine gH ?_
       (first|refine O.new (ai (l:=[(i64 0),(z64 0)]) rfl rfl rfl) fun g18 h O=>?_|refine O.bF (ai (l:=[(i64 0),(z64 0)]) rfl rfl rfl) fun g18 h O=>?_);refine gH ?_
       refine O.stC 2 (.head _) [(i64 x17.node),(z64 x17.pin)] fun h O=>?_;refine gX ?_
       refine ldA (O.at (.head _)) ?_;refine gH ?_
       refine ca (pB hm O.has) fun r20 hm=>?_;refine gH ?_
       refine⟨_,Dp (a:=v14) (b:=r20) rfl rfl,?_⟩;refine gX ?_
       refine aR hm fun hm=>?_;refine gH ?_
       exact jx ((min v14 r20),(v15+1)) hm (O.sel [] (by decide))
      ·refine gX ?_
       exact jx v14 hm O
     ·clear hm;rintro v12 base h hm O
      refine gX ?_
      exact⟨(v12,0),hm,O.ext,fun h2 F=>VLe.tup (LLe.cons (VLe.refl _ _) (LLe.cons (VLe.refl _ _) (LLe.nil _)))⟩
theorem eU {α:Type}{first:(α->Prop)->Prop}{rest:α->Prop} (P:α->Prop) (h1:∀ k,(∀ a,P a->k a)->first k) (h2:∀ a,P a->rest a):ar first rest:=h1 rest h2
theorem cg {α:Type}{a:α}{first:(α->Prop)->Prop}{rest:α->Prop} (h1:rest a->first rest) (h2:rest a):ar first rest:=h1 h2
def Cl (e d:Nat):Nat:=if e=0 then 3 else if e=1 then min d 2 else 2
def md (v:Nat):Nat:=if 3<v then 2 else v
def D2 (l:List Nat):Option Nat:=l.findIdx? fun v=>v != 3
def CG (l:List Nat):Nat:=match D2 l with
 |none=>3
 |some i=>if (l.contains 0&&l.contains 1)||l.any (fun v=>md v==2) then 2 else l.getD i 0
def eC (k:Nat) (l:List Nat):Nat:=if k=12 then Cl (l.getD 0 0) (l.getD 1 0) else if k=13 then CG l else lM k l
theorem DL {e d:Nat}{K:Nat->Prop} (h:K (Cl e d)):ft e d K:=by
 unfold ft bq
 unfold Cl at h
 refine⟨fun h1=>?_,fun h1=>⟨fun h2=>?_,fun h2=>?_⟩⟩
 ·rw[if_pos (bD.1 h1)] at h;exact h
 ·rw[if_neg (bW.1 h1),if_pos (bD.1 h2)] at h;exact h
 ·rw[if_neg (bW.1 h1),if_neg (bW.1 h2)] at h;exact h
theorem wy (i:Nat):(!ltI (Int.ofNat i) (Int.ofNat 0))=true:=by
 have:ltI (Int.ofNat i) (Int.ofNat 0)=false:=sD.2 (Int.natCast_nonneg i)
 rw[this];rfl
theorem uE {l:List Nat}{p:Nat->Bool}{K:Int->Prop}{body:(Unit->Prop)->Nat->(Nat->Prop)->Prop} (hl:l.length<2 ^ 60)
  (step:∀ k i nx x,l[i]?=some x->(p x=true->K (Int.ofNat i))->(p x=false->i+1<2 ^ 63/\nx (i+1))->body k i nx) (fin:∀ k i nx,l.length<=i->k ()->body k i nx)
  (h1:∀ i,l.findIdx? p=some i->K (Int.ofNat i)) (h2:l.findIdx? p=none->K (Int.negSucc 0)):ar (fun k1=>aB (fun v2 nx3=>body k1 v2 nx3) 0) (fun _:Unit=>K (Int.negSucc 0)):=by
 refine aD (fun i=>i<=l.length/\∀ j x,j<i->l[j]?=some x->p x=false) (fun i=>l.length-i) (fun _=>l.findIdx? p=none) ?_ ⟨Nat.zero_le _,fun j x h=>absurd h (Nat.not_lt_zero _)⟩ (fun _ e=>h2 e)
 intro k i nx ⟨hi,hI⟩ hnx hk
 by_cases c:i<l.length
 ·obtain⟨x,hx⟩:=aw c
  refine step k i nx x hx (fun e=>h1 i ?_) (fun e=>⟨by omega,hnx (i+1) ⟨c,fun j y hj hy=>?_⟩ (by omega)⟩)
  ·rw[List.findIdx?_eq_some_iff_getElem]
   obtain⟨q1,q2⟩:=List.getElem?_eq_some_iff.1 hx
   refine⟨q1,by rw[q2];exact e,fun j hj=>?_⟩
   have:=hI j _ hj (List.getElem?_eq_getElem (by omega))
   simp[this]
  ·by_cases q:j=i
   ·subst q;rw[hx] at hy;cases hy;exact e
   ·exact hI j y (by omega) hy
 ·refine fin k i nx (by omega) (hk () ?_)
  rw[List.findIdx?_eq_none_iff]
  intro x m
  obtain⟨j,hj,rfl⟩:=List.getElem_of_mem m
  exact hI j _ (by omega) (List.getElem?_eq_getElem hj)
theorem yH {l:List Nat}{K:Int->Prop} (hl:l.length<2 ^ 60) (h1:∀ i,D2 l=some i->K (Int.ofNat i)) (h2:D2 l=none->K (Int.negSucc 0)):fC l K:=by
 unfold fC
 refine uE (l:=l) (p:=fun v=>v != 3) hl ?_ ?_ h1 h2
 ·intro k i nx x hx a b
  exact⟨fun _=>⟨x,hx,fun e=>a (by simpa using dV.1 e),fun e=>b (by simpa using pD.1 e)⟩,fun e=>absurd (ak hx) (by have:=bk.1 e;omega)⟩
 ·intro k i nx hi hk
  exact⟨fun e=>absurd (aQ.1 e) (by omega),fun _=>hk⟩
theorem vU {v:Nat}{K:Nat->Prop} (h:K (md v)):cS v K:=by
 unfold cS
 unfold md at h
 refine⟨fun e=>?_,fun e=>?_⟩
 ·rw[if_pos (aQ.1 e)] at h;exact h
 ·rw[if_neg (Nat.not_lt.2 (bk.1 e))] at h;exact h
theorem nw {l:List Nat}{p:Nat->Bool}:(∀ i,l.findIdx? p=some i->l.any p=true)/\(l.findIdx? p=none->l.any p=false):=by
 refine⟨fun i h=>?_,fun h=>?_⟩
 ·rw[List.findIdx?_eq_some_iff_getElem] at h
  obtain⟨h1,h2,_⟩:=h
  exact List.any_eq_true.2 ⟨_,List.getElem_mem h1,h2⟩
 ·rw[List.findIdx?_eq_none_iff] at h
  exact List.any_eq_false.2 fun x m=>by simp[h x m]
theorem qu {l:List Nat}{K:Bool->Prop} (hl:l.length<2 ^ 60) (h:K (l.any fun v=>md v==2)):eA l K:=by
 unfold eA fJ
 refine uE (l:=l) (p:=fun v=>md v==2) (K:=fun r=>K (!ltI r (Int.ofNat 0))) hl ?_ ?_ (fun i e=>?_) (fun e=>?_)
 ·intro k i nx x hx a b
  exact⟨fun _=>⟨x,hx,vU ⟨fun e=>a (by simpa using bD.1 e),fun e=>b (by simpa using bW.1 e)⟩⟩,fun e=>absurd (ak hx) (by have:=bk.1 e;omega)⟩
 ·intro k i nx hi hk
  exact⟨fun e=>absurd (aQ.1 e) (by omega),fun _=>hk⟩
 ·rw[wy]
  rw[nw.1 i e] at h;exact h
 ·rw[nw.2 e] at h;exact h
theorem nB {l:List Nat}{x:Nat}{K:Bool->Prop} (hl:l.length<2 ^ 60) (h:K (l.contains x)):cE l x K:=by
 unfold cE gU
 have hc:l.contains x=l.any fun v=>x==v:=by
  rw[List.contains_eq_any_beq]
 rw[hc] at h
 refine uE (l:=l) (p:=fun v=>x==v) (K:=fun r=>K (!ltI r (Int.ofNat 0))) hl ?_ ?_ (fun i e=>?_) (fun e=>?_)
 ·intro k i nx y hy a b
  exact⟨fun _=>⟨y,hy,fun e=>a (by simpa using bD.1 e),fun e=>b (by simpa using bW.1 e)⟩,fun e=>absurd (ak hy) (by have:=bk.1 e;omega)⟩
 ·intro k i nx hi hk
  exact⟨fun e=>absurd (aQ.1 e) (by omega),fun _=>hk⟩
 ·rw[wy]
  rw[nw.1 i e] at h;exact h
 ·rw[nw.2 e] at h;exact h
theorem Dh {l:List Nat}{K:Nat->Prop} (hl:l.length<2 ^ 60) (h:K (CG l)):fB l K:=by
 unfold fB
 unfold CG at h
 refine yH hl (fun i e=>?_) (fun e=>?_)
 ·rw[e] at h
  dsimp only at h
  refine⟨fun q=>absurd (qm.1 q) (by simp only[Int.ofNat_eq_natCast];omega),fun _=>?_⟩
  have hi:i<l.length:=(List.findIdx?_eq_some_iff_getElem.1 e).1
  refine eU (fun b=>b=((l.contains 0&&l.contains 1)||l.any fun v=>md v==2)) (fun k hk=>?_) ?_
  ·unfold dp
   refine nB hl ⟨fun e0=>nB hl ⟨fun e1=>hk _ ?_,fun e1=>qu hl (hk _ ?_)⟩,fun e0=>⟨(fun e=>by cases e),fun _=>qu hl (hk _ ?_)⟩⟩
   ·rw[e0,e1];rfl
   ·rw[e0,e1];rfl
   ·rw[e0];rfl
  ·rintro b rfl
   refine⟨fun q=>?_,fun q=>⟨i,rfl,_,getD_some hi,?_⟩⟩
   ·rw[if_pos q] at h;exact h
   ·rw[if_neg (by rw[q];decide)] at h;exact h
 ·rw[e] at h
  exact⟨fun _=>h,fun q=>by cases q⟩
theorem yR {n:Nat} (h:Arity 12 n):n=2:=by
 obtain⟨h1,h2⟩:=h
 have e1:loN 12=2:=by decide
 have e2:hiZ 12=2:=by decide
 rw[e1] at h1;rw[e2] at h2
 simp only[Int.ofNat_eq_natCast] at h2;omega
theorem nH {n:Nat} (h:Arity 14 n):n=1:=by
 obtain⟨h1,h2⟩:=h
 have e1:loN 14=1:=by decide
 have e2:hiZ 14=1:=by decide
 rw[e1] at h1;rw[e2] at h2
 simp only[Int.ofNat_eq_natCast] at h2;omega
theorem rh {k:Nat}{l:List Nat}{K:Nat->Prop} (hk0:1<=k) (hk:k<14) (ha:Arity k l.length) (hl:l.length<2 ^ 60) (h:K (eC k l)):ba k l K:=by
 by_cases h12:k<12
 ·unfold eC at h
  rw[if_neg (by omega),if_neg (by omega)] at h
  exact Cu hk0 h12 ha hl h
 unfold ba
 refine rW (by omega) ?_
 refine dM ?_
 refine⟨fun h1=>?_,fun h1=>?_⟩
 ·have:=aQ.1 h1;have:=ha.1;simp only at *;omega
 ·have e:ltI (hiZ k) (Int.ofNat l.length)=false:=sD.2 ha.2
  show (ltI (hiZ k) (Int.ofNat l.length)=true->_)/\_
  rw[e]
  refine⟨(fun hc=>by cases hc),fun _=>?_⟩
  unfold eC at h
  refine⟨fun c=>absurd (bD.1 c) (by omega),fun _=>⟨fun c=>absurd (bD.1 c) (by omega),fun _=>⟨fun c=>absurd (bD.1 c) (by omega),fun _=>⟨fun c=>absurd (bD.1 c) (by omega),fun _=>⟨fun c=>absurd (bD.1 c) (by omega),fun _=>⟨fun c=>absurd (bD.1 c) (by omega),fun _=>⟨fun c=>absurd (bD.1 c) (by omega),fun _=>⟨fun c=>absurd (bD.1 c) (by omega),fun _=>⟨fun c=>absurd (bD.1 c) (by omega),fun _=>⟨fun c=>absurd (bD.1 c) (by omega),fun _=>⟨fun c=>absurd (bD.1 c) (by omega),fun _=>⟨fun c=>?_,fun c1=>⟨fun c=>?_,fun c2=>?_⟩⟩⟩⟩⟩⟩⟩⟩⟩⟩⟩⟩⟩
  ·have c:=bD.1 c;subst c
   have:=yR ha
   exact⟨_,getD_some (by omega),_,getD_some (by omega),DL h⟩
  ·have c:=bD.1 c;subst c
   exact Dh hl h
  ·have a1:=bW.1 c1;have a2:=bW.1 c2;omega
theorem zP (k:Nat) (l:List Nat):lM k l<=2:=by
 have hn:∀ v,eY v<=2:=fun v=>by unfold eY;split <;> omega
 have hx:∀ (l:List Nat) (o:Nat),o<=1->fW l o<=2:=by
  intro l
  induction l with
  |nil=>intro o ho;unfold fW;omega
  |cons v r ih =>
   intro o ho
   unfold fW
   split
   ·refine ih _ ?_
    have q1:o=0\/o=1:=by omega
    have q2:v=0\/v=1:=by omega
    rcases q1 with rfl|rfl <;> rcases q2 with rfl|rfl <;> decide
   ·omega
 have hd:∀ (low high:Nat) (l:List Nat) (o:Nat),low<=2->o<=2->eo low high l o<=2:=by
  intro low high l
  induction l with
  |nil=>intro o h1 h2;exact h2
  |cons v r ih =>
   intro o h1 h2
   unfold eo
   split
   ·exact h1
   ·refine ih _ h1 ?_
    split
    ·exact h2
    ·omega
 unfold lM
 repeat' split
 all_goals first|omega|exact hn _|exact hd _ _ _ _ (by decide) (by decide) | exact hx _ _ (by decide) | (unfold se;repeat' split) <;> omega
theorem qG (k:Nat) {l:List Nat} (hl:∀ v∈l,v<=3):eC k l<=3:=by
 unfold eC
 split
 ·unfold Cl;repeat' split
  all_goals omega
 split
 ·unfold CG
  split
  ·omega
  ·split
   ·omega
   ·rename_i i hi _
    obtain⟨h1,h2,_⟩:=List.findIdx?_eq_some_iff_getElem.1 hi
    rw[List.getD,List.getElem?_eq_getElem h1]
    exact hl _ (List.getElem_mem h1)
 ·have:=zP k l;omega
structure GK (ks:List Nat) (x:Node):Prop where
 kind1:1<=x.kind
 kind:x.kind<=13
 arity:Arity x.kind x.ins.length
 ins:∀ k∈x.ins,k<ks.length
 bus:x.kind=13->∀ k∈x.ins,ks.getD k 0=12
 mem:x.mem=0
 bit:x.bit=0
theorem lr (ks:List Nat):∀ (i:Nat) (t:Nat),t∈cx ks i->t<i/\ks.getD t 0=12
 |0,t,h=>by unfold cx at h;cases h
 |i+1,t,h=>by
  unfold cx at h
  split at h
  ·rename_i e
   rcases List.mem_append.1 h with h|h
   ·have:=lr ks i t h;exact⟨by omega,this.2⟩
   ·rw[List.mem_singleton] at h;subst h;exact⟨by omega,e⟩
  ·have:=lr ks i t h;exact⟨by omega,this.2⟩
theorem fD {l:List Nat}{i:Nat} (h:i<l.length):l.getD i 0∈l:=by
 rw[List.getD,List.getElem?_eq_getElem h]
 exact List.getElem_mem h
theorem qk:∀ kk,kk<6->Arity (5+kk) 2/\Arity (5+kk) 3:=by decide
theorem qA (bus:Bool) (g:GData) {ks:List Nat} (hn:0<ks.length):GK ks (fO bus g ks):=by
 have ha:=Nat.mod_lt g.a hn
 have hb:=Nat.mod_lt g.b hn
 have hd:=Nat.mod_lt g.d hn
 have hkk:(if bus then g.kind%13 else g.kind%9)<13:=by
  split
  ·exact Nat.mod_lt _ (by decide)
  ·exact Nat.lt_trans (Nat.mod_lt _ (by decide)) (by decide)
 unfold fO
 generalize (if bus then g.kind%13 else g.kind%9)=kk at hkk
 by_cases c1:kk<6
 ·rw[if_pos c1]
  by_cases c2:128<=g.kind
  ·rw[if_pos c2]
   refine⟨by dsimp only;omega,by dsimp only;omega,?_,?_,fun e=>by dsimp only at e;omega,rfl,rfl⟩
   ·exact (qk kk c1).2
   ·intro k m
    simp only[List.mem_cons,List.not_mem_nil,or_false] at m
    rcases m with rfl|rfl|rfl <;> assumption
  ·rw[if_neg c2]
   refine⟨by dsimp only;omega,by dsimp only;omega,?_,?_,fun e=>by dsimp only at e;omega,rfl,rfl⟩
   ·exact (qk kk c1).1
   ·intro k m
    simp only[List.mem_cons,List.not_mem_nil,or_false] at m
    rcases m with rfl|rfl <;> assumption
 rw[if_neg c1]
 by_cases c2:kk=6
 ·rw[if_pos c2]
  exact⟨(by decide:1<=4),(by decide:4<=13),(by decide:Arity 4 1),fun k m=>by simp only[List.mem_cons,List.not_mem_nil,or_false] at m;subst m;exact ha,(fun e=>by cases e),rfl,rfl⟩
 rw[if_neg c2]
 by_cases c3:kk=7
 ·rw[if_pos c3]
  refine⟨(by decide:1<=11),(by decide:11<=13),(by decide:Arity 11 3),fun k m=>?_,(fun e=>by cases e),rfl,rfl⟩
  simp only[List.mem_cons,List.not_mem_nil,or_false] at m
  rcases m with rfl|rfl|rfl <;> assumption
 rw[if_neg c3]
 by_cases c4:kk=9\/kk=10
 ·rw[if_pos c4]
  refine⟨(by decide:1<=12),(by decide:12<=13),(by decide:Arity 12 2),fun k m=>?_,(fun e=>by cases e),rfl,rfl⟩
  simp only[List.mem_cons,List.not_mem_nil,or_false] at m
  rcases m with rfl|rfl <;> assumption
 rw[if_neg c4]
 by_cases c5:10<kk/\0<(cx ks ks.length).length
 ·rw[if_pos c5]
  have h1:=lr ks ks.length _ (fD (Nat.mod_lt g.a c5.2))
  have h2:=lr ks ks.length _ (fD (Nat.mod_lt (g.a%(cx ks ks.length).length+1) c5.2))
  by_cases c6:1<(cx ks ks.length).length
  ·rw[if_pos c6]
   refine⟨(by decide:1<=13),(by decide:13<=13),(by decide:Arity 13 2),fun k m=>?_,fun _ k m=>?_,rfl,rfl⟩ <;>
   ·simp only[List.mem_cons,List.not_mem_nil,or_false] at m
    rcases m with rfl|rfl
    ·first|exact h1.1|exact h1.2
    ·first|exact h2.1|exact h2.2
  ·rw[if_neg c6]
   refine⟨(by decide:1<=13),(by decide:13<=13),(by decide:Arity 13 1),fun k m=>?_,fun _ k m=>?_,rfl,rfl⟩ <;>
   ·simp only[List.mem_cons,List.not_mem_nil,or_false] at m
    subst m
    first|exact h1.1|exact h1.2
 rw[if_neg c5]
 by_cases c7:240<g.kind
 ·rw[if_pos c7]
  have:g.a%2=0\/g.a%2=1:=by omega
  rcases this with e|e <;> rw[e]
  ·exact⟨(by decide:1<=1),(by decide:1<=13),(by decide:Arity 1 0),(fun k m=>by cases m),(fun _ k m=>by cases m),rfl,rfl⟩
  ·exact⟨(by decide:1<=2),(by decide:2<=13),(by decide:Arity 2 0),(fun k m=>by cases m),(fun _ k m=>by cases m),rfl,rfl⟩
 ·rw[if_neg c7]
  exact⟨(by decide:1<=3),(by decide:3<=13),(by decide:Arity 3 1),fun k m=>by simp only[List.mem_cons,List.not_mem_nil,or_false] at m;subst m;exact ha,(fun e=>by cases e),rfl,rfl⟩
theorem uJ (g:GData) (ks:List Nat):(fO false g ks).kind≠12/\(fO false g ks).kind≠13:=by
 have hkk:=Nat.mod_lt g.kind (show 0<9 by decide)
 unfold fO
 simp only[Bool.false_eq_true,if_false]
 generalize g.kind%9=kk at hkk
 by_cases c1:kk<6
 ·rw[if_pos c1];dsimp only;omega
 rw[if_neg c1]
 by_cases c2:kk=6
 ·rw[if_pos c2];exact (by decide:4≠12/\4≠13)
 rw[if_neg c2]
 by_cases c3:kk=7
 ·rw[if_pos c3];exact (by decide:11≠12/\11≠13)
 rw[if_neg c3,if_neg (by omega),if_neg (by omega)]
 by_cases c7:240<g.kind
 ·rw[if_pos c7];dsimp only;omega
 ·rw[if_neg c7];exact (by decide:3≠12/\3≠13)
theorem pc (bus:Bool) (gs:List GData) (base:List Node) (hb:0<base.length):∀ m,m<=gs.length->∀ (i:Nat) (y:Node),(dE bus gs base m)[i]?=some y ->
  (i<base.length/\base[i]?=some y)\/(base.length<=i/\∃ g,y=fO bus g (((dE bus gs base m).take i).map Node.kind))
 |0,_,i,y,h=>.inl ⟨ak h,h⟩
 |m+1,hm,i,y,h=>by
  have hg:gs[m]?=some gs[m]:=List.getElem?_eq_getElem (by omega)
  have hl:=er bus gs base m (by omega)
  rw[ky hg] at h ⊢
  by_cases c:i<(dE bus gs base m).length
  ·rw[List.getElem?_append_left c] at h
   rcases pc bus gs base hb m (by omega) i y h with q|⟨q1,g,q2⟩
   ·exact .inl q
   ·refine .inr ⟨q1,g,?_⟩
    rw[List.take_append_of_le_length (by omega)]
    exact q2
  ·have hi:i=(dE bus gs base m).length:=by
    have:=ak h
    rw[List.length_append,List.length_singleton] at this
    omega
   subst hi
   rw[List.getElem?_append_right (Nat.le_refl _),Nat.sub_self] at h
   cases h
   refine .inr ⟨by omega,gs[m],?_⟩
   rw[List.take_left']
   rfl
theorem uf {first:Nat}{d:Nat->Nat}{ns:List Node}{j:Nat}:∀ {m},j<m->first+m<=ns.length->(lC first d m ns)[first+j]?=some (nr (d j))
 |m+1,h,hl=>by
  rw[lC,List.getElem?_set]
  by_cases c:m=j
  ·subst c
   rw[if_pos rfl,if_pos (by rw[gF];omega)]
  ·rw[if_neg (by omega)]
   exact uf (by omega) (by omega)
theorem qb {first:Nat}{d:Nat->Nat}{ns:List Node}{j:Nat} (h:j<first):∀ m,(lC first d m ns)[j]?=ns[j]?
 |0=>rfl
 |m+1=>by rw[lC,List.getElem?_set_ne (by omega)];exact qb h m
def DR (x:CData) (_i:Nat) (y:Node):Prop:=x.mem=true/\(y=yV 0\/y=yV 1)
theorem qc {x:CData}{i:Nat}{y:Node} (h:(eB x).nodes[i]?=some y) :
  (i<x.inp%4+1/\y=fS)\/(x.inp%4+1<=i/\i<x.inp%4+1+x.dffs%3/\∃ d,d<(cj x).length/\y=nr d)\/DR x i y \/
  (x.inp%4+1+x.dffs%3<=i/\(cj x)[i]?=some y/\∃ g,y=fO x.bus g (((cj x).take i).map Node.kind)):=by
 have h:(lC (x.inp%4+1) (lO x (cj x).length) (x.dffs%3) (cj x))[i]?=some y:=h
 have hbl:=ff x.inp x.dffs x.mem
 have hrl:=iK x
 have hbase:∀ i,i<x.inp%4+1->(fH x.inp x.dffs x.mem)[i]?=some fS:=fun i hi=>by
  unfold fH
  rw[List.append_assoc,List.getElem?_append_left (by rw[List.length_replicate];exact hi),List.getElem?_replicate,if_pos hi]
 by_cases c1:i<x.inp%4+1
 ·rw[qb c1] at h
  unfold cj at h
  rw[mL _ _ _ (by omega) _ (Nat.min_le_left _ _),hbase i c1] at h
  cases h
  exact .inl ⟨c1,rfl⟩
 ·by_cases c2:i<x.inp%4+1+x.dffs%3
  ·have e:i=x.inp%4+1+(i-(x.inp%4+1)):=by omega
   rw[e,uf (by omega) (by omega)] at h
   cases h
   exact .inr (.inl ⟨by omega,c2,_,Nat.mod_lt _ (ou x),rfl⟩)
  ·rw[nb (by omega)] at h
   rcases pc x.bus x.gates (fH x.inp x.dffs x.mem) (by omega) _ (Nat.min_le_left _ 8) i y h with⟨q,e⟩|⟨_,g,q⟩
   ·refine .inr (.inr (.inl ?_))
    unfold fH at e
    rw[List.getElem?_append_right (by simp only[List.length_append,List.length_replicate];omega)] at e
    cases hm:x.mem
    ·rw[hm] at e;simp at e
    ·rw[hm] at e
     simp only[if_true] at e
     refine⟨hm,?_⟩
     have hme:=List.mem_of_getElem? e
     simpa using hme
   ·exact .inr (.inr (.inr ⟨by omega,h,g,q⟩))
theorem sx {x:CData} (hm:x.mem=false) {i:Nat}{y:Node} (h:(eB x).nodes[i]?=some y) :
  (i<x.inp%4+1/\y=fS)\/(x.inp%4+1<=i/\i<x.inp%4+1+x.dffs%3/\∃ d,d<(cj x).length/\y=nr d) \/
  (x.inp%4+1+x.dffs%3<=i/\(cj x)[i]?=some y/\∃ g,y=fO x.bus g (((cj x).take i).map Node.kind)):=by
 rcases qc h with q|q|q|q
 ·exact .inl q
 ·exact .inr (.inl q)
 ·have:=q.1;rw[hm] at this;cases this
 ·exact .inr (.inr q)
theorem xa (x:CData) (k:Nat):(((eB x).nodes).map Node.kind).getD k 0=((cj x).map Node.kind).getD k 0:=by
 have hrl:=iK x
 show ((lC (x.inp%4+1) (lO x (cj x).length) (x.dffs%3) (cj x)).map Node.kind).getD k 0=_
 rw[List.getD,List.getD,List.getElem?_map,List.getElem?_map]
 by_cases c1:k<x.inp%4+1
 ·rw[qb c1]
 ·by_cases c2:k<x.inp%4+1+x.dffs%3
  ·have e:k=x.inp%4+1+(k-(x.inp%4+1)):=by omega
   rw[e,uf (by omega) (by omega),vx (by omega)]
   rfl
  ·rw[nb (by omega)]
theorem lj (x:CData):(eB x).mems=if x.mem then [⟨[x.port0%(cj x).length],[x.port1%(cj x).length,x.port2%(cj x).length],x.port3%(cj x).length⟩] else []:=rfl
theorem xn (x:CData):Good (eB x):=by
 have hle:=yk x
 have hpos:=ou x
 have hn:(eB x).nodes.length=(cj x).length:=gF _
 have node:∀ (i:Nat) (y:Node),(eB x).nodes[i]?=some y->GoodN (eB x) i y:=by
  intro i y h
  have hi:=ak h
  rw[hn] at hi
  rcases qc h with⟨_,rfl⟩|⟨_,_,d,hd,rfl⟩|⟨hm,e⟩|⟨h1,h2,g,hg⟩
  ·exact⟨(by decide:0<=15),(by decide:Arity 0 0),(fun k m=>by cases m),(fun e=>by cases e),fun _=>⟨rfl,rfl⟩,(fun e=>by cases e),fun e=>absurd e (by decide:¬ 1<=0)⟩
  ·refine⟨(by decide:14<=15),(by decide:Arity 14 1),fun k m=>?_,(fun e=>by cases e),fun _=>⟨rfl,rfl⟩,(fun e=>by cases e),fun _ e=>absurd e (by decide:¬ 14<=13)⟩
   have:k=d:=by simpa[nr] using m
   rw[hn,this];exact hd
  ·have em:=lj x
   rw[hm] at em
   simp only[if_true] at em
   rcases e with rfl|rfl
   ·exact⟨(by decide:15<=15),(by decide:Arity 15 0),(fun k m=>by cases m),(fun e=>by cases e),fun e=>absurd rfl e,fun _=>⟨_,(by rw[em];rfl),by show (0:Nat)<2;decide⟩,fun _ e=>absurd e (by decide:¬ 15<=13)⟩
   ·exact⟨(by decide:15<=15),(by decide:Arity 15 0),(fun k m=>by cases m),(fun e=>by cases e),fun e=>absurd rfl e,fun _=>⟨_,(by rw[em];rfl),by show (1:Nat)<2;decide⟩,fun _ e=>absurd e (by decide:¬ 15<=13)⟩
  ·have hks:(((cj x).take i).map Node.kind).length=i:=by rw[List.length_map,List.length_take];omega
   have G:=qA x.bus g (ks:=((cj x).take i).map Node.kind) (by omega)
   rw[<- hg] at G
   have lt:∀ k∈y.ins,k<i:=fun k m=>by have:=G.ins k m;omega
   refine⟨by have:=G.kind;omega,G.arity,fun k m=>by have:=lt k m;omega,fun e k m=>?_,fun _=>⟨G.mem,G.bit⟩,fun e=>by have:=G.kind;omega,fun _ _=>lt⟩
   have hk:=lt k m
   have hk2:k<(eB x).nodes.length:=by omega
   refine⟨_,List.getElem?_eq_getElem hk2,?_⟩
   have e1:=xa x k
   rw[List.getD,List.getElem?_map,List.getElem?_eq_getElem hk2] at e1
   have e2:=G.bus e k m
   rw[List.getD,List.getElem?_map,List.getElem?_take,if_pos hk] at e2
   rw[List.getD,List.getElem?_map,e2] at e1
   exact e1
 refine⟨by omega,by show ((List.range (cj x).length).map jy).length=_;rw[hn];simp,Ae (n:=(cj x).length) (by omega) rfl,AS ⟨by omega,fun i y h=>⟨(node i y h).ins,(node i y h).few⟩⟩,?_,?_,?_,?_,node,by rw[hn];exact hpos⟩
 ·intro m hme
  rw[lj] at hme
  split at hme
  ·rw[List.mem_singleton] at hme
   subst hme
   have lt:∀ a,a%(cj x).length<(eB x).nodes.length:=fun a=>by rw[hn];exact Nat.mod_lt _ hpos
   exact⟨(by decide:1<=1/\1<=8),(by decide:1<=2/\2<=32),fun k m=>by rw[List.mem_singleton.1 m];exact lt _,fun k m=>by simp only[List.mem_cons,List.not_mem_nil,or_false] at m;rcases m with rfl|rfl <;> exact lt _,lt _⟩
  ·cases hme
 ·rw[lj];split <;> simp
 ·intro o m
  have m:o∈(x.outs.take 3).map (· % (cj x).length)++[(cj x).length-1]:=m
  rw[hn]
  rcases List.mem_append.1 m with m|m
  ·obtain⟨q,_,rfl⟩:=List.mem_map.1 m
   exact Nat.mod_lt _ hpos
  ·rw[List.mem_singleton] at m;omega
 ·show ((x.outs.take 3).map (· % (cj x).length)++[(cj x).length-1]).length<=16
  rw[List.length_append,List.length_map,List.length_take,List.length_singleton];omega
theorem zv {x:CData} (_:x.mem=false):Good (eB x):=xn x
theorem qa {x:CData} (hm:x.mem=false) (hb:x.bus=false):∀ (i:Nat) (y:Node),(eB x).nodes[i]?=some y->y.kind≠12/\y.kind≠13/\y.kind≠15:=by
 intro i y h
 rcases sx hm h with⟨_,rfl⟩|⟨_,_,d,hd,rfl⟩|⟨h1,_,g,hg⟩
 ·decide
 ·exact⟨by show (14:Nat)≠12;decide,by show (14:Nat)≠13;decide,by show (14:Nat)≠15;decide⟩
 ·rw[hb] at hg
  have:=uJ g (((cj x).take i).map Node.kind)
  have hi:=ak h
  have hn:(eB x).nodes.length=(cj x).length:=gF _
  have q:=qA false g (ks:=((cj x).take i).map Node.kind) (by rw[List.length_map,List.length_take];omega)
  rw[<- hg] at this q
  exact⟨this.1,this.2,by have:=q.kind;omega⟩
theorem nR {c:Circ}{K:List Nat->Prop} (hc:c.nodes.length<2 ^ 40) (h:K (ofN c [0])):bC c K:=zT hc (by decide) h
theorem jd {c:Circ}{K:List Nat->Prop} (hc:c.nodes.length<2 ^ 40) (h:K (ofN c [14])):aV c K:=zT hc (by decide) h
theorem cK {c:Circ}{k f:Nat}:f∈ofN c [k]↔f<c.nodes.length/\kd c f=k:=by
 unfold ofN kd
 rw[List.mem_filter,List.mem_range]
 simp only[List.contains_cons,List.contains_nil,Bool.or_false,beq_iff_eq]
theorem gq (c:Circ) (ks:List Nat):(ofN c ks).length<=c.nodes.length:=by
 unfold ofN;exact Nat.le_trans (List.length_filter_le _ _) (by simp)
theorem hU (c:Circ) (ks:List Nat):(ofN c ks).Nodup:=List.Pairwise.filter _ List.nodup_range
structure Cir (c:Circ):Prop where
 good:Good c
 mems:c.mems=[]
 kinds:∀ (i:Nat) (x:Node),c.nodes[i]?=some x->x.kind<=14
theorem Cir.len {c:Circ} (C:Cir c):c.nodes.length<=16:=C.good.len
theorem pU {c:Circ}{o:List Nat} (h:OrdOk c o) {a b m:Nat} (h1:o[a]?=some m) (h2:o[b]?=some m):a=b:=by
 have hn:o.Nodup:=h.perm.nodup_iff.2 List.nodup_range
 obtain⟨q1,q2⟩:=List.getElem?_eq_some_iff.1 h1
 obtain⟨q3,q4⟩:=List.getElem?_eq_some_iff.1 h2
 rcases Nat.lt_trichotomy a b with q|q|q
 ·exact absurd (q2.trans q4.symm) (List.pairwise_iff_getElem.1 hn a b q1 q3 q)
 ·exact q
 ·exact absurd (q4.trans q2.symm) (List.pairwise_iff_getElem.1 hn b a q3 q1 q)
structure PatOk (c:Circ) (p:Pat):Prop where
 inp:p.inp.length=(ofN c [0]).length
 state:p.state.length=(ofN c [14]).length
 inpv:∀ v∈p.inp,v<=3
 statev:∀ v∈p.state,v<=3
theorem nC {l:List Nat}{K:Bool->Prop} (hl:l.length<2 ^ 60) (hv:∀ v∈l,v<=3) (h:K false):cF l K:=by
 unfold cF dW
 refine dQ (l:=l) ?_ ?_ h
 ·intro k i nx x hx hi hn
  have hv:=hv x (List.mem_of_getElem? hx)
  refine⟨fun _=>⟨x,hx,fun q=>?_,fun _=>⟨by omega,hn⟩⟩,fun q=>?_⟩
  ·have:=aQ.1 q;omega
  ·have:=bk.1 q;omega
 ·intro k i nx hi hk
  refine⟨fun q=>?_,fun _=>hk⟩
  have:=aQ.1 q;omega
theorem Cir.qx {c:Circ} (C:Cir c):ofN c [15]=[]:=by
 refine List.eq_nil_iff_forall_not_mem.2 fun i m=>?_
 obtain⟨h1,h2⟩:=cK.1 m
 obtain⟨y,hy⟩:=aw h1
 rw[dj hy] at h2
 have:=C.kinds i y hy
 omega
theorem CT {c:Circ} (C:Cir c) {pt:Pat} (hp:PatOk c pt) {K:Nat->Prop} (h:K 0):fx c pt K:=by
 have hlen:=C.len
 have l1:=gq c [0]
 have l2:=gq c [14]
 have h1:=hp.inp
 have h2:=hp.state
 unfold fx
 refine cg (a:=false) (fun F=>⟨fun q=>?_,fun _=>zT (by omega) (by decide) ?_⟩) ⟨(fun e=>by cases e),fun _=>?_⟩
 ·rw[C.mems] at q;exact absurd (aQ.1 q) (by simp)
 ·rw[C.qx];exact F
 refine cg (a:=false) (fun F=>nR (by omega) ⟨fun q=>absurd h1 (dV.1 q),fun _=>jd (by omega) ?_⟩) ⟨(fun e=>by cases e),fun _=>?_⟩
 ·rw[pD.2 h2];exact F
 refine cg (a:=false) (fun F=>nC (by omega) hp.inpv ⟨(fun e=>by cases e),fun _=>nC (by omega) hp.statev F⟩) ⟨(fun e=>by cases e),fun _=>h⟩
def combB (k:Nat):Bool:=decide (1<=k/\k<=13)
def cc (pn:Nat->Nat->Nat->Nat) (t:List Nat) (m:Nat) (x:Node):List Nat:=x.ins.mapIdx fun j k=>pn m j (t.getD k 0)
def srcV (c:Circ) (p:Pat) (i:Nat):Nat:=if kd c i=0 then p.inp.getD ((ofN c [0]).idxOf i) 0 else if kd c i=14 then p.state.getD ((ofN c [14]).idxOf i) 0 else 0
def baseV (c:Circ) (p:Pat) (pn:Nat->Nat->Nat->Nat) (t:List Nat) (m:Nat) (x:Node):Nat:=if combB x.kind=true then eC x.kind (cc pn t m x) else srcV c p m
structure Sol (c:Circ) (p:Pat) (nt:Nat->Nat->Nat) (pn:Nat->Nat->Nat->Nat) (t:List Nat):Prop where
 len:t.length=c.nodes.length
 val:∀ i x,c.nodes[i]?=some x->t.getD i 0=nt i (baseV c p pn t i x)
 le:∀ i,t.getD i 0<=3
theorem hZ {pn:Nat->Nat->Nat->Nat}{t:List Nat}{m:Nat}{x:Node}:(cc pn t m x).length=x.ins.length:=by unfold cc;simp
theorem ju {pn:Nat->Nat->Nat->Nat}{t:List Nat}{m j y:Nat}{x:Node} (h:x.ins[j]?=some y):(cc pn t m x)[j]?=some (pn m j (t.getD y 0)):=by
 unfold cc;rw[List.getElem?_mapIdx,h];rfl
theorem iL {pn:Nat->Nat->Nat->Nat}{t u:List Nat}{m:Nat}{x:Node} (h:∀ k∈x.ins,t.getD k 0=u.getD k 0):cc pn t m x=cc pn u m x:=by
 unfold cc
 refine List.ext_getElem (by simp) fun i a b=>?_
 simp only[List.getElem_mapIdx]
 rw[h _ (List.getElem_mem _)]
theorem zR {pn:Nat->Nat->Nat->Nat} (hp:∀ m j v,v<=3->pn m j v<=3) {t:List Nat} (ht:∀ i,t.getD i 0<=3) {m:Nat}{x:Node}:∀ v∈cc pn t m x,v<=3:=by
 intro v h
 unfold cc at h
 rw[List.mem_mapIdx] at h
 obtain⟨i,hi,rfl⟩:=h
 exact hp _ _ _ (ht _)
theorem Sol.eq {c:Circ} (C:Cir c) {p:Pat}{nt:Nat->Nat->Nat}{pn:Nat->Nat->Nat->Nat}{t u:List Nat} (T:Sol c p nt pn t) (U:Sol c p nt pn u):t=u:=by
 have key:∀ n i,i<n->t.getD i 0=u.getD i 0:=by
  intro n
  induction n with
  |zero=>intro i h;omega
  |succ n ih =>
   intro i hi
   by_cases q:i<c.nodes.length
   ·obtain⟨x,hx⟩:=aw q
    rw[T.val i x hx,U.val i x hx]
    congr 1
    unfold baseV
    split
    ·rename_i hc
     have hc:=of_decide_eq_true hc
     rw[iL fun k m=>ih k ?_]
     have:=(C.good.node i x hx).acyc hc.1 hc.2 k m
     omega
    ·rfl
   ·rw[List.getD,List.getD,List.getElem?_eq_none (by rw[T.len];omega),List.getElem?_eq_none (by rw[U.len];omega)]
 refine List.ext_getElem (T.len.trans U.len.symm) fun i a b=>?_
 have:=key (i+1) i (by omega)
 rw[List.getD,List.getElem?_eq_getElem a,List.getD,List.getElem?_eq_getElem b] at this
 exact this
theorem pV {n:Nat}{ixs vs:List Nat} (_hn:n<=16) (_hix:ixs.length<=n) (hl:vs.length=ixs.length) (_hb:∀ f∈ixs,f<n) (nd:ixs.Nodup) {t0:List Nat} (ht0:t0.length=n) {rest:List Nat->Prop}{body:List Nat×Nat->(List Nat×Nat->Prop)->Prop}
  (hbody:∀ t i nx,t.length=n->(∀ f v,i<ixs.length->ixs[i]?=some f->vs[i]?=some v->f<n->nx (t.set f v,i+1))->(ixs.length<=i->rest t)->body (t,i) nx)
  (h:∀ t,t.length=n->(∀ j f,ixs[j]?=some f->t.getD f 0=vs.getD j 0)->(∀ f,f ∉ ixs->t.getD f 0=t0.getD f 0)->rest t):aB body (t0,0):=by
 refine bl (fun s=>s.2<=ixs.length/\s.1.length=n/\(∀ j f,j<s.2->ixs[j]?=some f->s.1.getD f 0=vs.getD j 0)/\∀ f,f ∉ ixs.take s.2->s.1.getD f 0=t0.getD f 0) (fun s=>ixs.length-s.2) ?_ ⟨Nat.zero_le _,ht0,(fun j f hj=>absurd hj (Nat.not_lt_zero _)),fun _ _=>rfl⟩
 rintro⟨t,i⟩ nx ⟨hi,h1,h2,h3⟩ hnx
 dsimp only at hi h1 h2 h3
 refine hbody t i nx h1 (fun f v q hf hv hfn=>?_) (fun q=>?_)
 ·obtain⟨e1,e2⟩:=List.getElem?_eq_some_iff.1 hf
  have ev:v=vs.getD i 0:=by rw[List.getD,hv];rfl
  subst ev
  refine hnx _ ⟨q,by simp[h1],fun j g hj hg=>?_,fun g hg=>?_⟩ (by dsimp only;omega)
  ·dsimp only at hj ⊢
   rw[ck (by omega)]
   by_cases e:f=g
   ·subst e
    have:j=i:=by
     obtain⟨e3,e4⟩:=List.getElem?_eq_some_iff.1 hg
     rcases Nat.lt_trichotomy j i with w|w|w
     ·exact absurd (e4.trans e2.symm) (List.pairwise_iff_getElem.1 nd j i e3 e1 w)
     ·exact w
     ·omega
    subst this
    rw[if_pos rfl]
   ·rw[if_neg e]
    refine h2 j g ?_ hg
    by_cases e3:j=i
    ·subst e3;rw[hf] at hg;cases hg;exact absurd rfl e
    ·omega
  ·dsimp only at hg ⊢
   rw[List.take_succ_eq_append_getElem e1,List.mem_append,List.mem_singleton,e2] at hg
   rw[ck (by omega),if_neg (fun e=>hg (.inr e.symm))]
   exact h3 g fun m=>hg (.inl m)
 ·rw[List.take_of_length_le q] at h3
  exact h t h1 (fun j f hj=>h2 j f (by have:=ak hj;omega) hj) h3
theorem nD {n:Nat}{ixs vs t:List Nat}{i:Nat}{rest:Prop}{nx:List Nat×Nat->Prop} (hn:n<=16) (hix:ixs.length<=n) (hl:vs.length=ixs.length) (hb:∀ f∈ixs,f<n) (ht:t.length=n) (h1:∀ f v,i<ixs.length->ixs[i]?=some f->vs[i]?=some v->f<n->nx (t.set f v,i+1)) (h2:ixs.length<=i->rest) :
  ((ltN i ixs.length)=true->∃ x35,ixs[i]?=some x35/\∃ x36,vs[i]?=some x36/\x35<n/\∃ x37,t[x35]?=some x37/\i+1<2 ^ 63/\nx ((t.set x35 x36),(i+1)))/\((ltN i ixs.length)=false->rest):=by
 refine⟨fun q=>?_,fun q=>h2 (bk.1 q)⟩
 have q:i<ixs.length:=aQ.1 q
 obtain⟨f,hf⟩:=aw q
 have hfn:=hb f (List.mem_of_getElem? hf)
 have hv:=getD_some (l:=vs) (i:=i) (by omega)
 exact⟨f,hf,_,hv,hfn,_,jf ht hfn,by omega,h1 f _ q hf hv hfn⟩
theorem BO {l:List Nat} (nd:l.Nodup) {j f:Nat} (h:l[j]?=some f):l.idxOf f=j:=by
 obtain⟨h1,rfl⟩:=List.getElem?_eq_some_iff.1 h
 exact nd.idxOf_getElem j h1
theorem Ag {c:Circ} (C:Cir c) {p:Pat} (hp:PatOk c p) {t1 t2:List Nat} (_l2:t2.length=c.nodes.length) (h1:∀ j f,(ofN c [0])[j]?=some f->t1.getD f 0=p.inp.getD j 0) (h2:∀ j f,(ofN c [14])[j]?=some f->t2.getD f 0=p.state.getD j 0) (h3:∀ f,f ∉ ofN c [14]->t2.getD f 0=t1.getD f 0) :
  ∀ i x,c.nodes[i]?=some x->combB x.kind=false->t2.getD i 0=srcV c p i/\t2.getD i 0<=3:=by
 intro i x hx hc
 have hc:=of_decide_eq_false hc
 have hk:=C.kinds i x hx
 have hi:=ak hx
 have e:=dj hx
 unfold srcV
 by_cases k0:x.kind=0
 ·have m:i∈ofN c [0]:=cK.2 ⟨hi,by rw[e];exact k0⟩
  obtain⟨j,hj,ej⟩:=List.getElem_of_mem m
  have hj':(ofN c [0])[j]?=some i:=by rw[List.getElem?_eq_getElem hj,ej]
  have hn:i ∉ ofN c [14]:=fun q=>by have:=(cK.1 q).2;omega
  rw[h3 i hn,h1 j i hj',if_pos (by rw[e];exact k0),BO (hU c [0]) hj']
  exact⟨rfl,hp.inpv _ (fD (by rw[hp.inp];exact hj))⟩
 ·have k14:x.kind=14:=by omega
  have m:i∈ofN c [14]:=cK.2 ⟨hi,by rw[e];exact k14⟩
  obtain⟨j,hj,ej⟩:=List.getElem_of_mem m
  have hj':(ofN c [14])[j]?=some i:=by rw[List.getElem?_eq_getElem hj,ej]
  rw[h2 j i hj',if_neg (by rw[e];exact k0),if_pos (by rw[e];exact k14),BO (hU c [14]) hj']
  exact⟨rfl,hp.statev _ (fD (by rw[hp.state];exact hj))⟩
structure RunS (c:Circ) (p:Pat) (nt:Nat->Nat->Nat) (pn:Nat->Nat->Nat->Nat) (o t:List Nat) (i:Nat):Prop where
 len:t.length=c.nodes.length
 done:∀ j m x,j<i->o[j]?=some m->c.nodes[m]?=some x->t.getD m 0=nt m (baseV c p pn t m x)
 todo:∀ j m x,i<=j->o[j]?=some m->c.nodes[m]?=some x->combB x.kind=false->t.getD m 0=srcV c p m
 le:∀ i,t.getD i 0<=3
theorem RunS.step {c:Circ}{p:Pat}{nt:Nat->Nat->Nat}{pn:Nat->Nat->Nat->Nat}{o t:List Nat} (ho:OrdOk c o) {i m:Nat}{x:Node} (T:RunS c p nt pn o t i) (hm:o[i]?=some m) (hx:c.nodes[m]?=some x) (hle:nt m (baseV c p pn t m x)<=3):RunS c p nt pn o (t.set m (nt m (baseV c p pn t m x))) (i+1):=by
 have hml:m<t.length:=by rw[T.len];exact ak hx
 have same:∀ (j m':Nat) (x':Node),j<=i->o[j]?=some m'->c.nodes[m']?=some x'->baseV c p pn (t.set m (nt m (baseV c p pn t m x))) m' x'=baseV c p pn t m' x':=by
  intro j m' x' hj h1 h2
  unfold baseV
  split
  ·rename_i hc
   have hc:=of_decide_eq_true hc
   rw[iL fun k hk=>?_]
   rw[ck hml,if_neg]
   rintro rfl
   obtain⟨b',hb,hb2⟩:=ho.before j m' x' m h1 h2 hc hk
   have:=pU ho hb2 hm
   omega
  ·rfl
 refine⟨by rw[List.length_set];exact T.len,fun j m' x' hj h1 h2=>?_,fun j m' x' hj h1 h2 h3=>?_,fun k=>?_⟩
 ·rw[same j m' x' (by omega) h1 h2,ck hml]
  by_cases e:m=m'
  ·subst e
   rw[if_pos rfl]
   rw[hx] at h2;cases h2
   rfl
  ·rw[if_neg e]
   refine T.done j m' x' ?_ h1 h2
   by_cases e2:j=i
   ·subst e2;rw[hm] at h1;cases h1;exact absurd rfl e
   ·omega
 ·rw[ck hml,if_neg]
  ·exact T.todo j m' x' (by omega) h1 h2 h3
  ·rintro rfl
   have:=pU ho hm h1
   omega
 ·rw[ck hml]
  split
  ·exact hle
  ·exact T.le k
theorem RunS.skip {c:Circ}{p:Pat}{nt:Nat->Nat->Nat}{pn:Nat->Nat->Nat->Nat}{o t:List Nat}{i m:Nat}{x:Node} (T:RunS c p nt pn o t i) (hm:o[i]?=some m) (hx:c.nodes[m]?=some x) (he:t.getD m 0=nt m (baseV c p pn t m x)):RunS c p nt pn o t (i+1):=by
 refine⟨T.len,fun j m' x' hj h1 h2=>?_,fun j m' x' hj=>T.todo j m' x' (by omega),T.le⟩
 by_cases e:j=i
 ·subst e
  rw[hm] at h1;cases h1
  rw[hx] at h2;cases h2
  exact he
 ·exact T.done j m' x' (by omega) h1 h2
theorem RunS.sol {c:Circ}{p:Pat}{nt:Nat->Nat->Nat}{pn:Nat->Nat->Nat->Nat}{o t:List Nat} (ho:OrdOk c o) (T:RunS c p nt pn o t o.length):Sol c p nt pn t:=by
 refine⟨T.len,fun i x hx=>?_,T.le⟩
 have hm:i∈o:=ho.perm.mem_iff.2 (List.mem_range.2 (ak hx))
 obtain⟨j,hj,e⟩:=List.getElem_of_mem hm
 exact T.done j i x hj (by rw[List.getElem?_eq_getElem hj,e]) hx
def nI (c:Circ) (pn:Nat->Nat->Nat->Nat) (t:List Nat):Rsp:=⟨c.outs.map fun o=>t.getD o 0,(ofN c [14]).map fun s=>min (pn s 0 (t.getD ((insOf c s).getD 0 0) 0)) 2⟩
def idN:Nat->Nat->Nat:=fun _ v=>v
def idP:Nat->Nat->Nat->Nat:=fun _ _ v=>v
theorem uT {r:SRun}{n:Nat} (hn:n<r.nets.length) (hv:r.nets.getD n 0<=3) {K:Nat->Prop} (h:K (r.nets.getD n 0)):dY r n K:=by
 unfold dY
 refine cg (a:=false) (fun F=>⟨fun q=>absurd (aQ.1 q) (Nat.not_lt_zero _),fun _=>?_⟩) ⟨(fun e=>by cases e),fun _=>⟨_,getD_some hn,vU ?_⟩⟩
 ·rw[show (!ltN n r.nets.length)=false from oT.2 hn];exact F
 ·unfold md;rw[if_neg (by omega)];exact h
theorem bp {c:Circ}{i:Nat}{x:Node} (h:c.nodes[i]?=some x):insOf c i=x.ins:=by unfold insOf;rw[List.getD,List.getElem?_map,h];rfl
theorem wI {c:Circ} (C:Cir c) {t:List Nat} (ht:t.length=c.nodes.length) (hle:∀ i,t.getD i 0<=3) {K:Rsp->Prop} (h:K (nI c idP t)):dL ⟨c,t⟩ K:=by
 have hlen:=C.len
 have hol:=C.good.outsLen
 have l2:=gq c [14]
 unfold dL
 refine aD (fun s=>s.2<=c.outs.length/\s.1=(c.outs.take s.2).map fun o=>t.getD o 0) (fun s=>c.outs.length-s.2) (fun a=>a=c.outs.map fun o=>t.getD o 0) ?_ ⟨Nat.zero_le _,rfl⟩ ?_
 ·rintro k ⟨l,i⟩ nx ⟨hi,hl⟩ hnx hk
  dsimp only at hi hl
  refine⟨fun q=>?_,fun q=>hk _ ?_⟩
  ·have q:i<c.outs.length:=aQ.1 q
   obtain⟨o,ho⟩:=aw q
   obtain⟨e1,e2⟩:=List.getElem?_eq_some_iff.1 ho
   have hon:o<t.length:=by rw[ht];exact C.good.outs o (List.mem_of_getElem? ho)
   refine⟨o,ho,uT (r:=⟨c,t⟩) hon (hle o) ⟨by rw[hl];simp only[List.length_map,List.length_take,List.length_singleton];omega,by omega,hnx _ ⟨q,?_⟩ (by dsimp only;omega)⟩⟩
   dsimp only
   rw[hl,List.take_succ_eq_append_getElem e1,List.map_append,e2]
   rfl
  ·have q:c.outs.length<=i:=bk.1 q
   rw[hl,List.take_of_length_le q]
 rintro _ rfl
 refine dM (jd (show c.nodes.length<2 ^ 40 by omega) ?_)
 refine bl (fun s=>s.2<=(ofN c [14]).length/\s.1=((ofN c [14]).take s.2).map fun s=>min (t.getD ((insOf c s).getD 0 0) 0) 2) (fun s=>(ofN c [14]).length-s.2) ?_ ⟨Nat.zero_le _,rfl⟩
 rintro⟨l,i⟩ nx ⟨hi,hl⟩ hnx
 dsimp only at hi hl
 refine⟨fun q=>?_,fun q=>?_⟩
 ·have q:i<(ofN c [14]).length:=aQ.1 q
  obtain⟨f,hf⟩:=aw q
  obtain⟨e1,e2⟩:=List.getElem?_eq_some_iff.1 hf
  obtain⟨hfn,hfk⟩:=cK.1 (List.mem_of_getElem? hf)
  obtain⟨x,hx⟩:=aw hfn
  rw[dj hx] at hfk
  have hg:=C.good.node f x hx
  have ha:x.ins.length=1:=by have:=hg.arity;rw[hfk] at this;exact nH this
  have hd:=hg.ins (x.ins.getD 0 0) (fD (by omega))
  refine⟨f,hf,dM ⟨x,hx,fun _=>⟨_,getD_some (by omega),uT (r:=⟨c,t⟩) (by rw[ht];exact hd) (hle _) ?_⟩,fun e=>absurd ha (bW.1 e)⟩⟩
  unfold bq
  refine⟨by rw[hl];simp only[List.length_map,List.length_take,List.length_singleton];omega,by omega,hnx _ ⟨q,?_⟩ (by dsimp only;omega)⟩
  dsimp only
  rw[hl,List.take_succ_eq_append_getElem e1,List.map_append,e2]
  simp only[List.map_cons,List.map_nil,bp hx]
 ·have q:(ofN c [14]).length<=i:=bk.1 q
  rw[hl,List.take_of_length_le q]
  exact h
def mJ (c:Circ) (p:Pat) (nt:Nat->Nat->Nat) (pn:Nat->Nat->Nat->Nat):Nat->List Nat
 |0=>[]
 |i+1=>mJ c p nt pn i++[match c.nodes[i]? with|some x=>nt i (baseV c p pn (mJ c p nt pn i) i x) | none=>0]
def sol (c:Circ) (p:Pat) (nt:Nat->Nat->Nat) (pn:Nat->Nat->Nat->Nat):List Nat:=mJ c p nt pn c.nodes.length
theorem fL {c:Circ}{p:Pat}{nt:Nat->Nat->Nat}{pn:Nat->Nat->Nat->Nat}:∀ n,(mJ c p nt pn n).length=n
 |0=>rfl
 |n+1=>by rw[mJ,List.length_append,fL n];rfl
theorem qR {c:Circ}{p:Pat}{nt:Nat->Nat->Nat}{pn:Nat->Nat->Nat->Nat}{i:Nat}:∀ {n},i<n->(mJ c p nt pn n).getD i 0=(mJ c p nt pn (i+1)).getD i 0:=by
 intro n
 induction n with
 |zero=>intro h;omega
 |succ n ih =>
  intro h
  by_cases e:i=n
  ·subst e;rfl
  ·rw[<- ih (by omega)]
   rw[mJ,List.getD,List.getD,List.getElem?_append_left (by rw[fL];omega)]
theorem tf {c:Circ}{p:Pat}{nt:Nat->Nat->Nat}{pn:Nat->Nat->Nat->Nat}{i:Nat}{x:Node} (hx:c.nodes[i]?=some x):(mJ c p nt pn (i+1)).getD i 0=nt i (baseV c p pn (mJ c p nt pn i) i x):=by
 rw[mJ,List.getD,List.getElem?_append_right (by rw[fL];omega),fL,Nat.sub_self,hx]
 rfl
theorem CI {c:Circ}{p:Pat} (hp:PatOk c p) (i:Nat):srcV c p i<=3:=by
 unfold srcV
 have key:∀ (l:List Nat) (j:Nat),(∀ v∈l,v<=3)->l.getD j 0<=3:=by
  intro l j h
  by_cases q:j<l.length
  ·exact h _ (fD q)
  ·rw[List.getD,List.getElem?_eq_none (by omega)];exact Nat.zero_le _
 split
 ·exact key _ _ hp.inpv
 split
 ·exact key _ _ hp.statev
 ·omega
theorem rX {c:Circ}{p:Pat} (hp:PatOk c p) {pn:Nat->Nat->Nat->Nat} (h2:∀ m j v,v<=3->pn m j v<=3) {t:List Nat} (ht:∀ i,t.getD i 0<=3) (i:Nat) (x:Node):baseV c p pn t i x<=3:=by
 unfold baseV
 split
 ·exact qG _ (zR h2 ht)
 ·exact CI hp i
theorem uv {c:Circ}{p:Pat} (hp:PatOk c p) {nt:Nat->Nat->Nat}{pn:Nat->Nat->Nat->Nat} (h1:∀ i v,v<=3->nt i v<=3) (h2:∀ m j v,v<=3->pn m j v<=3):∀ n i,(mJ c p nt pn n).getD i 0<=3
 |0,i=>by rw[mJ];simp
 |n+1,i=>by
  by_cases q:i<n
  ·rw[mJ,List.getD,List.getElem?_append_left (by rw[fL];omega)]
   exact uv hp h1 h2 n i
  by_cases e:i=n
  ·subst e
   cases hx:c.nodes[i]? with
   |none =>
    rw[mJ,List.getD,List.getElem?_append_right (by rw[fL];omega),fL,Nat.sub_self,hx]
    exact Nat.zero_le _
   |some x =>
    rw[tf hx]
    exact h1 _ _ (rX hp h2 (uv hp h1 h2 i) _ _)
  ·rw[List.getD,List.getElem?_eq_none (by rw[fL];omega)]
   exact Nat.zero_le _
theorem rC {c:Circ} (C:Cir c) {p:Pat} (hp:PatOk c p) {nt:Nat->Nat->Nat}{pn:Nat->Nat->Nat->Nat} (h1:∀ i v,v<=3->nt i v<=3) (h2:∀ m j v,v<=3->pn m j v<=3):Sol c p nt pn (sol c p nt pn):=by
 refine⟨fL _,fun i x hx=>?_,uv hp h1 h2 _⟩
 have hi:=ak hx
 unfold sol
 rw[qR hi,tf hx]
 congr 1
 unfold baseV
 split
 ·rename_i hc
  have hc:=of_decide_eq_true hc
  congr 1
  refine iL fun k hk=>?_
  have:=(C.good.node i x hx).acyc hc.1 hc.2 k hk
  rw[qR this,<- qR (n:=c.nodes.length) (by omega)]
 ·rfl
theorem Sol.is {c:Circ} (C:Cir c) {p:Pat} (hp:PatOk c p) {nt:Nat->Nat->Nat}{pn:Nat->Nat->Nat->Nat} (h1:∀ i v,v<=3->nt i v<=3) (h2:∀ m j v,v<=3->pn m j v<=3) {t:List Nat} (T:Sol c p nt pn t):t=sol c p nt pn:=T.eq C (rC C hp h1 h2)
theorem evalNode {c:Circ} (C:Cir c) {m:Nat}{x:Node} (hx:c.nodes[m]?=some x) (hc:combB x.kind=true) {l:List Nat} (hl:l.length=x.ins.length) {K:Nat->Prop} (h:K (eC x.kind l)):ba x.kind l K:=by
 have hc:=of_decide_eq_true hc
 have g:=C.good.node m x hx
 have:=g.few
 exact rh hc.1 (by omega) (by rw[hl];exact g.arity) (by omega) h
theorem vC {c:Circ} (C:Cir c) {p:Pat}{t1 t2:List Nat} (hp:PatOk c p) (l2:t2.length=c.nodes.length) (h1:∀ j f,(ofN c [0])[j]?=some f->t1.getD f 0=p.inp.getD j 0) (h0:∀ f,f ∉ ofN c [0]->t1.getD f 0=(List.replicate c.nodes.length 0).getD f 0)
  (h2:∀ j f,(ofN c [14])[j]?=some f->t2.getD f 0=p.state.getD j 0) (h3:∀ f,f ∉ ofN c [14]->t2.getD f 0=t1.getD f 0) (nt:Nat->Nat->Nat) (pn:Nat->Nat->Nat->Nat) (o:List Nat):RunS c p nt pn o t2 0:=by
 have key:=Ag C hp l2 h1 h2 h3
 refine⟨l2,fun j m x hj=>absurd hj (Nat.not_lt_zero _),fun j m x _ _ hx hc=>(key m x hx hc).1,fun i=>?_⟩
 by_cases q:i<c.nodes.length
 ·obtain⟨x,hx⟩:=aw q
  cases hc:combB x.kind with
  |false=>exact (key i x hx hc).2
  |true =>
   have hc:=of_decide_eq_true hc
   have e:=dj hx
   rw[h3 i (fun m=>by have:=(cK.1 m).2;omega),h0 i (fun m=>by have:=(cK.1 m).2;omega)]
   rw[List.getD,List.getElem?_replicate]
   split <;> decide
 ·rw[List.getD,List.getElem?_eq_none (by omega)];exact Nat.zero_le _
theorem gZ {c:Circ}{p:Pat}{pn:Nat->Nat->Nat->Nat}{t:List Nat}{m:Nat}{x:Node} (hc:combB x.kind=false):baseV c p pn t m x=srcV c p m:=by unfold baseV;rw[hc];rfl
theorem jw {c:Circ}{p:Pat}{pn:Nat->Nat->Nat->Nat}{t:List Nat}{m:Nat}{x:Node} (hc:combB x.kind=true):baseV c p pn t m x=eC x.kind (cc pn t m x):=by unfold baseV;rw[hc];rfl
theorem Di {c:Circ} (C:Cir c) {p:Pat} (hp:PatOk c p) {K:Rsp×List Nat×Nat->Prop} (h:K (nI c idP (sol c p idN idP),sol c p idN idP,0)):cq c p K:=by
 have hlen:=C.len
 have l0:=gq c [0]
 have l2:=gq c [14]
 have hid1:∀ i v,v<=3->idN i v<=3:=fun _ _ h=>h
 have hid2:∀ m j v,v<=3->idP m j v<=3:=fun _ _ _ h=>h
 unfold cq
 refine kc C.good fun o ho=>?_
 refine cg (a:=0) (fun F=>⟨fun _=>CT C hp F,fun q=>by cases q⟩) ?_
 refine⟨(fun q=>by cases q),fun _=>⟨by omega,by omega,?_⟩⟩
 refine dM (nR (by omega) (pV (n:=c.nodes.length) hlen l0 hp.inp (fun f m=>(cK.1 m).1) (hU c [0]) List.length_replicate (fun t i nx ht h1 h2=>nD hlen l0 hp.inp (fun f m=>(cK.1 m).1) ht h1 h2) ?_))
 intro t1 e1 h1 h0
 refine jd (by omega) (pV (n:=c.nodes.length) hlen l2 hp.state (fun f m=>(cK.1 m).1) (hU c [14]) e1 (fun t i nx ht h1 h2=>nD hlen l2 hp.state (fun f m=>(cK.1 m).1) ht h1 h2) ?_)
 intro t2 e2 h2 h3
 have hol:o.length=c.nodes.length:=by have:=ho.perm.length_eq;simpa using this
 refine aD (fun s=>s.2.2.2<=o.length/\s.2.1.length=16/\RunS c p idN idP o s.1 s.2.2.2) (fun s=>o.length-s.2.2.2) (fun t=>t=sol c p idN idP) ?_ ⟨Nat.zero_le _,by simp,vC C hp e2 h1 h0 h2 h3 _ _ _⟩ ?_
 ·rintro k ⟨t,b,n,i⟩ nx ⟨hi,hb,T⟩ hnx hk
  dsimp only at hi hb T
  refine⟨fun q=>?_,fun q=>hk t ?_⟩
  ·have q:i<o.length:=aQ.1 q
   obtain⟨m,hm⟩:=aw q
   have hmn:m<c.nodes.length:=List.mem_range.1 (ho.perm.mem_iff.1 (List.mem_of_getElem? hm))
   obtain⟨x,hx⟩:=aw hmn
   have g:=C.good.node m x hx
   have hfew:=g.few
   refine eU (fun s=>s.2.1.length=16/\RunS c p idN idP o s.1 (i+1)) (fun k' hk'=>?_) ?_
   ·refine⟨m,hm,x,hx,tY ?_⟩
    cases hc:combB x.kind with
    |false =>
     have hc':=of_decide_eq_false hc
     rw[decide_eq_false hc']
     refine⟨fun _=>hk' _ ⟨hb,T.skip hm hx ?_⟩,fun e=>by cases e⟩
     rw[gZ hc,T.todo i m x (Nat.le_refl _) hm hx hc]
     rfl
    |true =>
     have hc':=of_decide_eq_true hc
     rw[decide_eq_true hc']
     refine⟨(fun e=>by cases e),fun _=>⟨by decide,?_⟩⟩
     refine aD (fun s=>s.2.2<=x.ins.length/\s.1.length=16/\s.2.1=s.2.2/\s.1.take s.2.2=(cc idP t m x).take s.2.2) (fun s=>x.ins.length-s.2.2) (fun s=>s.1.length=16/\s.2<=16/\s.1.take s.2=cc idP t m x) ?_ ⟨Nat.zero_le _,hb,rfl,rfl⟩ ?_
     ·rintro k2 ⟨b,n,j⟩ nx2 ⟨hj,hb,hn,ht⟩ hnx2 hk2
      dsimp only at hj hb hn ht
      subst hn
      refine⟨fun q=>?_,fun q=>hk2 _ ?_⟩
      ·have q:n<x.ins.length:=aQ.1 q
       obtain⟨y,hy⟩:=aw q
       have hyn:=g.ins y (List.mem_of_getElem? hy)
       refine⟨y,hy,hyn,_,jf T.len hyn,by omega,by omega,by omega,hnx2 _ ⟨q,?_,rfl,?_⟩ (by dsimp only;omega)⟩
       ·simp only[List.length_append,List.length_take,List.length_drop,List.length_cons,List.length_nil];omega
       ·dsimp only
        have hv:=ju (pn:=idP) (t:=t) (m:=m) hy
        have hl:(b.take n).length=n:=by rw[List.length_take];omega
        rw[List.take_append,hl,show n+1-n=1 from by omega,List.take_of_length_le (by omega),eD hv,ht]
        rfl
      ·have q:x.ins.length<=n:=bk.1 q
       refine⟨hb,by dsimp only;omega,?_⟩
       dsimp only
       rw[ht,List.take_of_length_le (by rw[hZ];exact q)]
     ·rintro⟨b,n⟩ ⟨hb,hn,ht⟩
      dsimp only at hb hn ht
      refine⟨by omega,?_⟩
      rw[ht]
      refine evalNode C hx hc hZ ?_
      refine⟨hmn,_,jf T.len hmn,hk' _ ⟨hb,?_⟩⟩
      have:=T.step ho hm hx (by exact rX hp hid2 T.le _ _)
      rw[jw hc] at this
      exact this
   ·rintro⟨t',b',n'⟩ ⟨hb',T'⟩
    exact⟨by omega,hnx _ ⟨q,hb',T'⟩ (by dsimp only;omega)⟩
  ·have q:o.length<=i:=bk.1 q
   have e:i=o.length:=by omega
   subst e
   exact (T.sol ho).is C hp hid1 hid2
 ·rintro _ rfl
  have S:=rC C hp hid1 hid2
  exact⟨S.len.symm,wI C S.len S.le h⟩
theorem Bn {c:Circ} (C:Cir c) {p:Pat} (hp:PatOk c p) {rest:List Nat->List Nat->List Nat×Nat->Prop}
  (h:∀ t o,OrdOk c o->(∀ nt pn,RunS c p nt pn o t 0)->rest (ofN c [14]) t (o,0)) :
  1*c.nodes.length<=2 ^ 48/\c.nodes.length<2 ^ 63/\aV c (fun r414=>ar (α:=(List Nat)) (fun k416=>bC c (fun r417=>aB (S:=((List Nat)×Nat)) (fun (v418,v419) nx420=>((ltN v419 r417.length)=true->∃ x421,r417[v419]?=some x421/\∃ x422,p.inp[v419]?=some x422/\x421<c.nodes.length/\∃ x423,v418[x421]?=some x423/\v419+1<2 ^ 63/\nx420 ((v418.set x421 x422),(v419+1)))/\((ltN v419 r417.length)=false->k416 v418)) ((List.replicate c.nodes.length (0:Nat)),0))) (fun v415=>ar (α:=(List Nat)) (fun k425=>aB (S:=((List Nat)×Nat)) (fun (v426,v427) nx428=>((ltN v427 r414.length)=true->∃ x429,r414[v427]?=some x429/\∃ x430,p.state[v427]?=some x430/\x429<c.nodes.length/\∃ x431,v426[x429]?=some x431/\v427+1<2 ^ 63/\nx428 ((v426.set x429 x430),(v427+1)))/\((ltN v427 r414.length)=false->k425 v426)) (v415,0)) (fun v424=>aO c (fun r432=>rest r414 v424 r432)))):=by
 have hlen:=C.len
 have l0:=gq c [0]
 have l2:=gq c [14]
 refine⟨by omega,by omega,jd (by omega) (dM (nR (by omega) (pV (n:=c.nodes.length) hlen l0 hp.inp (fun f m=>(cK.1 m).1) (hU c [0]) List.length_replicate (fun t i nx ht h1 h2=>nD hlen l0 hp.inp (fun f m=>(cK.1 m).1) ht h1 h2) ?_)))⟩
 intro t1 e1 h1 h0
 refine dM (pV (n:=c.nodes.length) hlen l2 hp.state (fun f m=>(cK.1 m).1) (hU c [14]) e1 (fun t i nx ht h1 h2=>nD hlen l2 hp.state (fun f m=>(cK.1 m).1) ht h1 h2) ?_)
 intro t2 e2 h2 h3
 exact kc C.good fun o ho=>h t2 o ho fun nt pn=>vC C hp e2 h1 h0 h2 h3 nt pn o
theorem B9 {c:Circ} (C:Cir c) {p:Pat}{nt:Nat->Nat->Nat}{pn:Nat->Nat->Nat->Nat}{o t:List Nat}{i m:Nat}{x:Node} (T:RunS c p nt pn o t i) (hm:o[i]?=some m) (hx:c.nodes[m]?=some x) {RD:(List Nat->Prop)->Prop} (hrd:∀ k,k (cc pn t m x)->RD k) {rest:List Nat->Prop}
  (h:∀ t1,t1.length=c.nodes.length->t1.getD m 0=baseV c p pn t m x->(∀ v,t1.set m v=t.set m v)->rest t1) :
  ar (α:=(List Nat)) (fun k440=>∃ x441,c.nodes[m]?=some x441/\ar (α:=Bool) (fun k443=>((neN x441.kind 0)=true->k443 (neN x441.kind 14))/\((neN x441.kind 0)=false->k443 false)) (fun v442=>(v442=true->∃ x444,c.nodes[m]?=some x444/\ar (α:=(List Nat)) RD (fun v448=>ba x444.kind v448 (fun r463=>m<c.nodes.length/\∃ x464,t[m]?=some x464/\k440 (t.set m r463))))/\(v442=false->k440 t))) rest:=by
 have hmn:=ak hx
 have hk:=C.kinds m x hx
 have e:(neN x.kind 0&&neN x.kind 14)=combB x.kind:=by
  rw[tZ,tZ]
  unfold combB
  rw[Bool.eq_iff_iff]
  simp only[Bool.and_eq_true,decide_eq_true_eq,Bool.not_eq_true',decide_eq_false_iff_not]
  omega
 refine dM ⟨x,hx,cg (a:=combB x.kind) (fun F=>⟨fun q=>?_,fun q=>?_⟩) ⟨fun q=>⟨x,hx,dM (hrd _ (evalNode C hx q hZ ⟨hmn,_,jf T.len hmn,?_⟩))⟩,fun q=>?_⟩⟩
 ·rw[q,Bool.true_and] at e;rw[e];exact F
 ·rw[q,Bool.false_and] at e;rw[<- e] at F;exact F
 ·refine h _ (by rw[List.length_set];exact T.len) ?_ fun v=>by rw[List.set_set]
  rw[ck (by rw[T.len];exact hmn),if_pos rfl,jw q]
 ·refine h t T.len ?_ fun _=>rfl
  rw[gZ q]
  exact T.todo i m x (Nat.le_refl _) hm hx q
theorem rdA {c:Circ} (C:Cir c) {t:List Nat} (ht:t.length=c.nodes.length) {m:Nat}{x:Node} (hx:c.nodes[m]?=some x) (k:List Nat->Prop) (h:k (cc idP t m x)) :
  ∃ x451,c.nodes[m]?=some x451/\aB (S:=((List Nat)×Nat)) (fun (v453,v454) nx456=>((ltN v454 x451.ins.length)=true->∃ x457,x451.ins[v454]?=some x457/\x457<c.nodes.length/\∃ x458,t[x457]?=some x458/\(v453.length+([x458]:(List Nat)).length)*1<=2 ^ 47/\v454+1<2 ^ 63/\nx456 ((v453++([x458]:(List Nat))),(v454+1)))/\((ltN v454 x451.ins.length)=false->k v453)) (([]:List Nat),0):=by
 have g:=C.good.node m x hx
 have hfew:=g.few
 refine⟨x,hx,bl (fun s=>s.2<=x.ins.length/\s.1=(cc idP t m x).take s.2) (fun s=>x.ins.length-s.2) ?_ ⟨Nat.zero_le _,rfl⟩⟩
 rintro⟨l,j⟩ nx ⟨hj,hl⟩ hnx
 dsimp only at hj hl
 refine⟨fun q=>?_,fun q=>?_⟩
 ·have q:j<x.ins.length:=aQ.1 q
  obtain⟨y,hy⟩:=aw q
  have hyn:=g.ins y (List.mem_of_getElem? hy)
  refine⟨y,hy,hyn,_,jf ht hyn,?_,by omega,hnx _ ⟨q,?_⟩ (by dsimp only;omega)⟩
  ·rw[hl];simp only[List.length_take,List.length_cons,List.length_nil,hZ];omega
  ·dsimp only
   rw[hl,eD (ju (pn:=idP) (t:=t) (m:=m) hy)]
   rfl
 ·have q:x.ins.length<=j:=bk.1 q
  rw[hl,List.take_of_length_le (by rw[hZ];exact q)]
  exact h
def sg (a w:Nat):Nat->Nat->Nat:=fun m v=>if m=a then w else v
theorem B8 {c:Circ} (C:Cir c) {t:List Nat} (ht:t.length=c.nodes.length) {rest:List Nat->Prop} (h:rest (c.outs.map fun o=>t.getD o 0)) :
  ar (α:=(List Nat)) (fun k475=>aB (S:=((List Nat)×Nat)) (fun (v477,v478) nx480=>((ltN v478 c.outs.length)=true->∃ x481,c.outs[v478]?=some x481/\x481<c.nodes.length/\∃ x482,t[x481]?=some x482/\(v477.length+([x482]:(List Nat)).length)*1<=2 ^ 47/\v478+1<2 ^ 63/\nx480 ((v477++([x482]:(List Nat))),(v478+1)))/\((ltN v478 c.outs.length)=false->k475 v477)) (([]:List Nat),0)) rest:=by
 have hol:=C.good.outsLen
 refine aD (fun s=>s.2<=c.outs.length/\s.1=(c.outs.take s.2).map fun o=>t.getD o 0) (fun s=>c.outs.length-s.2) (fun a=>a=c.outs.map fun o=>t.getD o 0) ?_ ⟨Nat.zero_le _,rfl⟩ (fun _ e=>e ▸ h)
 rintro k ⟨l,i⟩ nx ⟨hi,hl⟩ hnx hk
 dsimp only at hi hl
 refine⟨fun q=>?_,fun q=>hk _ ?_⟩
 ·have q:i<c.outs.length:=aQ.1 q
  obtain⟨o,ho⟩:=aw q
  have hon:o<c.nodes.length:=C.good.outs o (List.mem_of_getElem? ho)
  refine⟨o,ho,hon,_,jf ht hon,by rw[hl];simp only[List.length_map,List.length_take,List.length_singleton];omega,by omega,hnx _ ⟨q,?_⟩ (by dsimp only;omega)⟩
  dsimp only
  rw[hl,eD ho,List.map_append]
  rfl
 ·have q:c.outs.length<=i:=bk.1 q
  rw[hl,List.take_of_length_le q]
theorem Bb {c:Circ} (C:Cir c) {pn:Nat->Nat->Nat->Nat} (h2:∀ m j v,v<=3->pn m j v<=3) {t:List Nat} (hle:∀ i,t.getD i 0<=3) {RD:Nat->(List Nat->Prop)->Prop} (hrd:∀ m x,c.nodes[m]?=some x->∀ k,k (cc pn t m x)->RD m k) {rest:List Nat->Prop} (h:rest ((ofN c [14]).map fun s=>min (pn s 0 (t.getD ((insOf c s).getD 0 0) 0)) 2)) :
  ar (α:=(List Nat)) (fun k491=>aB (S:=((List Nat)×Nat)) (fun (v493,v494) nx497=>((ltN v494 (ofN c [14]).length)=true->∃ x498,(ofN c [14])[v494]?=some x498/\ar (α:=(List Nat)) (RD x498) (fun v502=>∃ x521,v502[0]?=some x521/\ar (α:=Nat) (fun k526=>((eqN x521 3)=true->k526 2)/\((eqN x521 3)=false->k526 x521)) (fun v523=>(v493.length+([v523]:(List Nat)).length)*1<=2 ^ 47/\v494+1<2 ^ 63/\nx497 ((v493++([v523]:(List Nat))),(v494+1)))))/\((ltN v494 (ofN c [14]).length)=false->k491 v493)) (([]:List Nat),0)) rest:=by
 have hlen:=C.len
 have l2:=gq c [14]
 refine aD (fun s=>s.2<=(ofN c [14]).length/\s.1=((ofN c [14]).take s.2).map fun s=>min (pn s 0 (t.getD ((insOf c s).getD 0 0) 0)) 2) (fun s=>(ofN c [14]).length-s.2) (fun a=>a=(ofN c [14]).map fun s=>min (pn s 0 (t.getD ((insOf c s).getD 0 0) 0)) 2) ?_ ⟨Nat.zero_le _,rfl⟩ (fun _ e=>e ▸ h)
 rintro k ⟨l,i⟩ nx ⟨hi,hl⟩ hnx hk
 dsimp only at hi hl
 refine⟨fun q=>?_,fun q=>hk _ ?_⟩
 ·have q:i<(ofN c [14]).length:=aQ.1 q
  obtain⟨f,hf⟩:=aw q
  obtain⟨hfn,hfk⟩:=cK.1 (List.mem_of_getElem? hf)
  obtain⟨x,hx⟩:=aw hfn
  rw[dj hx] at hfk
  have hg:=C.good.node f x hx
  have ha:x.ins.length=1:=by have:=hg.arity;rw[hfk] at this;exact nH this
  have hy:x.ins[0]?=some (x.ins.getD 0 0):=getD_some (by omega)
  have hv:=h2 f 0 _ (hle (x.ins.getD 0 0))
  refine⟨f,hf,dM (hrd f x hx _ ⟨_,ju hy,?_⟩)⟩
  refine cg (a:=min (pn f 0 (t.getD (x.ins.getD 0 0) 0)) 2) (fun F=>⟨fun q=>?_,fun q=>?_⟩) ⟨by rw[hl];simp only[List.length_map,List.length_take,List.length_singleton];omega,by omega,hnx _ ⟨q,?_⟩ (by dsimp only;omega)⟩
  ·rw[bD.1 q] at F;exact F
  ·have:=bW.1 q
   rw[Nat.min_eq_left (by omega)] at F;exact F
  ·dsimp only
   rw[hl,eD hf,List.map_append]
   simp only[List.map_cons,List.map_nil,bp hx]
 ·have q:(ofN c [14]).length<=i:=bk.1 q
  rw[hl,List.take_of_length_le q]
end Go.Proofs.YtlbeebglhebpjaaGreatDoor
