/-
  X4, Y9, SuspectsLog: parts of the proof.
-/
import Derived.Test.YteceaohcjmbfbaaGreatDoorSc50
namespace Go.Proofs.YteceaohcjmbfbaaGreatDoor
open Go.Abs
set_option maxRecDepth 100000
set_option maxHeartbeats 8000000
def gh (p0:Circ) (p1:Flt) (p2:(List Pat)) (p3:(List Rsp)) (K:(List FailZ)->Prop):Prop :=
 an (α:=(List FailZ)) (fun k5=>av (S:=((List FailZ)×Nat)) (fun (v7,v8) nx10=>((ltN v8 p2.length)=true->an (α:=(List FailZ)) (fun k14=>∃ x15,p2[v8]?=some x15/\inject_Run_wp p0 p1 x15 (fun r18=>∃ x21,p3[v8]?=some x21/\bW x21 r18.1 (fun r22=>an (α:=(List FailZ)) (fun k26=>av (S:=((List FailZ)×Nat)) (fun (v28,v29) nx31=>((ltN v29 r22.1.length)=true->∃ x32,r22.1[v29]?=some x32/\(v28.length+([(⟨(Int.ofNat v8),false,(Int.ofNat x32)⟩:FailZ)]:(List FailZ)).length)*24<=2 ^ 47/\v29+1<2 ^ 63/\nx31 ((v28++([(⟨(Int.ofNat v8),false,(Int.ofNat x32)⟩:FailZ)]:(List FailZ))),(v29+1)))/\((ltN v29 r22.1.length)=false->k26 v28)) (v7,0)) (fun v24=>av (S:=((List FailZ)×Nat)) (fun (v36,v37) nx39=>((ltN v37 r22.2.length)=true->∃ x40,r22.2[v37]?=some x40/\(v36.length+([(⟨(Int.ofNat v8),true,(Int.ofNat x40)⟩:FailZ)]:(List FailZ)).length)*24<=2 ^ 47/\v37+1<2 ^ 63/\nx39 ((v36++([(⟨(Int.ofNat v8),true,(Int.ofNat x40)⟩:FailZ)]:(List FailZ))),(v37+1)))/\((ltN v37 r22.2.length)=false->k14 v36)) (v24,0))))) (fun v12=>v8+1<2 ^ 63/\nx10 (v12,(v8+1))))/\((ltN v8 p2.length)=false->k5 v7)) (([]:List FailZ),0)) (fun v3=>K v3)
theorem mO {p0:Circ}{p1:Flt}{p2:(List Pat)}{p3:(List Rsp)}{K:(List FailZ)->Prop} (hm:gh p0 p1 p2 p3 K) {h0:Heap} (hB:HasB vars h0):∃ r,K r/\CallD Tryz.prog NG 33 ⟨[aA p0,aB p1,(ag 2 bP) p2,(ag 2 bN) p3]⟩ h0 ((gK 3 aq) r) h0:=by
 unfold gh at hm
 refine fw Tryz.func33 hB (enc:=(gK 3 aq)) (fun r=>mJ (fun _=>iE _)) fun O=>?_;conv=>whnf
 refine gX ?_
 refine fz ?_;refine gH ?_
 refine fz ?_;refine gH ?_
 apply Cs;conv=>whnf
 apply Cs;refine gH ?_
 have O:=O.aG (.cells (flatC ((([]:List FailZ)).map aq)) false)
 refine jn (σ:=(List FailZ)×Option Nat) hm 74 [] (fun s=>s.1) (fun (v3,a2) h=>(a2=none->v3=[])/\Own vars h0 [(a2,.cells (flatC (v3.map aq)) false)] h) (fun (v3,a2)=>[(9,(ai 3 a2 (v3.map aq)))]) (fun hm=>?_) ?_
 ·refine gX ?_
  refine lw 74 [3,4,5,21,22] (σ:=((List FailZ)×Nat)×Option Nat) (fun s=>s.1) (fun ((v7,v8),a6) h=>(a6=none->v7=[])/\Own vars h0 [(a6,.cells (flatC (v7.map aq)) false)] h) (fun ((v7,v8),a6)=>[(9,(ai 3 a6 (v7.map aq))),(23,(i64 v8))]) ((([]:List FailZ),0),none) hm ⟨(fun _=>rfl),O⟩ ?_
  clear hm;rintro⟨⟨v7,v8⟩,a6⟩ nx10 base h hm ⟨ha9,O⟩
  refine gX ?_
  refine br hm (fun hm=>?_) fun hm=>?_
  ·apply Cs;conv=>whnf
   refine jn (σ:=(List FailZ)×Option Nat) hm 74 [3,4,5,21,22,23] (fun s=>s.1) (fun (v12,a11) h=>(a11=none->v12=[])/\Own vars h0 [(a11,.cells (flatC (v12.map aq)) false)] h) (fun (v12,a11)=>[(9,(ai 3 a11 (v12.map aq)))]) (fun hm=>?_) ?_
   ·refine gX ?_
    refine atF hm fun x15 hx15 hm=>?_;refine gH ?_
    (first|refine O.new (ah (l:=[nS,nS]) rfl rfl rfl) fun g16 h O=>?_|refine O.bj (ah (l:=[nS,nS]) rfl rfl rfl) fun g16 h O=>?_);refine gH ?_
    refine O.stC 2 (.head _) [((ag 1 n8) x15.inp),((ag 1 n8) x15.state)] fun h O=>?_;refine gX ?_
    refine ldA (O.at (.head _)) ?_;refine gH ?_
    refine ca (gO hm O.has) fun r18 hm=>?_;refine gH ?_
    (first|refine O.new (ah (l:=[nS,nS]) rfl rfl rfl) fun g19 h O=>?_|refine O.bj (ah (l:=[nS,nS]) rfl rfl rfl) fun g19 h O=>?_);refine gH ?_
    refine O.stC 2 (.head _) [((ag 1 n8) r18.1.out),((ag 1 n8) r18.1.next)] fun h O=>?_;refine gX ?_
    refine atF hm fun x21 hx21 hm=>?_;refine gH ?_
    refine dF ?_
    refine gX ?_
    refine ldA (O.at (.head _)) ?_;refine gH ?_
    first|refine⟨.inr (.inr (aT rfl (O.at (.head _)) rfl rfl (lbE rfl) rfl)),?_⟩|refine⟨.inr (.inl (by kernel_rfl)),?_⟩
    refine gX ?_
    refine ca (eV hm O.has) fun r22 hm=>?_;refine gH ?_
    (first|refine⟨.inr (.inr (ae rfl (O.at (.head _)) rfl rfl)),?_⟩|refine⟨.inr (.inr (ae rfl (O.at (.tail _ (.head _))) rfl rfl)),?_⟩|refine⟨.inr (.inr (ae rfl (O.at (.tail _ (.tail _ (.head _)))) rfl rfl)),?_⟩|refine⟨.inr (.inr (ae rfl (O.at (.tail _ (.tail _ (.tail _ (.head _))))) rfl rfl)),?_⟩|refine⟨.inr (.inr (ae rfl (O.at (.tail _ (.tail _ (.tail _ (.tail _ (.head _)))))) rfl rfl)),?_⟩|refine⟨.inr (.inr (ae rfl (O.at (.tail _ (.tail _ (.tail _ (.tail _ (.tail _ (.head _))))))) rfl rfl)),?_⟩|refine⟨.inr (.inr (ae rfl (O.at (.tail _ (.tail _ (.tail _ (.tail _ (.tail _ (.tail _ (.head _)))))))) rfl rfl)),?_⟩|refine⟨.inl (Ext.refl _),?_⟩|refine⟨.inr (.inr rfl),?_⟩|refine⟨.inr (by kernel_rfl),?_⟩|refine⟨.inl (by kernel_rfl),?_⟩|refine id ?_);refine gH ?_
    refine jn (σ:=(List FailZ)×Option Nat) hm 74 [3,4,5,10,16,21,22,23] (fun s=>s.1) (fun (v24,a23) h=>(a23=none->v24=[])/\Own vars h0 [(a23,.cells (flatC (v24.map aq)) false)] h) (fun (v24,a23)=>[(9,(ai 3 a23 (v24.map aq)))]) (fun hm=>?_) ?_
    ·refine gX ?_
     refine lw 74 [3,4,5,10,16,21,22,23,45,46] (σ:=((List FailZ)×Nat)×Option Nat) (fun s=>s.1) (fun ((v28,v29),a27) h=>(a27=none->v28=[])/\Own vars h0 [(a27,.cells (flatC (v28.map aq)) false)] h) (fun ((v28,v29),a27)=>[(9,(ai 3 a27 (v28.map aq))),(47,(i64 v29))]) ((v7,0),a6) hm ⟨ha9,(O.sel [2] (by decide))⟩ ?_
     clear hm;rintro⟨⟨v28,v29⟩,a27⟩ nx31 base h hm ⟨ha30,O⟩
     refine gX ?_
     refine br hm (fun hm=>?_) fun hm=>?_
     ·refine gX ?_
      refine atF hm fun x32 hx32 hm=>?_;refine gX ?_
      refine fz ?_;refine gH ?_
      refine O.apL (enc:=aq) (l:=v28) (new:=([(⟨(Int.ofNat v8),false,(Int.ofNat x32)⟩:FailZ)]:(List FailZ))) 3 (.head _) ha30 hm fun a33 h ha34 O hm=>?_;refine gX ?_
      refine aD hm fun hm=>?_;refine gH ?_
      exact jx (((v28++([(⟨(Int.ofNat v8),false,(Int.ofNat x32)⟩:FailZ)]:(List FailZ))),(v29+1)),a33) hm ⟨ha34,O⟩
     ·refine gX ?_
      exact jx (v28,a27) hm ⟨ha30,O⟩
    ·clear hm;rintro⟨v24,a23⟩ base h hm ⟨ha25,O⟩
     refine gX ?_
     refine lw 74 [3,4,5,10,21,22,23,58,59] (σ:=((List FailZ)×Nat)×Option Nat) (fun s=>s.1) (fun ((v36,v37),a35) h=>(a35=none->v36=[])/\Own vars h0 [(a35,.cells (flatC (v36.map aq)) false)] h) (fun ((v36,v37),a35)=>[(9,(ai 3 a35 (v36.map aq))),(60,(i64 v37))]) ((v24,0),a23) hm ⟨ha25,O⟩ ?_
     clear hm;rintro⟨⟨v36,v37⟩,a35⟩ nx39 base h hm ⟨ha38,O⟩
     refine gX ?_
     refine br hm (fun hm=>?_) fun hm=>?_
     ·refine gX ?_
      refine atF hm fun x40 hx40 hm=>?_;refine gX ?_
      refine fz ?_;refine gH ?_
      refine O.apL (enc:=aq) (l:=v36) (new:=([(⟨(Int.ofNat v8),true,(Int.ofNat x40)⟩:FailZ)]:(List FailZ))) 3 (.head _) ha38 hm fun a41 h ha42 O hm=>?_;refine gX ?_
      refine aD hm fun hm=>?_;refine gH ?_
      exact jx (((v36++([(⟨(Int.ofNat v8),true,(Int.ofNat x40)⟩:FailZ)]:(List FailZ))),(v37+1)),a41) hm ⟨ha42,O⟩
     ·refine gX ?_
      exact jx (v36,a35) hm ⟨ha38,O⟩
   ·clear hm;rintro⟨v12,a11⟩ base h hm ⟨ha13,O⟩
    refine gX ?_
    refine aD hm fun hm=>?_;refine gH ?_
    exact jx ((v12,(v8+1)),a11) hm ⟨ha13,O⟩
  ·refine gX ?_
   exact jx (v7,a6) hm ⟨ha9,O⟩
 ·clear hm;rintro⟨v3,a2⟩ base h hm ⟨ha4,O⟩
  refine gX ?_
  refine fg Tryz.func55 ?_;refine gX ?_
  refine fV (s:=3) (enc:=aq) (l:=v3) (n:=v3.length) (m:=v3.length) rfl rfl rfl rfl rfl rfl rfl ?_;refine gX ?_
  exact⟨v3,hm,O.ext,fun h2 F=>O.yX F (Nat.le_refl _) (.head _) ha4 (fun _=>rfl)⟩
def bE (p0:Circ) (p1:(List Flt)) (p2:(List Pat)) (K:((List (List FailZ))×Nat)->Prop):Prop :=
 cg p0 p1 p2 (fun r1=>((neN r1 0)=true->K ([],r1))/\((neN r1 0)=false->an (α:=(List Rsp)) (fun k6=>av (S:=((List Rsp)×Nat)) (fun (v8,v9) nx11=>((ltN v9 p2.length)=true->∃ x12,p2[v9]?=some x12/\cS p0 x12 (fun r15=>(v8.length+([r15.1]:(List Rsp)).length)*48<=2 ^ 47/\v9+1<2 ^ 63/\nx11 ((v8++([r15.1]:(List Rsp))),(v9+1))))/\((ltN v9 p2.length)=false->k6 v8)) (([]:List Rsp),0)) (fun v4=>24*p1.length<=2 ^ 48/\p1.length<2 ^ 63/\an (α:=(List (List FailZ))) (fun k23=>av (S:=((List (List FailZ))×Nat)) (fun (v24,v25) nx26=>((ltN v25 p1.length)=true->∃ x27,p1[v25]?=some x27/\gh p0 x27 p2 v4 (fun r30=>v25<p1.length/\∃ x31,v24[v25]?=some x31/\v25+1<2 ^ 63/\nx26 ((v24.set v25 r30),(v25+1))))/\((ltN v25 p1.length)=false->k23 v24)) ((List.replicate p1.length ([]:(List FailZ))),0)) (fun v22=>p1.length=v22.length/\K (v22,0)))))
theorem eo {p0:Circ}{p1:(List Flt)}{p2:(List Pat)}{K:((List (List FailZ))×Nat)->Prop} (hm:bE p0 p1 p2 K) {h0:Heap} (hB:HasB vars h0):∃ r,K r/\CallD Tryz.prog NG 14 ⟨[aA p0,(ag 5 aB) p1,(ag 2 bP) p2]⟩ h0 ((fun (r:((List (List FailZ))×Nat))=>Value.tuple ⟨[(gK 1 (gK 3 aq)) (r.1),i64 (r.2)]⟩) r) h0:=by
 unfold bE at hm
 refine fw Tryz.func14 hB (enc:=(fun (r:((List (List FailZ))×Nat))=>Value.tuple ⟨[(gK 1 (gK 3 aq)) (r.1),i64 (r.2)]⟩)) (fun r=>PureV.tup (aj.cons (mJ (fun _=>aj.cons (mJ (fun _=>iE _)) aj.nil)) (aj.cons (PureV.flat rfl) (aj.nil)))) fun O=>?_;conv=>whnf
 refine gX ?_
 refine fz ?_;refine gX ?_
 refine ca (gQ hm O.has) fun r1 hm=>?_;refine gX ?_
 refine br hm (fun hm=>?_) fun hm=>?_
 ·refine gX ?_
  exact⟨([],r1),hm,O.ext,fun h2 F=>VLe.tup (LLe.cons (VLe.yf _ _ _) (LLe.cons (VLe.refl _ _) (LLe.nil _)))⟩
 ·apply Cs;conv=>whnf
  apply Cs;conv=>whnf
  apply Cs;refine gH ?_
  have O:=O.aG (.cells (flatC ((([]:List Rsp)).map bN)) false)
  refine jn (σ:=(List Rsp)×Option Nat) hm 63 [1,2,3] (fun s=>s.1) (fun (v4,a3) h=>(a3=none->v4=[])/\Own vars h0 [(a3,.cells (flatC (v4.map bN)) false)] h) (fun (v4,a3)=>[(9,(ai 2 a3 (v4.map bN)))]) (fun hm=>?_) ?_
  ·refine gX ?_
   refine lw 63 [1,2,3,25,26] (σ:=((List Rsp)×Nat)×Option Nat) (fun s=>s.1) (fun ((v8,v9),a7) h=>(a7=none->v8=[])/\Own vars h0 [(a7,.cells (flatC (v8.map bN)) false)] h) (fun ((v8,v9),a7)=>[(9,(ai 2 a7 (v8.map bN))),(27,(i64 v9))]) ((([]:List Rsp),0),none) hm ⟨(fun _=>rfl),O⟩ ?_
   clear hm;rintro⟨⟨v8,v9⟩,a7⟩ nx11 base h hm ⟨ha10,O⟩
   refine gX ?_
   refine br hm (fun hm=>?_) fun hm=>?_
   ·refine gX ?_
    refine atF hm fun x12 hx12 hm=>?_;refine gH ?_
    (first|refine O.new (ah (l:=[nS,nS]) rfl rfl rfl) fun g13 h O=>?_|refine O.bj (ah (l:=[nS,nS]) rfl rfl rfl) fun g13 h O=>?_);refine gH ?_
    refine O.stC 2 (.head _) [((ag 1 n8) x12.inp),((ag 1 n8) x12.state)] fun h O=>?_;refine gX ?_
    refine ldA (O.at (.head _)) ?_;refine gH ?_
    refine ca (gk hm O.has) fun r15 hm=>?_;refine gH ?_
    (first|refine O.new (ah (l:=[nS,nS]) rfl rfl rfl) fun g16 h O=>?_|refine O.bj (ah (l:=[nS,nS]) rfl rfl rfl) fun g16 h O=>?_);refine gH ?_
    refine O.stC 2 (.head _) [((ag 1 n8) r15.1.out),((ag 1 n8) r15.1.next)] fun h O=>?_;refine gX ?_
    refine ldA (O.at (.head _)) ?_;refine gH ?_
    refine fz ?_;refine gH ?_
    refine O.apL (enc:=bN) (l:=v8) (new:=([r15.1]:(List Rsp))) 2 (.tail _ (.tail _ (.head _))) ha10 hm fun a18 h ha19 O hm=>?_;refine gX ?_
    refine aD hm fun hm=>?_;refine gH ?_
    exact jx (((v8++([r15.1]:(List Rsp))),(v9+1)),a18) hm ⟨ha19,(O.sel [2] (by decide))⟩
   ·refine gX ?_
    exact jx (v8,a7) hm ⟨ha10,O⟩
  ·clear hm;rintro⟨v4,a3⟩ base h hm ⟨ha5,O⟩
   conv=>whnf
   apply Cs;conv=>whnf
   refine CodeS.wZ O (.head _) ha5 (fun _=>rfl) (t:=9) rfl rfl fun h O=>?_;refine gX ?_
   refine O.mkL (enc:=fun _:Unit=>Value.slice none 0 0) 24 1 () hm fun g20 h O hm=>?_;refine gH ?_
   refine CodeS.tH (cs':=flatC ((List.replicate p1.length ([]:(List FailZ))).map (gK 3 aq))) O (.head _) (t2:=15) rfl rfl (B1 ..) fun h O=>?_
   refine jn hm 63 [15] (fun s=>s) (fun v22 h=>Own vars h0 [(sC g20 (flatC (v22.map (gK 3 aq))))] h) (fun v22=>[]) (fun hm=>?_) ?_
   ·refine gX ?_
    refine lw 63 [2,3,9,15,46,47] (σ:=((List (List FailZ))×Nat)) (fun s=>s) (fun (v24,v25) h=>Own vars h0 [(sC g20 (flatC (v24.map (gK 3 aq))))] h) (fun (v24,v25)=>[(48,(i64 v25))]) ((List.replicate p1.length ([]:(List FailZ))),0) hm (O.sel [0] (by decide)) ?_
    clear hm;rintro⟨v24,v25⟩ nx26 base h hm O
    refine gX ?_
    refine br hm (fun hm=>?_) fun hm=>?_
    ·refine gX ?_
     refine atF hm fun x27 hx27 hm=>?_;refine gH ?_
     (first|refine O.new (ah (l:=[(n8 0),(i64 0),(i64 0),(n8 0),(i64 0)]) rfl rfl rfl) fun g28 h O=>?_|refine O.bj (ah (l:=[(n8 0),(i64 0),(i64 0),(n8 0),(i64 0)]) rfl rfl rfl) fun g28 h O=>?_);refine gH ?_
     refine O.stC 5 (.head _) [(n8 x27.model),(i64 x27.line.node),(z64 x27.line.pin),(n8 x27.value),(i64 x27.other)] fun h O=>?_;refine gX ?_
     refine ldA (O.at (.head _)) ?_;refine gH ?_
     refine ca (mO hm O.has) fun r30 hm=>?_;refine gH ?_
     refine ix 1 hm fun x31 hx31 hm=>?_;refine gH ?_
     refine O.stE 1 (.tail _ (.head _)) hx31 r30 fun h O=>?_;refine gX ?_
     refine aD hm fun hm=>?_;refine gH ?_
     exact jx ((v24.set v25 r30),(v25+1)) hm (O.sel [1] (by decide))
    ·refine gX ?_
     exact jx v24 hm O
   ·clear hm;rintro v22 base h hm O
    refine gX ?_
    obtain⟨hn32,hm⟩:=hm
    exact⟨(v22,0),hm,O.ext,fun h2 F=>VLe.tup (LLe.cons (VLe.toC (O.fP F (Nat.le_refl _) (.head _) (fun _=>rfl) hn32) (hn32.trans (List.length_map ..).symm)) (LLe.cons (VLe.refl _ _) (LLe.nil _)))⟩
def ec (p0:Circ) (p1:Flt) (p2:(List Pat)) (K:((List FailZ)×Nat)->Prop):Prop :=
 bE p0 ([p1]:(List Flt)) p2 (fun r1=>((neN r1.2 0)=true->K ([],r1.2))/\((neN r1.2 0)=false->∃ x2,r1.1[0]?=some x2/\K (x2,0)))
theorem mQ {p0:Circ}{p1:Flt}{p2:(List Pat)}{K:((List FailZ)×Nat)->Prop} (hm:ec p0 p1 p2 K) {h0:Heap} (hB:HasB vars h0):∃ r,K r/\CallD Tryz.prog NG 15 ⟨[aA p0,aB p1,(ag 2 bP) p2]⟩ h0 ((fun (r:((List FailZ)×Nat))=>Value.tuple ⟨[(gK 3 aq) (r.1),i64 (r.2)]⟩) r) h0:=by
 unfold ec at hm
 refine fw Tryz.func15 hB (enc:=(fun (r:((List FailZ)×Nat))=>Value.tuple ⟨[(gK 3 aq) (r.1),i64 (r.2)]⟩)) (fun r=>PureV.tup (aj.cons (mJ (fun _=>iE _)) (aj.cons (PureV.flat rfl) (aj.nil)))) fun O=>?_;conv=>whnf
 refine gX ?_
 refine fz ?_;refine gH ?_
 refine fz ?_;refine gX ?_
 refine fz ?_;refine gH ?_
 refine ca (eo hm O.has) fun r1 hm=>?_;refine gX ?_
 refine br hm (fun hm=>?_) fun hm=>?_
 ·refine gX ?_
  exact⟨([],r1.2),hm,O.ext,fun h2 F=>VLe.tup (LLe.cons (VLe.yf _ _ _) (LLe.cons (VLe.refl _ _) (LLe.nil _)))⟩
 ·refine gX ?_
  refine atC hm fun x2 hx2 hm=>?_;refine gX ?_
  exact⟨(x2,0),hm,O.ext,fun h2 F=>VLe.tup (LLe.cons (VLe.refl _ _) (LLe.cons (VLe.refl _ _) (LLe.nil _)))⟩
def bp (p0:CaseD) (K:Bool->Prop):Prop :=
 (min p0.f.length 20)<=p0.f.length/\(min p0.p.length 40)<=p0.p.length/\cp (⟨(⟨p0.c.inp,p0.c.dffs,p0.c.data0,p0.c.data1,p0.c.bus,p0.c.mem,p0.c.port0,p0.c.port1,p0.c.port2,p0.c.port3,p0.c.gates,p0.c.outs⟩:CData),(p0.f.take (min p0.f.length 20)),(p0.p.take (min p0.p.length 40))⟩:CaseD) (fun r3=>bE r3.1 r3.2.1 r3.2.2 (fun r6=>an (α:=Bool) (fun k8=>((neN r6.2 0)=true->k8 true)/\((neN r6.2 0)=false->((neN r6.1.length r3.2.1.length)=true->k8 true)/\((neN r6.1.length r3.2.1.length)=false->k8 (neN r6.1.length r6.1.length)))) (fun v7=>(v7=true->K false)/\(v7=false->an (α:=Unit) (fun k9=>av (S:=Nat) (fun v10 nx11=>((ltN v10 r3.2.1.length)=true->∃ x12,r3.2.1[v10]?=some x12/\ec r3.1 x12 r3.2.2 (fun r13=>an (α:=Bool) (fun k15=>((neN r13.2 0)=true->k15 true)/\((neN r13.2 0)=false->∃ x16,r6.1[v10]?=some x16/\((neN r13.1.length x16.length)=true->k15 true)/\((neN r13.1.length x16.length)=false->((neN r13.1.length r13.1.length)=true->k15 true)/\((neN r13.1.length r13.1.length)=false->∃ x17,r6.1[v10]?=some x17/\∃ x18,r6.1[v10]?=some x18/\k15 (neN x17.length x18.length))))) (fun v14=>(v14=true->K false)/\(v14=false->an (α:=Nat) (fun k20=>av (S:=(Nat×Nat)) (fun (v21,v22) nx23=>((ltN v22 r3.2.2.length)=true->an (α:=Nat) (fun k25=>∃ x26,r3.2.2[v22]?=some x26/\cS r3.1 x26 (fun r27=>∃ x30,r3.2.1[v10]?=some x30/\∃ x31,r3.2.2[v22]?=some x31/\inject_Run_wp r3.1 x30 x31 (fun r32=>an (α:=Bool) (fun k36=>((neN r27.2.2 0)=true->k36 true)/\((neN r27.2.2 0)=false->k36 (neN r32.2.2 0))) (fun v35=>(v35=true->K false)/\(v35=false->bW r27.1 r32.1 (fun r37=>av (S:=(Nat×Nat)) (fun (v38,v39) nx40=>r37.1.length+r37.2.length<2 ^ 63/\((ltN v39 (r37.1.length+r37.2.length))=true->an (α:=(Bool×Nat)) (fun k45=>((ltN v39 r37.1.length)=true->∃ x46,r37.1[v39]?=some x46/\k45 (false,x46))/\((ltN v39 r37.1.length)=false->r37.1.length<=v39/\v39<2 ^ 63/\∃ x47,r37.2[(v39-r37.1.length)]?=some x47/\k45 (true,x47))) (fun (v43,v44)=>an (α:=Bool) (fun k49=>((!ltN v38 r13.1.length)=true->k49 true)/\((!ltN v38 r13.1.length)=false->∃ x50,r13.1[v38]?=some x50/\((!((eqZ x50.test (Int.ofNat v22))&&((x50.next==v43)&&((eqZ x50.index (Int.ofNat v44))&&true))))=true->k49 true)/\((!((eqZ x50.test (Int.ofNat v22))&&((x50.next==v43)&&((eqZ x50.index (Int.ofNat v44))&&true))))=false->∃ x51,r6.1[v10]?=some x51/\∃ x52,x51[v38]?=some x52/\k49 (!((eqZ x52.test (Int.ofNat v22))&&((x52.next==v43)&&((eqZ x52.index (Int.ofNat v44))&&true))))))) (fun v48=>(v48=true->K false)/\(v48=false->v38+1<2 ^ 63/\v39+1<2 ^ 63/\nx40 ((v38+1),(v39+1))))))/\((ltN v39 (r37.1.length+r37.2.length))=false->k25 v38)) (v21,0))))))) (fun v24=>v22+1<2 ^ 63/\nx23 (v24,(v22+1))))/\((ltN v22 r3.2.2.length)=false->k20 v21)) (0,0)) (fun v19=>((neN v19 r13.1.length)=true->K false)/\((neN v19 r13.1.length)=false->v10+1<2 ^ 63/\nx11 (v10+1)))))))/\((ltN v10 r3.2.1.length)=false->k9 ())) 0) (fun _=>bF  (fun r53=>K r53))))))
theorem fT {p0:CaseD}{K:Bool->Prop} (hm:bp p0 K) {h0:Heap} (hB:HasB vars h0):∃ r,K r/\CallD Tryz.prog NG 5 ⟨[pJ p0]⟩ h0 (Value.bool r) h0:=by
 unfold bp at hm
 refine fw Tryz.func5 hB (enc:=Value.bool) (fun r=>PureV.flat rfl) fun O=>?_;conv=>whnf
 refine gX ?_
 (first|refine O.new (lM rfl) fun g1 h O=>?_|refine O.bj (lM rfl) fun g1 h O=>?_);refine gH ?_
 refine gX ?_
 refine⟨_,Am (a:=p0.f.length) (b:=20) rfl rfl,?_⟩;refine gH ?_
 refine Ck (s:=5) (enc:=wD) (l:=p0.f) (k:=(min p0.f.length 20)) rfl rfl rfl rfl hm.1 ?_;refine gH ?_
 replace hm:=hm.2
 refine O.stC 1 (.head _) [(n8 p0.c.inp),(n8 p0.c.dffs),(n8 p0.c.data0),(n8 p0.c.data1),(.bool p0.c.bus),(.bool p0.c.mem),(n8 p0.c.port0),(n8 p0.c.port1),(n8 p0.c.port2),(n8 p0.c.port3),((ag 4 rS) p0.c.gates),((ag 1 n8) p0.c.outs),((ag 5 wD) (p0.f.take (min p0.f.length 20))),((ag 2 vG) p0.p)] fun h O=>?_;refine gX ?_
 refine⟨_,Am (a:=p0.p.length) (b:=40) rfl rfl,?_⟩;refine gH ?_
 refine Ck (s:=2) (enc:=vG) (l:=p0.p) (k:=(min p0.p.length 40)) rfl rfl rfl rfl hm.1 ?_;refine gH ?_
 replace hm:=hm.2
 refine O.stC 1 (.head _) [(n8 p0.c.inp),(n8 p0.c.dffs),(n8 p0.c.data0),(n8 p0.c.data1),(.bool p0.c.bus),(.bool p0.c.mem),(n8 p0.c.port0),(n8 p0.c.port1),(n8 p0.c.port2),(n8 p0.c.port3),((ag 4 rS) p0.c.gates),((ag 1 n8) p0.c.outs),((ag 5 wD) (p0.f.take (min p0.f.length 20))),((ag 2 vG) (p0.p.take (min p0.p.length 40)))] fun h O=>?_;refine gX ?_
 refine ldA (O.at (.head _)) ?_;refine gH ?_
 refine ca (mM hm O.has) fun r3 hm=>?_;refine gH ?_
 (first|refine O.new (ah (l:=[nS,nS,nS,nS]) rfl rfl rfl) fun g4 h O=>?_|refine O.bj (ah (l:=[nS,nS,nS,nS]) rfl rfl rfl) fun g4 h O=>?_);refine gH ?_
 refine O.stC 4 (.head _) [((ag 4 al) r3.1.nodes),((ag 1 Value.string) r3.1.names),((ag 3 aw) r3.1.mems),((ag 1 i64) r3.1.outs)] fun h O=>?_;refine gX ?_
 refine ldA (O.at (.head _)) ?_;refine gH ?_
 refine ca (eo hm O.has) fun r6 hm=>?_;refine gH ?_
 apply Cs;conv=>whnf
 refine jn hm 217 [3,4,5,6] (fun s=>s) (fun v7 h=>Own vars h0 [(sC g4 [((ag 4 al) r3.1.nodes),((ag 1 Value.string) r3.1.names),((ag 3 aw) r3.1.mems),((ag 1 i64) r3.1.outs)])] h) (fun v7=>[(67,(.bool v7))]) (fun hm=>?_) ?_
 ·refine gX ?_
  refine br hm (fun hm=>?_) fun hm=>?_
  ·refine gX ?_
   refine bt ?_;refine gH ?_
   exact jx true hm (O.sel [0] (by decide))
  ·refine gX ?_
   refine lmC ?_;refine gH ?_
   refine br hm (fun hm=>?_) fun hm=>?_
   ·refine gX ?_
    exact jx true hm (O.sel [0] (by decide))
   ·refine gX ?_
    refine cpC ?_;refine gH ?_
    refine lmC ?_;refine gH ?_
    exact jx (neN r6.1.length r6.1.length) hm (O.sel [0] (by decide))
 ·clear hm;rintro v7 base h hm O
  refine gX ?_
  refine br hm (fun hm=>?_) fun hm=>?_
  ·refine gX ?_
   exact fe hm O
  ·apply Cs;conv=>whnf
   refine jn hm 217 [] (fun s=>s) (fun _ h=>Own vars h0 [] h) (fun _=>[]) (fun hm=>?_) ?_
   ·refine gX ?_
    refine lw 217 [3,4,5,6] (σ:=Nat) (fun s=>s) (fun v10 h=>Own vars h0 [(sC g4 [((ag 4 al) r3.1.nodes),((ag 1 Value.string) r3.1.names),((ag 3 aw) r3.1.mems),((ag 1 i64) r3.1.outs)])] h) (fun v10=>[(8,(i64 v10))]) 0 hm O ?_
    clear hm;rintro v10 nx11 base h hm O
    refine gX ?_
    refine br hm (fun hm=>?_) fun hm=>?_
    ·refine gX ?_
     refine ldA (O.at (.head _)) ?_;refine gH ?_
     first|refine⟨.inr (.inr (aT rfl (O.at (.head _)) rfl rfl (lbE rfl) rfl)),?_⟩|refine⟨.inr (.inl (by kernel_rfl)),?_⟩
     refine gX ?_
     refine atF hm fun x12 hx12 hm=>?_;refine gH ?_
     refine dF ?_
     refine gX ?_
     refine ca (mQ hm O.has) fun r13 hm=>?_;refine gH ?_
     (first|refine⟨.inr (.inr (ae rfl (O.at (.head _)) rfl rfl)),?_⟩|refine⟨.inr (.inr (ae rfl (O.at (.tail _ (.head _))) rfl rfl)),?_⟩|refine⟨.inr (.inr (ae rfl (O.at (.tail _ (.tail _ (.head _)))) rfl rfl)),?_⟩|refine⟨.inr (.inr (ae rfl (O.at (.tail _ (.tail _ (.tail _ (.head _))))) rfl rfl)),?_⟩|refine⟨.inr (.inr (ae rfl (O.at (.tail _ (.tail _ (.tail _ (.tail _ (.head _)))))) rfl rfl)),?_⟩|refine⟨.inr (.inr (ae rfl (O.at (.tail _ (.tail _ (.tail _ (.tail _ (.tail _ (.head _))))))) rfl rfl)),?_⟩|refine⟨.inr (.inr (ae rfl (O.at (.tail _ (.tail _ (.tail _ (.tail _ (.tail _ (.tail _ (.head _)))))))) rfl rfl)),?_⟩|refine⟨.inl (Ext.refl _),?_⟩|refine⟨.inr (.inr rfl),?_⟩|refine⟨.inr (by kernel_rfl),?_⟩|refine⟨.inl (by kernel_rfl),?_⟩|refine id ?_);refine gH ?_
     apply Cs;conv=>whnf
     refine jn hm 217 [3,4,5,6,8,9] (fun s=>s) (fun v14 h=>Own vars h0 [(sC g4 [((ag 4 al) r3.1.nodes),((ag 1 Value.string) r3.1.names),((ag 3 aw) r3.1.mems),((ag 1 i64) r3.1.outs)])] h) (fun v14=>[(115,(.bool v14))]) (fun hm=>?_) ?_
     ·refine gX ?_
      refine br hm (fun hm=>?_) fun hm=>?_
      ·refine gX ?_
       refine bt ?_;refine gH ?_
       refine bt ?_;refine gH ?_
       exact jx true hm O
      ·refine gX ?_
       refine lmC ?_;refine gH ?_
       refine atC hm fun x16 hx16 hm=>?_;refine gH ?_
       refine dF ?_
       refine gX ?_
       refine lmC ?_;refine gH ?_
       refine br hm (fun hm=>?_) fun hm=>?_
       ·refine gX ?_
        refine bt ?_;refine gH ?_
        exact jx true hm O
       ·refine gX ?_
        refine cpC ?_;refine gH ?_
        refine lmC ?_;refine gH ?_
        refine br hm (fun hm=>?_) fun hm=>?_
        ·refine gX ?_
         exact jx true hm O
        ·refine gX ?_
         refine atC hm fun x17 hx17 hm=>?_;refine gH ?_
         refine dF ?_
         refine gX ?_
         refine cpC ?_;refine gH ?_
         refine atC hm fun x18 hx18 hm=>?_;refine gH ?_
         refine dF ?_
         refine gX ?_
         refine lmC ?_;refine gH ?_
         exact jx (neN x17.length x18.length) hm O
     ·clear hm;rintro v14 base h hm O
      refine gX ?_
      refine br hm (fun hm=>?_) fun hm=>?_
      ·refine gX ?_
       exact fe hm O
      ·apply Cs;conv=>whnf
       apply Cs;conv=>whnf
       apply Cs;refine gH ?_
       refine jn hm 217 [3,4,5,6,8,9] (fun s=>s) (fun v19 h=>Own vars h0 [(sC g4 [((ag 4 al) r3.1.nodes),((ag 1 Value.string) r3.1.names),((ag 3 aw) r3.1.mems),((ag 1 i64) r3.1.outs)])] h) (fun v19=>[(11,(i64 v19))]) (fun hm=>?_) ?_
       ·refine gX ?_
        refine lw 217 [3,4,5,6,8,9] (σ:=(Nat×Nat)) (fun s=>s) (fun (v21,v22) h=>Own vars h0 [(sC g4 [((ag 4 al) r3.1.nodes),((ag 1 Value.string) r3.1.names),((ag 3 aw) r3.1.mems),((ag 1 i64) r3.1.outs)])] h) (fun (v21,v22)=>[(11,(i64 v21)),(12,(i64 v22))]) (0,0) hm O ?_
        clear hm;rintro⟨v21,v22⟩ nx23 base h hm O
        refine gX ?_
        refine br hm (fun hm=>?_) fun hm=>?_
        ·apply Cs;conv=>whnf
         refine jn hm 217 [3,4,5,6,8,9,12] (fun s=>s) (fun v24 h=>Own vars h0 [(sC g4 [((ag 4 al) r3.1.nodes),((ag 1 Value.string) r3.1.names),((ag 3 aw) r3.1.mems),((ag 1 i64) r3.1.outs)])] h) (fun v24=>[(11,(i64 v24))]) (fun hm=>?_) ?_
         ·refine gX ?_
          refine ldA (O.at (.head _)) ?_;refine gH ?_
          first|refine⟨.inr (.inr (aT rfl (O.at (.head _)) rfl rfl (lbE rfl) rfl)),?_⟩|refine⟨.inr (.inl (by kernel_rfl)),?_⟩
          refine gX ?_
          refine atF hm fun x26 hx26 hm=>?_;refine gH ?_
          refine dF ?_
          refine gX ?_
          refine ca (gk hm O.has) fun r27 hm=>?_;refine gH ?_
          (first|refine⟨.inr (.inr (ae rfl (O.at (.head _)) rfl rfl)),?_⟩|refine⟨.inr (.inr (ae rfl (O.at (.tail _ (.head _))) rfl rfl)),?_⟩|refine⟨.inr (.inr (ae rfl (O.at (.tail _ (.tail _ (.head _)))) rfl rfl)),?_⟩|refine⟨.inr (.inr (ae rfl (O.at (.tail _ (.tail _ (.tail _ (.head _))))) rfl rfl)),?_⟩|refine⟨.inr (.inr (ae rfl (O.at (.tail _ (.tail _ (.tail _ (.tail _ (.head _)))))) rfl rfl)),?_⟩|refine⟨.inr (.inr (ae rfl (O.at (.tail _ (.tail _ (.tail _ (.tail _ (.tail _ (.head _))))))) rfl rfl)),?_⟩|refine⟨.inr (.inr (ae rfl (O.at (.tail _ (.tail _ (.tail _ (.tail _ (.tail _ (.tail _ (.head _)))))))) rfl rfl)),?_⟩|refine⟨.inl (Ext.refl _),?_⟩|refine⟨.inr (.inr rfl),?_⟩|refine⟨.inr (by kernel_rfl),?_⟩|refine⟨.inl (by kernel_rfl),?_⟩|refine id ?_);refine gH ?_
          (first|refine O.new (ah (l:=[nS,nS]) rfl rfl rfl) fun g28 h O=>?_|refine O.bj (ah (l:=[nS,nS]) rfl rfl rfl) fun g28 h O=>?_);refine gH ?_
          refine O.stC 2 (.head _) [((ag 1 n8) r27.1.out),((ag 1 n8) r27.1.next)] fun h O=>?_;refine gH ?_
          (first|refine⟨.inr (.inr (ae rfl (O.at (.head _)) rfl rfl)),?_⟩|refine⟨.inr (.inr (ae rfl (O.at (.tail _ (.head _))) rfl rfl)),?_⟩|refine⟨.inr (.inr (ae rfl (O.at (.tail _ (.tail _ (.head _)))) rfl rfl)),?_⟩|refine⟨.inr (.inr (ae rfl (O.at (.tail _ (.tail _ (.tail _ (.head _))))) rfl rfl)),?_⟩|refine⟨.inr (.inr (ae rfl (O.at (.tail _ (.tail _ (.tail _ (.tail _ (.head _)))))) rfl rfl)),?_⟩|refine⟨.inr (.inr (ae rfl (O.at (.tail _ (.tail _ (.tail _ (.tail _ (.tail _ (.head _))))))) rfl rfl)),?_⟩|refine⟨.inr (.inr (ae rfl (O.at (.tail _ (.tail _ (.tail _ (.tail _ (.tail _ (.tail _ (.head _)))))))) rfl rfl)),?_⟩|refine⟨.inl (Ext.refl _),?_⟩|refine⟨.inr (.inr rfl),?_⟩|refine⟨.inr (by kernel_rfl),?_⟩|refine⟨.inl (by kernel_rfl),?_⟩|refine id ?_);refine gH ?_
          refine gX ?_
          refine ldA (O.at (.tail _ (.head _))) ?_;refine gH ?_
          first|refine⟨.inr (.inr (aT rfl (O.at (.tail _ (.head _))) rfl rfl (lbE rfl) rfl)),?_⟩|refine⟨.inr (.inl (by kernel_rfl)),?_⟩
          refine gX ?_
          refine atF hm fun x30 hx30 hm=>?_;refine gH ?_
          refine dF ?_
          refine gX ?_
          refine atF hm fun x31 hx31 hm=>?_;refine gH ?_
          refine dF ?_
          refine gX ?_
          refine ca (gO hm O.has) fun r32 hm=>?_;refine gH ?_
          (first|refine⟨.inr (.inr (ae rfl (O.at (.head _)) rfl rfl)),?_⟩|refine⟨.inr (.inr (ae rfl (O.at (.tail _ (.head _))) rfl rfl)),?_⟩|refine⟨.inr (.inr (ae rfl (O.at (.tail _ (.tail _ (.head _)))) rfl rfl)),?_⟩|refine⟨.inr (.inr (ae rfl (O.at (.tail _ (.tail _ (.tail _ (.head _))))) rfl rfl)),?_⟩|refine⟨.inr (.inr (ae rfl (O.at (.tail _ (.tail _ (.tail _ (.tail _ (.head _)))))) rfl rfl)),?_⟩|refine⟨.inr (.inr (ae rfl (O.at (.tail _ (.tail _ (.tail _ (.tail _ (.tail _ (.head _))))))) rfl rfl)),?_⟩|refine⟨.inr (.inr (ae rfl (O.at (.tail _ (.tail _ (.tail _ (.tail _ (.tail _ (.tail _ (.head _)))))))) rfl rfl)),?_⟩|refine⟨.inl (Ext.refl _),?_⟩|refine⟨.inr (.inr rfl),?_⟩|refine⟨.inr (by kernel_rfl),?_⟩|refine⟨.inl (by kernel_rfl),?_⟩|refine id ?_);refine gH ?_
          (first|refine O.new (ah (l:=[nS,nS]) rfl rfl rfl) fun g33 h O=>?_|refine O.bj (ah (l:=[nS,nS]) rfl rfl rfl) fun g33 h O=>?_);refine gH ?_
          refine O.stC 2 (.head _) [((ag 1 n8) r32.1.out),((ag 1 n8) r32.1.next)] fun h O=>?_;refine gH ?_
          (first|refine⟨.inr (.inr (ae rfl (O.at (.head _)) rfl rfl)),?_⟩|refine⟨.inr (.inr (ae rfl (O.at (.tail _ (.head _))) rfl rfl)),?_⟩|refine⟨.inr (.inr (ae rfl (O.at (.tail _ (.tail _ (.head _)))) rfl rfl)),?_⟩|refine⟨.inr (.inr (ae rfl (O.at (.tail _ (.tail _ (.tail _ (.head _))))) rfl rfl)),?_⟩|refine⟨.inr (.inr (ae rfl (O.at (.tail _ (.tail _ (.tail _ (.tail _ (.head _)))))) rfl rfl)),?_⟩|refine⟨.inr (.inr (ae rfl (O.at (.tail _ (.tail _ (.tail _ (.tail _ (.tail _ (.head _))))))) rfl rfl)),?_⟩|refine⟨.inr (.inr (ae rfl (O.at (.tail _ (.tail _ (.tail _ (.tail _ (.tail _ (.tail _ (.head _)))))))) rfl rfl)),?_⟩|refine⟨.inl (Ext.refl _),?_⟩|refine⟨.inr (.inr rfl),?_⟩|refine⟨.inr (by kernel_rfl),?_⟩|refine⟨.inl (by kernel_rfl),?_⟩|refine id ?_);refine gH ?_
          apply Cs;conv=>whnf
          refine jn hm 217 [3,4,5,6,8,9,11,12,13,16] (fun s=>s) (fun v35 h=>Own vars h0 [(sC g4 [((ag 4 al) r3.1.nodes),((ag 1 Value.string) r3.1.names),((ag 3 aw) r3.1.mems),((ag 1 i64) r3.1.outs)]),(sC g28 [((ag 1 n8) r27.1.out),((ag 1 n8) r27.1.next)]),(sC g33 [((ag 1 n8) r32.1.out),((ag 1 n8) r32.1.next)])] h) (fun v35=>[(151,(.bool v35))]) (fun hm=>?_) ?_
          ·refine gX ?_
           refine br hm (fun hm=>?_) fun hm=>?_
           ·refine gX ?_
            exact jx true hm (O.sel [2,1,0] (by decide))
           ·refine gX ?_
            exact jx (neN r32.2.2 0) hm (O.sel [2,1,0] (by decide))
          ·clear hm;rintro v35 base h hm O
           refine gX ?_
           refine br hm (fun hm=>?_) fun hm=>?_
           ·refine gX ?_
            exact fe hm O
           ·refine gX ?_
            refine ldA (O.at (.tail _ (.head _))) ?_;refine gH ?_
            refine ldA (O.at (.tail _ (.tail _ (.head _)))) ?_;refine gH ?_
            refine ca (eV hm O.has) fun r37 hm=>?_;refine gX ?_
            refine lw 217 [3,4,5,6,8,9,12,19,20] (σ:=(Nat×Nat)) (fun s=>s) (fun (v38,v39) h=>Own vars h0 [(sC g4 [((ag 4 al) r3.1.nodes),((ag 1 Value.string) r3.1.names),((ag 3 aw) r3.1.mems),((ag 1 i64) r3.1.outs)])] h) (fun (v38,v39)=>[(11,(i64 v38)),(21,(i64 v39))]) (v21,0) hm (O.sel [0] (by decide)) ?_
            clear hm;rintro⟨v38,v39⟩ nx40 base h hm O
            refine gX ?_
            refine aD hm fun hm=>?_;refine gX ?_
            refine br hm (fun hm=>?_) fun hm=>?_
            ·refine gX ?_
             (first|refine O.new (ah (l:=[(i64 0),(.bool false),(i64 0)]) rfl rfl rfl) fun g41 h O=>?_|refine O.bj (ah (l:=[(i64 0),(.bool false),(i64 0)]) rfl rfl rfl) fun g41 h O=>?_);refine gH ?_
             refine O.stC 3 (.head _) [(z64 (Int.ofNat v22)),(.bool false),(i64 0)] fun h O=>?_;refine gH ?_
             refine jn hm 217 [3,4,5,6,8,9,11,12,19,20,21,22] (fun s=>s) (fun (v43,v44) h=>Own vars h0 [(sC g4 [((ag 4 al) r3.1.nodes),((ag 1 Value.string) r3.1.names),((ag 3 aw) r3.1.mems),((ag 1 i64) r3.1.outs)]),(sC g41 [(z64 (Int.ofNat v22)),(.bool v43),(i64 v44)])] h) (fun (v43,v44)=>[]) (fun hm=>?_) ?_
             ·refine gX ?_
              refine br hm (fun hm=>?_) fun hm=>?_
              ·refine gX ?_
               refine atF hm fun x46 hx46 hm=>?_;refine gH ?_
               refine O.stC 1 (.head _) [(z64 (Int.ofNat v22)),(.bool false),(i64 x46)] fun h O=>?_;refine gH ?_
               exact jx (false,x46) hm (O.sel [1,0] (by decide))
              ·refine gX ?_
               refine O.stC 1 (.head _) [(z64 (Int.ofNat v22)),(.bool true),(i64 0)] fun h O=>?_;refine gX ?_
               refine ry hm fun hm=>?_;refine gH ?_
               refine atF hm fun x47 hx47 hm=>?_;refine gH ?_
               refine O.stC 1 (.head _) [(z64 (Int.ofNat v22)),(.bool true),(i64 x47)] fun h O=>?_;refine gH ?_
               exact jx (true,x47) hm (O.sel [1,0] (by decide))
             ·clear hm;rintro⟨v43,v44⟩ base h hm O
              conv=>whnf
              apply Cs;conv=>whnf
              refine jn hm 217 [3,4,5,6,8,9,11,12,19,20,21] (fun s=>s) (fun v48 h=>Own vars h0 [(sC g4 [((ag 4 al) r3.1.nodes),((ag 1 Value.string) r3.1.names),((ag 3 aw) r3.1.mems),((ag 1 i64) r3.1.outs)])] h) (fun v48=>[(209,(.bool v48))]) (fun hm=>?_) ?_
              ·refine gX ?_
               refine lmC ?_;refine gH ?_
               refine br hm (fun hm=>?_) fun hm=>?_
               ·refine gX ?_
                refine bt ?_;refine gH ?_
                exact jx true hm (O.sel [0] (by decide))
               ·refine gX ?_
                refine atC hm fun x50 hx50 hm=>?_;refine gH ?_
                refine dF ?_
                refine gX ?_
                refine ldA (O.at (.tail _ (.head _))) ?_;refine gH ?_
                first|refine⟨.inr (.inr (aT rfl (O.at (.tail _ (.head _))) rfl rfl (lbE rfl) rfl)),?_⟩|refine⟨.inr (.inl (by kernel_rfl)),?_⟩
                refine gX ?_
                refine⟨.bool (!((eqZ x50.test (Int.ofNat v22))&&((x50.next==v43)&&((eqZ x50.index (Int.ofNat v44))&&true)))),by kernel_rfl,?_⟩;refine gH ?_
                refine br hm (fun hm=>?_) fun hm=>?_
                ·refine gX ?_
                 exact jx true hm (O.sel [0] (by decide))
                ·refine gX ?_
                 refine atC hm fun x51 hx51 hm=>?_;refine gH ?_
                 refine dF ?_
                 refine gX ?_
                 refine atC hm fun x52 hx52 hm=>?_;refine gH ?_
                 refine dF ?_
                 refine gX ?_
                 refine ldA (O.at (.tail _ (.head _))) ?_;refine gH ?_
                 first|refine⟨.inr (.inr (aT rfl (O.at (.tail _ (.head _))) rfl rfl (lbE rfl) rfl)),?_⟩|refine⟨.inr (.inl (by kernel_rfl)),?_⟩
                 refine gX ?_
                 refine⟨.bool (!((eqZ x52.test (Int.ofNat v22))&&((x52.next==v43)&&((eqZ x52.index (Int.ofNat v44))&&true)))),by kernel_rfl,?_⟩;refine gH ?_
                 exact jx (!((eqZ x52.test (Int.ofNat v22))&&((x52.next==v43)&&((eqZ x52.index (Int.ofNat v44))&&true)))) hm (O.sel [0] (by decide))
              ·clear hm;rintro v48 base h hm O
               refine gX ?_
               refine br hm (fun hm=>?_) fun hm=>?_
               ·refine gX ?_
                exact fe hm O
               ·refine gX ?_
                refine aD hm fun hm=>?_;refine gX ?_
                refine aD hm fun hm=>?_;refine gH ?_
                exact jx ((v38+1),(v39+1)) hm O
            ·refine gX ?_
             exact jx v38 hm O
         ·clear hm;rintro v24 base h hm O
          refine gX ?_
          refine aD hm fun hm=>?_;refine gH ?_
          exact jx (v24,(v22+1)) hm O
        ·refine gX ?_
         exact jx v21 hm O
       ·clear hm;rintro v19 base h hm O
        refine gX ?_
        refine lmC ?_;refine gX ?_
        refine br hm (fun hm=>?_) fun hm=>?_
        ·refine gX ?_
         exact fe hm O
        ·refine gX ?_
         refine aD hm fun hm=>?_;refine gH ?_
         exact jx (v10+1) hm O
    ·refine gX ?_
     exact jx () hm (O.sel [] (by decide))
   ·clear hm;rintro _ base h hm O
    refine gX ?_
    refine ca (iP hm O.has) fun r53 hm=>?_;refine gX ?_
    exact fe hm O
theorem ss (c:Circ) (R:Pat->Rsp) (tests:List Pat) (k:Nat):∀ n,k<=n->∃ r,gE c R tests n=gE c R tests k++r
 |0,h=>⟨[],by rw[show k=0 by omega];simp⟩
 |n+1,h=>by
  by_cases e:k=n+1
  ·exact⟨[],by rw[e];simp⟩
  ·obtain⟨r,hr⟩:=ss c R tests k n (by omega)
   exact⟨r++pT c R tests n,by rw[fZ,hr,List.append_assoc]⟩
theorem vf {c:Circ}{R:Pat->Rsp}{tests:List Pat}{k j:Nat}{x:FailZ} (hk:k<tests.length) (h:(pT c R tests k)[j]?=some x):(pB c R tests)[(gE c R tests k).length+j]?=some x:=by
 obtain⟨r,hr⟩:=ss c R tests (k+1) tests.length hk
 unfold pB
 rw[hr,fZ,List.append_assoc,List.getElem?_append_right (by omega),Nat.add_sub_cancel_left,List.getElem?_append_left (ak h)]
 exact h
theorem sS {c:Circ} (C:Cir c) (R:Pat->Rsp) (tests:List Pat) (k:Nat):(pT c R tests k).length<=32:=by
 have h1:=jD (cX c (tests.getD k ⟨[],[]⟩)).out (R (tests.getD k ⟨[],[]⟩)).out
 have h2:=jD (cX c (tests.getD k ⟨[],[]⟩)).next (R (tests.getD k ⟨[],[]⟩)).next
 have e1:(cX c (tests.getD k ⟨[],[]⟩)).out.length=c.outs.length:=by unfold cX iq;simp
 have e2:(cX c (tests.getD k ⟨[],[]⟩)).next.length=(ofN c [14]).length:=by unfold cX iq;simp
 have h3:=C.good.outsLen
 have h4:=eR c [14]
 have h5:=C.len
 unfold pT
 rw[List.length_append,List.length_map,List.length_map]
 omega
theorem my {c:Circ} (C:Cir c) (R:Pat->Rsp) (tests:List Pat):∀ n,(gE c R tests n).length<=n*32
 |0=>by unfold gE;simp
 |n+1=>by
  have:=my C R tests n
  have:=sS C R tests n
  rw[fZ,List.length_append]
  omega
theorem yO {c:Circ}{Rs:Flt->Pat->Rsp}{l:List Flt}{tests:List Pat}{i:Nat}{f:Flt} (h:l[i]?=some f):(ln c Rs l tests)[i]?=some (pB c (Rs f) tests):=by
 unfold ln
 rw[List.getElem?_map,h]
 rfl
theorem qp {c:Circ} (C:Cir c) {l:List Flt}{tests:List Pat}{Rs:Flt->Pat->Rsp} (hf:∀ f∈l,FltOk c f (Rs f)) (ht:∀ p∈tests,PatOk c p) (h1:l.length<=100) (h2:tests.length<=100) {K:List (List FailZ)×Nat->Prop}
 (h:K (ln c Rs l tests,0)):bE c l tests K:=js C hf ht h1 h2 h
theorem Ag {c:Circ} (C:Cir c) {f:Flt}{tests:List Pat}{R:Pat->Rsp} (F:FltOk c f R) (ht:∀ p∈tests,PatOk c p) (h2:tests.length<=100) {K:List FailZ×Nat->Prop}
 (h:K (pB c R tests,0)):ec c f tests K:=Bl C F ht h2 h
theorem zn (k:Nat) (b:Bool) (x:Nat):(!((eqZ (mkF k b x).test (Int.ofNat k))&&(((mkF k b x).next==b)&&((eqZ (mkF k b x).index (Int.ofNat x))&&true))))=false:=by
 unfold mkF
 simp[vZ]
theorem qB {y:CaseD} (Y:CaseB y) {K:Bool->Prop} (h:K true):bp y K:=by
 unfold bp
 refine⟨Nat.min_le_left _ _,Nat.min_le_left _ _,Bq Y 20 40 fun c l tests O h1 h2 h3 h4=>?_⟩
 dsimp only
 have C:=O.cir
 refine qp C (Rs:=jl c) (fun f m=>(O.flt f m).ok C) O.pat (by omega) h4 ?_
 have hdl:(ln c (jl c) l tests).length=l.length:=by unfold ln;rw[List.length_map]
 refine xn (fun k9 hk9=>⟨fun q=>absurd rfl (dy.1 q),fun _=>⟨fun q=>absurd hdl (dy.1 q),fun _=>?_⟩⟩) ⟨(fun q=>by cases q),fun _=>?_⟩
 ·exact hk9 _ (nU.2 rfl)
 refine ay (fun i=>i<=l.length) (fun i=>l.length-i) (fun _=>True) ?_ (Nat.zero_le _) (fun _ _=>vT h)
 intro k i nx hi hnx hk
 refine⟨fun q=>?_,fun q=>hk () trivial⟩
 have q:i<l.length:=aI.1 q
 obtain⟨f,hf⟩:=au q
 have F:=(O.flt f (List.mem_of_getElem? hf)).ok C
 have hd:=yO (c:=c) (Rs:=jl c) (tests:=tests) hf
 refine⟨f,hf,Ag C F O.pat h4 ?_⟩
 have hll:=my C (jl c f) tests tests.length
 have hll:(pB c (jl c f) tests).length<=tests.length*32:=hll
 refine xn (fun k9 hk9=>⟨fun q=>absurd rfl (dy.1 q),fun _=>⟨_,hd,fun q=>absurd rfl (dy.1 q),fun _=>⟨fun q=>absurd rfl (dy.1 q),fun _=>⟨_,hd,_,hd,?_⟩⟩⟩⟩) ⟨(fun q=>by cases q),fun _=>?_⟩
 ·exact hk9 _ (nU.2 rfl)
 refine ay (fun s=>s.2<=tests.length/\s.1=(gE c (jl c f) tests s.2).length) (fun s=>tests.length-s.2) (fun n=>n=(pB c (jl c f) tests).length) ?_ ⟨Nat.zero_le _,rfl⟩ ?_
 ·rintro k2 ⟨n,t⟩ nx2 ⟨ht,hn⟩ hnx2 hk2
  dsimp only at ht hn
  refine⟨fun q2=>?_,fun q2=>hk2 _ ?_⟩
  ·have q2:t<tests.length:=aI.1 q2
   obtain⟨p,hp⟩:=au q2
   have hpm:=O.pat p (List.mem_of_getElem? hp)
   have hR:=tS C idP (iC c p)
   have hlt:=my C (jl c f) tests t
   refine bo (a:=(gE c (jl c f) tests (t+1)).length) (fun g2=>⟨p,hp,pI C hpm ⟨f,hf,p,hp,F.run hpm fun z=>?_⟩⟩) ⟨by omega,hnx2 _ ⟨q2,rfl⟩ (by dsimp only;omega)⟩
   refine xn (fun k9 hk9=>⟨fun q=>absurd rfl (dy.1 q),fun _=>hk9 _ (nU.2 rfl)⟩) ⟨(fun q=>by cases q),fun _=>sf hR.1 hR.2 ?_⟩
   have hP:pT c (jl c f) tests t=(lN (cX c p).out (jl c f p).out).map (mkF t false)++(lN (cX c p).next (jl c f p).next).map (mkF t true):=by unfold pT;rw[Be hp]
   have hPl:=sS C (jl c f) tests t
   rw[fZ,List.length_append] at g2
   rw[hP,List.length_append,List.length_map,List.length_map] at hPl g2
   have eG:cX c p=iq c idP (iC c p):=rfl
   rw[eG] at hP hPl g2
   generalize lN (iq c idP (iC c p)).out (jl c f p).out=A at hP hPl g2 ⊢
   generalize lN (iq c idP (iC c p)).next (jl c f p).next=B at hP hPl g2 ⊢
   dsimp only
   refine bl (fun s=>s.2<=A.length+B.length/\s.1=(gE c (jl c f) tests t).length+s.2) (fun s=>A.length+B.length-s.2) ?_ ⟨Nat.zero_le _,hn⟩
   rintro⟨m,j⟩ nx3 ⟨hj,hm⟩ hnx3
   dsimp only at hj hm ⊢
   refine⟨by omega,fun q3=>?_,fun q3=>?_⟩
   ·have q3:j<A.length+B.length:=aI.1 q3
    refine fh (fun s:Bool×Nat=>(pB c (jl c f) tests)[m]?=some (mkF t s.1 s.2)) (fun k4 hk4=>⟨fun e=>?_,fun e=>?_⟩) ?_
    ·have e:=aI.1 e
     obtain⟨x,hx⟩:=au e
     refine⟨x,hx,hk4 _ ?_⟩
     rw[hm]
     refine vf q2 ?_
     rw[hP,List.getElem?_append_left (by rw[List.length_map];exact e),List.getElem?_map,hx]
     rfl
    ·have e:A.length<=j:=aV.1 e
     obtain⟨x,hx⟩:=au (show j-A.length<B.length by omega)
     refine⟨e,by omega,x,hx,hk4 _ ?_⟩
     rw[hm]
     refine vf q2 ?_
     rw[hP,List.getElem?_append_right (by rw[List.length_map];exact e),List.length_map,List.getElem?_map,hx]
     rfl
    ·rintro⟨b,x⟩ hx
     dsimp only at hx ⊢
     have hmlt:=ak hx
     refine xn (fun k9 hk9=>⟨fun q=>absurd (jN.1 q) (by omega),fun _=>⟨_,hx,fun q=>?_,fun _=>⟨_,hd,_,hx,hk9 _ (zn t b x)⟩⟩⟩) ⟨(fun q=>by cases q),fun _=>⟨by omega,by omega,hnx3 _ ⟨q3,by dsimp only;omega⟩ (by dsimp only;omega)⟩⟩
     rw[zn] at q
     cases q
   ·have q3:A.length+B.length<=j:=aV.1 q3
    have e:m=(gE c (jl c f) tests t).length+(A.length+B.length):=by omega
    rw[e]
    exact g2
  ·have q2:tests.length<=t:=aV.1 q2
   have:t=tests.length:=by omega
   subst this
   exact hn
 ·rintro _ rfl
  exact⟨fun q=>absurd rfl (dy.1 q),fun _=>⟨by omega,hnx _ q (by omega)⟩⟩
def dT:List (Sh×Bool):=[(qh,true)]
theorem od (x:yw dT) (w:wfL dT x):FnV Tryz.prog NG vars 5 ⟨Ad dT x⟩ (.bool true):=by
 obtain⟨c,u⟩:=x
 obtain⟨wc,_⟩:=w
 obtain⟨y,hy,e1⟩:=zb wc
 have e:Ad dT (c,u)=[pJ y]:=by
  show [elV (!true) (qh.aP c)]=_
  rw[e1]
 rw[e]
 exact FnV.pM (enc:=Value.bool) (r:=true) (PureV.flat rfl) fun h hB=>fT (K:=fun r=>r=true) (qB hy rfl) hB
end Go.Proofs.YteceaohcjmbfbaaGreatDoor
