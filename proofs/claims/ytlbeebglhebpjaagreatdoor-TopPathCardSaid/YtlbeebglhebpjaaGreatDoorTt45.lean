/-
  F1, M1, Circ2, Circ3, Circ4, Man2, P6, C5, P7, Carg, Ms, Lnz, Carg7: parts of the proof.
-/
import Derived.Test.YtlbeebglhebpjaaGreatDoorTt44
namespace Go.Proofs.YtlbeebglhebpjaaGreatDoor
open Go.Abs
set_option maxRecDepth 100000
set_option maxHeartbeats 8000000
def gx (p0:Circ) (K:(List (List Ln))->Prop):Prop :=
 24*p0.nodes.length<=2 ^ 48/\p0.nodes.length<2 ^ 63/\ar (α:=(List (List Ln))) (fun k6=>aB (S:=((List (List Ln))×Nat)) (fun (v7,v9) nx11=>((ltN v9 p0.nodes.length)=true->ar (α:=(List (List Ln))) (fun k15=>∃ x16,p0.nodes[v9]?=some x16/\aB (S:=((List (List Ln))×Nat)) (fun (v19,v21) nx23=>((ltN v21 x16.ins.length)=true->ar (α:=(List (List Ln))) (fun k27=>∃ x28,x16.ins[v21]?=some x28/\((ltN x28 0)=true->k27 v19)/\((ltN x28 0)=false->((!(!ltN x28 p0.nodes.length))=true->x28<p0.nodes.length/\∃ x29,v19[x28]?=some x29/\(x29.length+([(⟨v9,v21⟩:Ln)]:(List Ln)).length)*16<=2 ^ 47/\x28<p0.nodes.length/\k27 (v19.set x28 (x29++([(⟨v9,v21⟩:Ln)]:(List Ln)))))/\((!(!ltN x28 p0.nodes.length))=false->k27 v19))) (fun v24=>v21+1<2 ^ 63/\nx23 (v24,(v21+1))))/\((ltN v21 x16.ins.length)=false->k15 v19)) (v7,0)) (fun v12=>v9+1<2 ^ 63/\nx11 (v12,(v9+1))))/\((ltN v9 p0.nodes.length)=false->k6 v7)) ((List.replicate p0.nodes.length ([]:List Ln)),0)) (fun v3=>ar (α:=(List (List Ln))) (fun k40=>aB (S:=((List (List Ln))×Nat)) (fun (v41,v43) nx45=>((ltN v43 p0.nodes.length)=true->v43<p0.nodes.length/\∃ x46,v41[v43]?=some x46/\v43<p0.nodes.length/\v43+1<2 ^ 63/\nx45 ((v41.set v43 x46),(v43+1)))/\((ltN v43 p0.nodes.length)=false->k40 v41)) (v3,0)) (fun v37=>p0.nodes.length=v37.length/\K v37))
theorem pF {p0:Circ}{K:(List (List Ln))->Prop} (hm:gx p0 K) {h0:Heap} (hB:HasB vars h0):∃ r,K r/\CallD Tryz.prog NG 82 ⟨[ax p0]⟩ h0 ((ah 1 (ah 2 bS)) r) h0:=by
 unfold gx at hm
 refine fw Tryz.func82 hB (enc:=(ah 1 (ah 2 bS))) (fun r=>cb (fun _=>ag.cons (cb (fun _=>vV _)) ag.nil)) fun O=>?_;conv=>whnf
 refine gX ?_
 refine fz ?_;refine gX ?_
 refine Own.uW (α:=Ln) (b:=24) (n:=p0.nodes.length) bS 2 O rfl rfl rfl rfl rfl rfl hm.1 hm.2.1 fun g1 h O=>?_;refine gX ?_
 replace hm:=hm.2.2
 refine fg Tryz.func113 ?_;refine gX ?_
 refine fz ?_;refine gH ?_
 apply Cs;conv=>whnf
 apply Cs;refine gH ?_
 apply Cs;conv=>whnf
 refine gH ?_
 refine jn (σ:=(List (List Ln))×(List (Option Nat))) hm 65 [3] (fun s=>s.1) (fun (v3,a4) h=>RowsOk a4 v3/\Own vars h0 ([((some g1),.cells (aH 2 bS a4 v3) false)]++(aC bS a4 v3)) h) (fun (v3,a4)=>[]) (fun hm=>?_) ?_
 ·refine gX ?_
  refine lw 65 [3,4,18,19] (σ:=((List (List Ln))×Nat)×(List (Option Nat))) (fun s=>s.1) (fun ((v7,v9),a8) h=>RowsOk a8 v7/\Own vars h0 ([((some g1),.cells (aH 2 bS a8 v7) false)]++(aC bS a8 v7)) h) (fun ((v7,v9),a8)=>[(20,(i64 v9))]) (((List.replicate p0.nodes.length ([]:List Ln)),0),(List.replicate p0.nodes.length none)) hm ⟨(RowsOk.start p0.nodes.length),O⟩ ?_
  clear hm;rintro⟨⟨v7,v9⟩,a8⟩ nx11 base h hm ⟨hr10,O⟩
  refine gX ?_
  refine br hm (fun hm=>?_) fun hm=>?_
  ·apply Cs;conv=>whnf
   refine jn (σ:=(List (List Ln))×(List (Option Nat))) hm 65 [3,4,18,19,20] (fun s=>s.1) (fun (v12,a13) h=>RowsOk a13 v12/\Own vars h0 ([((some g1),.cells (aH 2 bS a13 v12) false)]++(aC bS a13 v12)) h) (fun (v12,a13)=>[]) (fun hm=>?_) ?_
   ·refine gX ?_
    refine atF hm fun x16 hx16 hm=>?_;refine gH ?_
    refine O.new (ai (l:=[(n8 0),(.slice none 0 0),(i64 0),(i64 0)]) rfl rfl rfl) fun g17 h O=>?_;refine gH ?_
    refine O.stC 4 (.head _) [(n8 x16.kind),((ah 1 i64) x16.ins),(i64 x16.mem),(i64 x16.bit)] fun h O=>?_;refine gX ?_
    refine lw 65 [3,4,5,18,19,20,26,27] (σ:=((List (List Ln))×Nat)×(List (Option Nat))) (fun s=>s.1) (fun ((v19,v21),a20) h=>RowsOk a20 v19/\Own vars h0 ([((some g1),.cells (aH 2 bS a20 v19) false)]++(aC bS a20 v19)) h) (fun ((v19,v21),a20)=>[(28,(i64 v21))]) ((v7,0),a8) hm ⟨hr10,(Own.xg [((some g17),.cells [(n8 x16.kind),((ah 1 i64) x16.ins),(i64 x16.mem),(i64 x16.bit)] false),((some g1),.cells (aH 2 bS a8 v7) false)] (L:=(aC bS a8 v7)) O [1] (by decide))⟩ ?_
    clear hm;rintro⟨⟨v19,v21⟩,a20⟩ nx23 base h hm ⟨hr22,O⟩
    refine gX ?_
    refine br hm (fun hm=>?_) fun hm=>?_
    ·apply Cs;conv=>whnf
     refine jn (σ:=(List (List Ln))×(List (Option Nat))) hm 65 [3,4,5,18,19,20,26,27,28] (fun s=>s.1) (fun (v24,a25) h=>RowsOk a25 v24/\Own vars h0 ([((some g1),.cells (aH 2 bS a25 v24) false)]++(aC bS a25 v24)) h) (fun (v24,a25)=>[]) (fun hm=>?_) ?_
     ·refine gX ?_
      refine atF hm fun x28 hx28 hm=>?_;refine gX ?_
      refine fg Tryz.func142 ?_;refine gX ?_
      refine br hm (fun hm=>?_) fun hm=>?_
      ·refine gX ?_
       refine bf ?_;refine gX ?_
       exact jx (v19,a20) hm ⟨hr22,O⟩
      ·refine gX ?_
       refine br hm (fun hm=>?_) fun hm=>?_
       ·refine gX ?_
        refine bV (s:=1) (j:=x28) rfl rfl rfl rfl hm.1 ?_;refine gH ?_
        replace hm:=hm.2
        obtain⟨x29,hx29,hm⟩:=hm
        obtain⟨a30,hA32,ha31,O⟩:=Own.focus (S:=[((some g1),.cells (aH 2 bS a20 v19) false)]) hr22 O hx29
        refine⟨_,tP (O.at (.tail _ (.head _))) hA32 hx29 rfl rfl,?_⟩;refine gH ?_
        refine fz ?_;refine gH ?_
        refine O.apL (enc:=bS) (l:=x29) (new:=([(⟨v9,v21⟩:Ln)]:(List Ln))) 2 (.head _) ha31.1 hm fun a34 h ha35 O hm=>?_;refine gH ?_
        refine bV (s:=1) (j:=x28) rfl rfl rfl rfl hm.1 ?_;refine gH ?_
        replace hm:=hm.2
        refine O.rY (s:=2) (enc:=bS) (j:=x28) (v:=(aj 2 a34 ((x29++([(⟨v9,v21⟩:Ln)]:(List Ln))).map bS))) (.tail _ (.head _)) hr22 hx29 rfl rfl rfl rfl rfl fun h O=>?_;refine gH ?_
        rw[<- kn] at O
        have hr36:RowsOk (a20.set x28 a34) (v19.set x28 (x29++([(⟨v9,v21⟩:Ln)]:(List Ln)))):=RowsOk.set hr22 ⟨ha35,fun e=>absurd e (by simp)⟩
        replace O:=Own.uc (S:=[(some g1,.cells (aH 2 bS (a20.set x28 a34) (v19.set x28 (x29++([(⟨v9,v21⟩:Ln)]:(List Ln))))) false)]) O hx29 hr22
        exact jx ((v19.set x28 (x29++([(⟨v9,v21⟩:Ln)]:(List Ln)))),(a20.set x28 a34)) hm ⟨hr36,O⟩
       ·refine gX ?_
        exact jx (v19,a20) hm ⟨hr22,O⟩
     ·clear hm;rintro⟨v24,a25⟩ base h hm ⟨hr26,O⟩
      refine gX ?_
      refine aR hm fun hm=>?_;refine gH ?_
      exact jx ((v24,(v21+1)),a25) hm ⟨hr26,O⟩
    ·refine gX ?_
     exact jx (v19,a20) hm ⟨hr22,O⟩
   ·clear hm;rintro⟨v12,a13⟩ base h hm ⟨hr14,O⟩
    refine gX ?_
    refine aR hm fun hm=>?_;refine gH ?_
    exact jx ((v12,(v9+1)),a13) hm ⟨hr14,O⟩
  ·refine gX ?_
   exact jx (v7,a8) hm ⟨hr10,O⟩
 ·clear hm;rintro⟨v3,a4⟩ base h hm ⟨hr5,O⟩
  conv=>whnf
  refine jn (σ:=(List (List Ln))×(List (Option Nat))) hm 65 [3] (fun s=>s.1) (fun (v37,a38) h=>RowsOk a38 v37/\Own vars h0 ([((some g1),.cells (aH 2 bS a38 v37) false)]++(aC bS a38 v37)) h) (fun (v37,a38)=>[]) (fun hm=>?_) ?_
  ·refine gX ?_
   refine lw 65 [3,51,52] (σ:=((List (List Ln))×Nat)×(List (Option Nat))) (fun s=>s.1) (fun ((v41,v43),a42) h=>RowsOk a42 v41/\Own vars h0 ([((some g1),.cells (aH 2 bS a42 v41) false)]++(aC bS a42 v41)) h) (fun ((v41,v43),a42)=>[(53,(i64 v43))]) ((v3,0),a4) hm ⟨hr5,O⟩ ?_
   clear hm;rintro⟨⟨v41,v43⟩,a42⟩ nx45 base h hm ⟨hr44,O⟩
   refine gX ?_
   refine br hm (fun hm=>?_) fun hm=>?_
   ·refine gX ?_
    refine bV (s:=1) (j:=v43) rfl rfl rfl rfl hm.1 ?_;refine gH ?_
    replace hm:=hm.2
    obtain⟨x46,hx46,hm⟩:=hm
    obtain⟨a47,hA49,ha48,O⟩:=Own.focus (S:=[((some g1),.cells (aH 2 bS a42 v41) false)]) hr44 O hx46
    refine⟨_,tP (O.at (.tail _ (.head _))) hA49 hx46 rfl rfl,?_⟩;refine gX ?_
    refine fg Tryz.func22 ?_;refine gX ?_
    refine lT (s:=2) (enc:=bS) (l:=x46) (n:=x46.length) (m:=x46.length) rfl rfl rfl rfl rfl rfl rfl ?_;refine gX ?_
    refine bV (s:=1) (j:=v43) rfl rfl rfl rfl hm.1 ?_;refine gH ?_
    replace hm:=hm.2
    refine O.rY (s:=2) (enc:=bS) (j:=v43) (v:=(iw a47 (x46.map bS))) (.tail _ (.head _)) hr44 hx46 rfl rfl rfl rfl rfl fun h O=>?_;refine gH ?_
    refine CodeS.yj (cs':=(aH 2 bS a42 v41).set v43 (aj 2 a47 (x46.map bS))) O (.tail _ (.head _)) (t2:=3) rfl rfl (LLe.set (O.Af (.head _) (fun _=>rfl) ha48)) fun h O=>?_
    rw[<- kn] at O
    have hr51:RowsOk (a42.set v43 a47) (v41.set v43 x46):=RowsOk.set hr44 ha48
    replace O:=Own.uc (S:=[(some g1,.cells (aH 2 bS (a42.set v43 a47) (v41.set v43 x46)) false)]) O hx46 hr44
    refine gX ?_
    refine aR hm fun hm=>?_;refine gH ?_
    exact jx (((v41.set v43 x46),(v43+1)),(a42.set v43 a47)) hm ⟨hr51,O⟩
   ·refine gX ?_
    exact jx (v41,a42) hm ⟨hr44,O⟩
  ·clear hm;rintro⟨v37,a38⟩ base h hm ⟨hr39,O⟩
   refine gX ?_
   obtain⟨hn52,hm⟩:=hm
   exact⟨v37,hm,O.ext,fun h2 F=>Own.Bf (L:=[((some g1),.cells (aH 2 bS a38 v37) false)]) O F (Nat.le_refl _) (.head _) hr39 (fun _=>rfl) hn52⟩
set_option maxHeartbeats 8000000
def gS (p0:Circ) (K:Nat->Prop):Prop :=
 ar (α:=Unit) (fun k3=>aB (S:=((List (ByteArray×Bool))×Nat)) (fun (v4,v5) nx6=>((ltN v5 p0.names.length)=true->∃ x7,p0.names[v5]?=some x7/\ar (α:=Bool) (fun k9=>iC x7 (fun r10=>((!r10)=true->k9 true)/\((!r10)=false->k9 ((gY v4 x7).getD false)))) (fun v8=>(v8=true->K 5)/\(v8=false->v5+1<2 ^ 63/\nx6 ((kM v4 x7 true),(v5+1)))))/\((ltN v5 p0.names.length)=false->k3 ())) (([]:List (ByteArray×Bool)),0)) (fun _=>K 0)
theorem kq {p0:Circ}{K:Nat->Prop} (hm:gS p0 K) {h0:Heap} (hB:HasB vars h0):∃ r,K r/\CallD Tryz.prog NG 111 ⟨[ax p0]⟩ h0 (i64 r) h0:=by
 unfold gS at hm
 refine fw Tryz.func111 hB (enc:=i64) (fun r=>PureV.flat rfl) fun O=>?_;conv=>whnf
 refine gX ?_
 refine fz ?_;refine gX ?_
 refine O.new ((rfl:anew _ _ _=some (.map (hH Value.string Value.bool ([]:List (ByteArray×Bool))),fun g=>.map (some g)))) fun g1 h O=>?_;refine gH ?_
 refine jn hm 25 [] (fun s=>s) (fun _ h=>Own vars h0 [] h) (fun _=>[]) (fun hm=>?_) ?_
 ·refine gX ?_
  refine lw 25 [3,8,9] (σ:=((List (ByteArray×Bool))×Nat)) (fun s=>s) (fun (v4,v5) h=>Own vars h0 [((some g1),.map (hH Value.string Value.bool v4))] h) (fun (v4,v5)=>[(10,(i64 v5))]) (([]:List (ByteArray×Bool)),0) hm O ?_
  clear hm;rintro⟨v4,v5⟩ nx6 base h hm O
  refine gX ?_
  refine br hm (fun hm=>?_) fun hm=>?_
  ·refine gX ?_
   refine atF hm fun x7 hx7 hm=>?_;refine gH ?_
   apply Cs;conv=>whnf
   refine jn hm 25 [3,5,8,9,10] (fun s=>s) (fun v8 h=>Own vars h0 [((some g1),.map (hH Value.string Value.bool v4))] h) (fun v8=>[(21,(.bool v8))]) (fun hm=>?_) ?_
   ·refine gX ?_
    refine ca (kN hm O.has) fun r10 hm=>?_;refine gH ?_
    refine br hm (fun hm=>?_) fun hm=>?_
    ·refine gX ?_
     exact jx true hm O
    ·refine gX ?_
     refine⟨_,tE (ek:=Value.string) (ev:=Value.bool) (m:=v4) (k:=x7) (z:=false) rfl rfl rfl rfl (by kernel_rfl) xG (O.at (.head _)) rfl rfl,?_⟩;refine gH ?_
     exact jx ((gY v4 x7).getD false) hm O
   ·clear hm;rintro v8 base h hm O
    refine gX ?_
    refine br hm (fun hm=>?_) fun hm=>?_
    ·refine gX ?_
     exact fe hm O
    ·refine gX ?_
     refine O.AW (ek:=Value.string) (ev:=Value.bool) (m:=v4) (k:=x7) (v:=true) (.head _) rfl rfl rfl xG rfl rfl rfl fun h O=>?_;refine gX ?_
     refine aR hm fun hm=>?_;refine gH ?_
     exact jx ((kM v4 x7 true),(v5+1)) hm O
  ·refine gX ?_
   exact jx () hm (O.sel [] (by decide))
 ·clear hm;rintro _ base h hm O
  refine gX ?_
  exact fe hm O
theorem dy (l:List Nat):∀ e∈l.map i64,(cl e).length=1:=by
 intro e m
 obtain⟨a,_,rfl⟩:=List.mem_map.1 m
 rfl
theorem rR:∀ l:List Nat,flatC (l.map i64)=l.map i64
 |[]=>rfl
 |a::l=>by rw[List.map_cons,fV,rR l];rfl
def cx (ks:List Nat):Nat->List Nat
 |0=>[]
 |i+1=>if ks.getD i 0=12 then cx ks i++[i] else cx ks i
def fO (bus:Bool) (g:GData) (ks:List Nat):Node :=
 if (if bus then g.kind%13 else g.kind%9)<6 then ⟨5+(if bus then g.kind%13 else g.kind%9),if 128<=g.kind then [g.a%ks.length,g.b%ks.length,g.d%ks.length] else [g.a%ks.length,g.b%ks.length],0,0⟩
 else if (if bus then g.kind%13 else g.kind%9)=6 then ⟨4,[g.a%ks.length],0,0⟩
 else if (if bus then g.kind%13 else g.kind%9)=7 then ⟨11,[g.a%ks.length,g.b%ks.length,g.d%ks.length],0,0⟩
 else if (if bus then g.kind%13 else g.kind%9)=9\/(if bus then g.kind%13 else g.kind%9)=10 then ⟨12,[g.a%ks.length,g.b%ks.length],0,0⟩
 else if 10<(if bus then g.kind%13 else g.kind%9)/\0<(cx ks ks.length).length then
  ⟨13,if 1<(cx ks ks.length).length then [(cx ks ks.length).getD (g.a%(cx ks ks.length).length) 0,(cx ks ks.length).getD ((g.a%(cx ks ks.length).length+1)%(cx ks ks.length).length) 0] else [(cx ks ks.length).getD (g.a%(cx ks ks.length).length) 0],0,0⟩
 else if 240<g.kind then ⟨1+g.a%2,[],0,0⟩
 else ⟨3,[g.a%ks.length],0,0⟩
theorem ri (ks:List Nat):∀ i,(cx ks i).length<=i
 |0=>Nat.le_refl 0
 |i+1=>by
  have:=ri ks i
  unfold cx
  split
  ·simp;omega
  ·omega
set_option maxHeartbeats 8000000 in
theorem Ar {x:CData}{g:GData} (hg:GOk g) {ks:List Nat} (hn:0<ks.length) (hn2:ks.length<=1000) {gn:Nat}{sp:Option Nat}{cap:Nat}{cs:List Value}{ro:Bool}{h0:Heap} (hB:HasB vars h0)
   (hgn:h0.get gn=some (.cells cs ro)) (hcs:∀ i,i<ks.length->cs[0+i*4]?=some (n8 (ks.getD i 0))) :
   CallD Tryz.prog NG 78 #[tM x,vY g,.slice (some ⟨gn,0,sp⟩) ks.length cap] h0 (an (fO x.bus g ks)) h0:=by
 obtain⟨kind,a,b,d⟩:=g
 obtain⟨inp,dffs,data0,data1,bus,mem,p0,p1,p2,p3,gates,outs⟩:=x
 obtain⟨hk,ha,hb,hd⟩:=hg
 simp only at hk ha hb hd
 have hnode:∀ k ins,an ⟨k,ins,0,0⟩=an ⟨k,ins,0,0⟩:=fun _ _=>rfl
 unfold fO
 simp only
 refine fnH hM Tryz.func78 rfl (hP _ _ rfl Tryz.func78) (lbE rfl) (hB) (zD _) fun O=>?_;(conv=>whnf);repeat(first|apply Cs|apply Rs|apply Rx);conv=>whnf
 refine NewG.frz rfl ?_;(conv=>whnf);repeat(first|apply Cs|apply Rs|apply Rx);conv=>whnf
 refine NewG.frz rfl ?_;(conv=>whnf);repeat(first|apply Cs|apply Rs|apply Rx);conv=>whnf
 refine O.new (ai (l:=[u8 0,.slice none 0 0,i64 0,i64 0]) rfl rfl rfl) fun g6 h O=>?_;(conv=>whnf);repeat(first|apply Cs|apply Rs|apply Rx);conv=>whnf
 ((conv=>whnf);repeat(first|apply Cs|apply Rs|apply Rx);conv=>whnf);repeat((first|refine⟨_,(rfl:aJ _ _ _ _=some _),?_⟩|refine tF rfl ?_|refine⟨_,gL rfl rfl rfl (pZ _ (by omega)),?_⟩|refine⟨_,sc rfl rfl (by omega),?_⟩|refine⟨.inl rfl,?_⟩);((conv=>whnf);repeat(first|apply Cs|apply Rs|apply Rx);conv=>whnf))
 refine DV hM (by kernel_rfl) (nn:=158) ks.length (fun i (a:Option Nat) h'=>(a=none->cx ks i=[])/\Own vars h0 [(a,.cells (flatC ((cx ks i).map i64)) false),(some g6,.cells [u8 0,.slice none 0 0,i64 0,i64 0] false)] h')
   (fun i t=>[(2,.slice (some ⟨gn,0,sp⟩) ks.length cap),(3,FP (tM ⟨inp,dffs,data0,data1,bus,mem,p0,p1,p2,p3,gates,outs⟩)),(4,FP (vY ⟨kind,a,b,d⟩)),(6,.pointer (some ⟨g6,0,none⟩)),(7,i64 ks.length),(8,i64 (a%ks.length)),(9,i64 (b%ks.length)),(10,i64 (d%ks.length)),(11,aj 1 t ((cx ks i).map i64)),(12,i64 i)])
   rfl none ⟨fun _=>rfl,O.bc _⟩ ⟨rfl,rfl,rfl,rfl,rfl,rfl,rfl,rfl,rfl,rfl,trivial⟩ ?_ ?_
 · rintro i t base h1 hi ⟨ht,O⟩
   have hle:=ri ks i
   ((conv=>whnf);repeat(first|apply Cs|apply Rs|apply Rx);conv=>whnf)
   refine⟨_,rfl,fun _=>?_,(fun hx=>nomatch (hx.symm.trans (Dr hi)))⟩;(conv=>whnf);repeat(first|apply Cs|apply Rs|apply Rx);conv=>whnf
   refine bV (s:=4) rfl rfl rfl rfl hi ?_;(conv=>whnf);repeat(first|apply Cs|apply Rs|apply Rx);conv=>whnf
   refine⟨_,ae rfl (O.ext.get hgn) rfl (hcs i hi),?_⟩;(conv=>whnf);repeat(first|apply Cs|apply Rs|apply Rx);conv=>whnf
   refine⟨_,rfl,fun hc=>?_,fun hc=>?_⟩
   · have hk12:ks.getD i 0=12:=by have:=eq_of_beq hc;simp only[Int.ofNat_eq_natCast] at this;omega
     have hts:cx ks (i+1)=cx ks i++[i]:=by rw[cx,if_pos hk12]
     have hv:(cx ks i).map i64++[i64 i]=(cx ks (i+1)).map i64:=by rw[hts,List.map_append];rfl
     ((conv=>whnf);repeat(first|apply Cs|apply Rs|apply Rx);conv=>whnf)
     refine NewG.frz rfl ?_;(conv=>whnf);repeat(first|apply Cs|apply Rs|apply Rx);conv=>whnf
     refine O.append (s:=1) (b:=8) (m:=1) (new:=[i64 i]) (.head _) (fun e=>by rw[ht e];rfl) rfl rfl rfl rfl rfl rfl rfl rfl rfl rfl rfl (by rw[hv];exact dy _) rfl (by decide) (by rw[List.length_map];omega) (hv) fun t' h ha O=>?_;(conv=>whnf);repeat(first|apply Cs|apply Rs|apply Rx);conv=>whnf
     refine⟨_,Ct (b:=1) rfl rfl (by omega),?_⟩;(conv=>whnf);repeat(first|apply Cs|apply Rs|apply Rx);conv=>whnf
     exact⟨t',⟨fun e=>by have:=ha e;simpa using this,O⟩,rfl,rfl,rfl,rfl,rfl,rfl,rfl,rfl,rfl,rfl,trivial⟩
   · have hk12:¬ ks.getD i 0=12:=fun e=>by rw[e] at hc;cases hc
     have hts:cx ks (i+1)=cx ks i:=by rw[cx,if_neg hk12]
     ((conv=>whnf);repeat(first|apply Cs|apply Rs|apply Rx);conv=>whnf)
     refine⟨_,Ct (b:=1) rfl rfl (by omega),?_⟩;(conv=>whnf);repeat(first|apply Cs|apply Rs|apply Rx);conv=>whnf
     exact⟨t,by rw[hts];exact⟨ht,O⟩,rfl,rfl,rfl,rfl,rfl,rfl,rfl,rfl,by rw[hts];rfl,rfl,trivial⟩
 · rintro t base h1 ⟨ht,O⟩
   have hle:=ri ks ks.length
   generalize cx ks ks.length=T at ht O hle
   ((conv=>whnf);repeat(first|apply Cs|apply Rs|apply Rx);conv=>whnf)
   refine⟨_,rfl,(fun hx=>nomatch (hx.symm.trans (Dw ks.length))),fun _=>?_⟩;(conv=>whnf);repeat(first|apply Cs|apply Rs|apply Rx);conv=>whnf
   have hU8:∀ n:Nat,n<256->IntKind.u8.wrap (Int.ofNat n)=Int.ofNat n:=fun n hn=>IntWalk.u8_in _ (by simp only[Int.ofNat_eq_natCast];omega)
   cases bus with
   | true =>
     ((conv=>whnf);repeat(first|apply Cs|apply Rs|apply Rx);conv=>whnf);repeat((first|refine⟨true,rfl,fun _=>?_,(fun hc=>nomatch hc)⟩|refine⟨_,(rfl:aJ _ _ _ _=some _),?_⟩|refine⟨_,gL rfl rfl rfl (pZ _ (by omega)),?_⟩|refine⟨_,sc (b:=9) rfl rfl (by decide),?_⟩|refine⟨_,sc (b:=13) rfl rfl (by decide),?_⟩);((conv=>whnf);repeat(first|apply Cs|apply Rs|apply Rx);conv=>whnf))
     simp only[if_true]
     generalize hkk:kind%13=kk
     have hk13:kk<13:=by omega
     refine⟨_,rfl,fun hc=>?_,fun hc=>?_⟩
     · have h6:kk<6:=(by have:=db (hc);first|omega | (simp only[Int.ofNat_eq_natCast] at this;omega))
       rw[if_pos h6]
       ((conv=>whnf);repeat(first|apply Cs|apply Rs|apply Rx);conv=>whnf)
       refine⟨_,gL rfl rfl rfl (hU8 kk (by omega)),?_⟩;(conv=>whnf);repeat(first|apply Cs|apply Rs|apply Rx);conv=>whnf
       refine⟨_,qs (a:=5) rfl rfl (by omega),?_⟩;(conv=>whnf);repeat(first|apply Cs|apply Rs|apply Rx);conv=>whnf
       refine O.new (kZ (vs:=[i64 (a%ks.length),i64 (b%ks.length)]) (s:=1) (z:=i64 0) rfl rfl (by kernel_rfl) (by kernel_rfl) rfl rfl rfl rfl (dy [a%ks.length,b%ks.length])) fun gi h O=>?_;(conv=>whnf);repeat(first|apply Cs|apply Rs|apply Rx);conv=>whnf
       refine O.new (ai (l:=[u8 0,.slice none 0 0,i64 0,i64 0]) rfl rfl rfl) fun gv h O=>?_;(conv=>whnf);repeat(first|apply Cs|apply Rs|apply Rx);conv=>whnf
       ((conv=>whnf);repeat(first|apply Cs|apply Rs|apply Rx);conv=>whnf);repeat((first|refine⟨_,(rfl:aJ _ _ _ _=some _),?_⟩|refine O.store (.head _) rfl rfl rfl rfl (lbE rfl) rfl rfl fun h O=>?_);((conv=>whnf);repeat(first|apply Cs|apply Rs|apply Rx);conv=>whnf))
       refine⟨_,rfl,fun hc=>?_,fun hc=>?_⟩
       · have h128:128<=kind:=by
           have hc:(!ltI (Int.ofNat kind) 128)=true:=hc
           rw[dk] at hc
           simp at hc
           omega
         rw[if_pos h128]
         ((conv=>whnf);repeat(first|apply Cs|apply Rs|apply Rx);conv=>whnf);repeat(refine⟨_,ae rfl (O.at (.head _)) rfl rfl,?_⟩;((conv=>whnf);repeat(first|apply Cs|apply Rs|apply Rx);conv=>whnf))
         refine NewG.frz rfl ?_;(conv=>whnf);repeat(first|apply Cs|apply Rs|apply Rx);conv=>whnf
         refine O.uk (s:=1) (b:=8) (m:=1) (n:=2) (new:=[i64 (d%ks.length)]) (O.at (.tail _ (.head _))) rfl rfl rfl rfl rfl rfl rfl rfl rfl rfl rfl rfl (by decide) rfl (by decide) (by decide) rfl fun gj h O=>?_;(conv=>whnf);repeat(first|apply Cs|apply Rs|apply Rx);conv=>whnf
         ((conv=>whnf);repeat(first|apply Cs|apply Rs|apply Rx);conv=>whnf);repeat((first|refine⟨_,bj rfl (O.at (.tail _ (.head _))) rfl rfl (lbE rfl) rfl,?_⟩|refine O.store (.tail _ (.head _)) rfl rfl rfl rfl (lbE rfl) rfl rfl fun h O=>?_|refine O.store (.tail _ (.tail _ (.tail _ (.tail _ (.head _))))) rfl rfl rfl rfl (lbE rfl) rfl rfl fun h O=>?_);((conv=>whnf);repeat(first|apply Cs|apply Rs|apply Rx);conv=>whnf))
         refine⟨_,aL rfl rfl (O.at (.tail _ (.tail _ (.tail _ (.tail _ (.head _)))))) rfl rfl (lbE rfl) rfl,?_⟩;(conv=>whnf);repeat(first|apply Cs|apply Rs|apply Rx);conv=>whnf
         refine⟨O.ext,fun h2 F=>VLe.agg (LLe.cons (VLe.refl _ _) (LLe.cons (O.flat (es:=[a%ks.length,b%ks.length,d%ks.length].map i64) F (Nat.le_refl _) (.head _) rfl rfl (dy _)) (LLe.refl _ _)))⟩
       · have h128:¬ 128<=kind:=by
           have hc:(!ltI (Int.ofNat kind) 128)=false:=hc
           rw[dk] at hc
           simp at hc
           omega
         rw[if_neg h128]
         ((conv=>whnf);repeat(first|apply Cs|apply Rs|apply Rx);conv=>whnf);repeat((first|refine⟨_,bj rfl (O.at (.head _)) rfl rfl (lbE rfl) rfl,?_⟩|refine O.store (.tail _ (.tail _ (.tail _ (.head _)))) rfl rfl rfl rfl (lbE rfl) rfl rfl fun h O=>?_);((conv=>whnf);repeat(first|apply Cs|apply Rs|apply Rx);conv=>whnf))
         refine⟨_,aL rfl rfl (O.at (.tail _ (.tail _ (.tail _ (.head _))))) rfl rfl (lbE rfl) rfl,?_⟩;(conv=>whnf);repeat(first|apply Cs|apply Rs|apply Rx);conv=>whnf
         refine⟨O.ext,fun h2 F=>VLe.agg (LLe.cons (VLe.refl _ _) (LLe.cons (O.flat (es:=[a%ks.length,b%ks.length].map i64) F (Nat.le_refl _) (.tail _ (.head _)) rfl rfl (dy _)) (LLe.refl _ _)))⟩
     · have h6:¬ kk<6:=(by have:=cX (hc);first|omega | (simp only[Int.ofNat_eq_natCast] at this;omega))
       have eqN:∀ c:Nat,(Int.ofNat kk==(Int.ofNat c))=decide (kk=c):=fun c=>by
         rw[Bool.eq_iff_iff];simp only[Int.ofNat_eq_natCast,beq_iff_eq,decide_eq_true_eq];omega
       rw[if_neg h6]
       ((conv=>whnf);repeat(first|apply Cs|apply Rs|apply Rx);conv=>whnf)
       refine⟨_,rfl,fun hc=>?_,fun hc=>?_⟩
       · rw[if_pos (of_decide_eq_true ((eqN 6).symm.trans hc))]
         ((conv=>whnf);repeat(first|apply Cs|apply Rs|apply Rx);conv=>whnf);repeat((first|refine O.store (.tail _ (.head _)) rfl rfl rfl rfl (lbE rfl) rfl rfl fun h O=>?_|refine NewG.frz rfl ?_);((conv=>whnf);repeat(first|apply Cs|apply Rs|apply Rx);conv=>whnf))
         refine⟨_,aL rfl rfl (O.at (.tail _ (.head _))) rfl rfl (lbE rfl) rfl,?_⟩;(conv=>whnf);repeat(first|apply Cs|apply Rs|apply Rx);conv=>whnf
         exact O.ret
       rw[if_neg (of_decide_eq_false ((eqN 6).symm.trans hc))]
       ((conv=>whnf);repeat(first|apply Cs|apply Rs|apply Rx);conv=>whnf)
       refine⟨_,rfl,fun hc=>?_,fun hc=>?_⟩
       · rw[if_pos (of_decide_eq_true ((eqN 7).symm.trans hc))]
         ((conv=>whnf);repeat(first|apply Cs|apply Rs|apply Rx);conv=>whnf);repeat((first|refine O.store (.tail _ (.head _)) rfl rfl rfl rfl (lbE rfl) rfl rfl fun h O=>?_|refine NewG.frz rfl ?_);((conv=>whnf);repeat(first|apply Cs|apply Rs|apply Rx);conv=>whnf))
         refine⟨_,aL rfl rfl (O.at (.tail _ (.head _))) rfl rfl (lbE rfl) rfl,?_⟩;(conv=>whnf);repeat(first|apply Cs|apply Rs|apply Rx);conv=>whnf
         exact O.ret
       rw[if_neg (of_decide_eq_false ((eqN 7).symm.trans hc))]
       ((conv=>whnf);repeat(first|apply Cs|apply Rs|apply Rx);conv=>whnf)
       refine⟨_,rfl,fun hc=>?_,fun hc=>?_⟩
       · rw[if_pos (.inl (of_decide_eq_true ((eqN 9).symm.trans hc)))]
         rw[hc]
         ((conv=>whnf);repeat(first|apply Cs|apply Rs|apply Rx);conv=>whnf);repeat((first|refine⟨true,rfl,fun _=>?_,(fun hc=>nomatch hc)⟩|refine O.store (.tail _ (.head _)) rfl rfl rfl rfl (lbE rfl) rfl rfl fun h O=>?_|refine NewG.frz rfl ?_);((conv=>whnf);repeat(first|apply Cs|apply Rs|apply Rx);conv=>whnf))
         refine⟨_,aL rfl rfl (O.at (.tail _ (.head _))) rfl rfl (lbE rfl) rfl,?_⟩;(conv=>whnf);repeat(first|apply Cs|apply Rs|apply Rx);conv=>whnf
         exact O.ret
       have h9:¬ kk=9:=of_decide_eq_false ((eqN 9).symm.trans hc)
       rw[hc]
       ((conv=>whnf);repeat(first|apply Cs|apply Rs|apply Rx);conv=>whnf)
       refine⟨_,rfl,fun hc=>?_,fun hc=>?_⟩
       · rw[if_pos (.inr (of_decide_eq_true ((eqN 10).symm.trans hc)))]
         ((conv=>whnf);repeat(first|apply Cs|apply Rs|apply Rx);conv=>whnf);repeat((first|refine O.store (.tail _ (.head _)) rfl rfl rfl rfl (lbE rfl) rfl rfl fun h O=>?_|refine NewG.frz rfl ?_);((conv=>whnf);repeat(first|apply Cs|apply Rs|apply Rx);conv=>whnf))
         refine⟨_,aL rfl rfl (O.at (.tail _ (.head _))) rfl rfl (lbE rfl) rfl,?_⟩;(conv=>whnf);repeat(first|apply Cs|apply Rs|apply Rx);conv=>whnf
         exact O.ret
       rw[if_neg (fun h=>h.elim h9 (of_decide_eq_false ((eqN 10).symm.trans hc)))]
       ((conv=>whnf);repeat(first|apply Cs|apply Rs|apply Rx);conv=>whnf)
       refine⟨_,rfl,fun hc=>?_,fun hc=>?_⟩
       · have h10:10<kk:=(by have:=db (hc);first|omega | (simp only[Int.ofNat_eq_natCast] at this;omega))
         rw[hc]
         ((conv=>whnf);repeat(first|apply Cs|apply Rs|apply Rx);conv=>whnf)
         rw[List.length_map]
         refine⟨_,rfl,fun hc=>?_,fun hc=>?_⟩
         · have hT:0<T.length:=(by have:=db (hc);first|omega | (simp only[Int.ofNat_eq_natCast] at this;omega))
           rw[if_pos ⟨h10,hT⟩]
           obtain⟨gt,rfl⟩:∃ gt,t=some gt:=by
             cases t with
             |none=>rw[ht rfl] at hT;simp at hT
             |some g=>exact⟨g,rfl⟩
           rw[rR] at O
           have hTg:∀ i,i<T.length->(T.map i64)[0+i*1]?=some (i64 (T.getD i 0)):=fun i hi=>by
             rw[Nat.zero_add,Nat.mul_one,List.getElem?_map,List.getElem?_eq_getElem hi,List.getD,List.getElem?_eq_getElem hi];rfl
           ((conv=>whnf);repeat(first|apply Cs|apply Rs|apply Rx);conv=>whnf);repeat((first|refine⟨_,(rfl:aJ _ _ _ _=some _),?_⟩|refine tF rfl ?_|refine⟨_,gL rfl rfl rfl (pZ _ (by omega)),?_⟩);((conv=>whnf);repeat(first|apply Cs|apply Rs|apply Rx);conv=>whnf))
           rw[List.length_map]
           refine⟨_,sc (b:=T.length) rfl rfl hT,?_⟩;(conv=>whnf);repeat(first|apply Cs|apply Rs|apply Rx);conv=>whnf
           have hmod:=Nat.mod_lt a hT
           refine bV (s:=1) rfl rfl rfl rfl (by rw[List.length_map];exact hmod) ?_;(conv=>whnf);repeat(first|apply Cs|apply Rs|apply Rx);conv=>whnf
           refine⟨_,ae rfl (O.at (.head _)) rfl (hTg _ hmod),?_⟩;(conv=>whnf);repeat(first|apply Cs|apply Rs|apply Rx);conv=>whnf
           refine O.new (kZ (vs:=[i64 (T.getD (a%T.length) 0)]) (s:=1) (z:=i64 0) rfl rfl (by kernel_rfl) (by kernel_rfl) rfl rfl rfl rfl (dy [T.getD (a%T.length) 0])) fun gi h O=>?_;(conv=>whnf);repeat(first|apply Cs|apply Rs|apply Rx);conv=>whnf
           refine O.new (ai (l:=[u8 0,.slice none 0 0,i64 0,i64 0]) rfl rfl rfl) fun gv h O=>?_;(conv=>whnf);repeat(first|apply Cs|apply Rs|apply Rx);conv=>whnf
           ((conv=>whnf);repeat(first|apply Cs|apply Rs|apply Rx);conv=>whnf);repeat(refine O.store (.head _) rfl rfl rfl rfl (lbE rfl) rfl rfl fun h O=>?_;((conv=>whnf);repeat(first|apply Cs|apply Rs|apply Rx);conv=>whnf))
           rw[List.length_map]
           refine⟨_,rfl,fun hc=>?_,fun hc=>?_⟩
           · have hT1:1<T.length:=(by have:=db (hc);first|omega | (simp only[Int.ofNat_eq_natCast] at this;omega))
             rw[if_pos hT1]
             have hmod2:=Nat.mod_lt (a%T.length+1) hT
             have hk63:a%T.length+1<2 ^ 63:=by omega
             ((conv=>whnf);repeat(first|apply Cs|apply Rs|apply Rx);conv=>whnf);repeat((first|refine⟨_,ae rfl (O.at (.head _)) rfl rfl,?_⟩|refine⟨_,Ct (b:=1) rfl rfl (by omega),?_⟩|refine⟨.inr (.inr (ae rfl (O.at (.head _)) rfl rfl)),?_⟩);((conv=>whnf);repeat(first|apply Cs|apply Rs|apply Rx);conv=>whnf))
             rw[List.length_map]
             refine⟨_,sc (b:=T.length) rfl rfl hT,?_⟩;(conv=>whnf);repeat(first|apply Cs|apply Rs|apply Rx);conv=>whnf
             refine bV (s:=1) rfl rfl rfl rfl (hmod2) ?_;(conv=>whnf);repeat(first|apply Cs|apply Rs|apply Rx);conv=>whnf
             refine⟨_,ae rfl (O.at (.tail _ (.tail _ (.head _)))) rfl (hTg _ hmod2),?_⟩;(conv=>whnf);repeat(first|apply Cs|apply Rs|apply Rx);conv=>whnf
             refine⟨.inl rfl,?_⟩;(conv=>whnf);repeat(first|apply Cs|apply Rs|apply Rx);conv=>whnf
             refine O.bF (kZ (vs:=[i64 (T.getD ((a%T.length+1)%T.length) 0)]) (s:=1) (z:=i64 0) rfl rfl (by kernel_rfl) (by kernel_rfl) rfl rfl rfl rfl (dy [T.getD ((a%T.length+1)%T.length) 0])) fun gy h O=>?_;(conv=>whnf);repeat(first|apply Cs|apply Rs|apply Rx);conv=>whnf
             refine O.uk (s:=1) (b:=8) (m:=1) (n:=1) (new:=[i64 (T.getD ((a%T.length+1)%T.length) 0)]) (O.at (.tail _ (.tail _ (.head _)))) rfl rfl rfl rfl rfl rfl rfl rfl rfl rfl (kG (O.at (.head _)) rfl) rfl (by decide) rfl (by decide) (by decide) rfl fun gj h O=>?_;(conv=>whnf);repeat(first|apply Cs|apply Rs|apply Rx);conv=>whnf
             ((conv=>whnf);repeat(first|apply Cs|apply Rs|apply Rx);conv=>whnf);repeat((first|refine⟨_,bj rfl (O.at (.tail _ (.tail _ (.head _)))) rfl rfl (lbE rfl) rfl,?_⟩|refine⟨.inl rfl,?_⟩|refine O.store (.tail _ (.tail _ (.head _))) rfl rfl rfl rfl (lbE rfl) rfl rfl fun h O=>?_|refine O.store (.tail _ (.tail _ (.tail _ (.tail _ (.tail _ (.head _)))))) rfl rfl rfl rfl (lbE rfl) rfl rfl fun h O=>?_);((conv=>whnf);repeat(first|apply Cs|apply Rs|apply Rx);conv=>whnf))
             refine⟨_,aL rfl rfl (O.at (.tail _ (.tail _ (.tail _ (.tail _ (.tail _ (.head _))))))) rfl rfl (lbE rfl) rfl,?_⟩;(conv=>whnf);repeat(first|apply Cs|apply Rs|apply Rx);conv=>whnf
             refine⟨O.ext,fun h2 F=>VLe.agg (LLe.cons (VLe.refl _ _) (LLe.cons (O.flat (es:=[T.getD (a%T.length) 0,T.getD ((a%T.length+1)%T.length) 0].map i64) F (Nat.le_refl _) (.head _) rfl rfl (dy _)) (LLe.refl _ _)))⟩
           · have hT1:¬ 1<T.length:=(by have:=cX (hc);first|omega | (simp only[Int.ofNat_eq_natCast] at this;omega))
             rw[if_neg hT1]
             ((conv=>whnf);repeat(first|apply Cs|apply Rs|apply Rx);conv=>whnf);repeat((first|refine⟨_,bj rfl (O.at (.head _)) rfl rfl (lbE rfl) rfl,?_⟩|refine O.store (.tail _ (.tail _ (.tail _ (.head _)))) rfl rfl rfl rfl (lbE rfl) rfl rfl fun h O=>?_);((conv=>whnf);repeat(first|apply Cs|apply Rs|apply Rx);conv=>whnf))
             refine⟨_,aL rfl rfl (O.at (.tail _ (.tail _ (.tail _ (.head _))))) rfl rfl (lbE rfl) rfl,?_⟩;(conv=>whnf);repeat(first|apply Cs|apply Rs|apply Rx);conv=>whnf
             refine⟨O.ext,fun h2 F=>VLe.agg (LLe.cons (VLe.refl _ _) (LLe.cons (O.flat (es:=[T.getD (a%T.length) 0].map i64) F (Nat.le_refl _) (.tail _ (.head _)) rfl rfl (dy _)) (LLe.refl _ _)))⟩
         · have hno:¬ (10<kk/\0<T.length):=fun h=>absurd h.2 (by have:=cX (hc);first|omega | (simp only[Int.ofNat_eq_natCast] at this;omega))
           rw[if_neg hno]
           ((conv=>whnf);repeat(first|apply Cs|apply Rs|apply Rx);conv=>whnf);repeat(refine⟨_,(rfl:aJ _ _ _ _=some _),?_⟩;((conv=>whnf);repeat(first|apply Cs|apply Rs|apply Rx);conv=>whnf))
           refine⟨_,rfl,fun hc=>?_,fun hc=>?_⟩
           · have h240:240<kind:=(by have:=db (hc);first|omega | (simp only[Int.ofNat_eq_natCast] at this;omega))
             rw[if_pos h240]
             ((conv=>whnf);repeat(first|apply Cs|apply Rs|apply Rx);conv=>whnf);repeat((first|refine⟨_,(rfl:aJ _ _ _ _=some _),?_⟩|refine tF rfl ?_|refine⟨_,sc (b:=2) rfl rfl (by decide),?_⟩);((conv=>whnf);repeat(first|apply Cs|apply Rs|apply Rx);conv=>whnf))
             refine⟨_,qs (a:=1) rfl rfl (by omega),?_⟩;(conv=>whnf);repeat(first|apply Cs|apply Rs|apply Rx);conv=>whnf
             ((conv=>whnf);repeat(first|apply Cs|apply Rs|apply Rx);conv=>whnf);repeat(refine O.store (.tail _ (.head _)) rfl rfl rfl rfl (lbE rfl) rfl rfl fun h O=>?_;((conv=>whnf);repeat(first|apply Cs|apply Rs|apply Rx);conv=>whnf))
             refine⟨_,aL rfl rfl (O.at (.tail _ (.head _))) rfl rfl (lbE rfl) rfl,?_⟩;(conv=>whnf);repeat(first|apply Cs|apply Rs|apply Rx);conv=>whnf
             exact⟨O.ext,fun h2 F=>VLe.agg (LLe.cons (VLe.refl _ _) (LLe.cons (VLe.nil _ _) (LLe.refl _ _)))⟩
           · have h240:¬ 240<kind:=(by have:=cX (hc);first|omega | (simp only[Int.ofNat_eq_natCast] at this;omega))
             rw[if_neg h240]
             ((conv=>whnf);repeat(first|apply Cs|apply Rs|apply Rx);conv=>whnf);repeat((first|refine O.store (.tail _ (.head _)) rfl rfl rfl rfl (lbE rfl) rfl rfl fun h O=>?_|refine NewG.frz rfl ?_);((conv=>whnf);repeat(first|apply Cs|apply Rs|apply Rx);conv=>whnf))
             refine⟨_,aL rfl rfl (O.at (.tail _ (.head _))) rfl rfl (lbE rfl) rfl,?_⟩;(conv=>whnf);repeat(first|apply Cs|apply Rs|apply Rx);conv=>whnf
             exact O.ret
       · have hno:¬ (10<kk/\0<T.length):=fun h=>absurd h.1 (by have:=cX (hc);first|omega | (simp only[Int.ofNat_eq_natCast] at this;omega))
         rw[hc]
         ((conv=>whnf);repeat(first|apply Cs|apply Rs|apply Rx);conv=>whnf)
         refine⟨false,rfl,(fun hc=>nomatch hc),fun _=>?_⟩;(conv=>whnf);repeat(first|apply Cs|apply Rs|apply Rx);conv=>whnf
         rw[if_neg hno]
         ((conv=>whnf);repeat(first|apply Cs|apply Rs|apply Rx);conv=>whnf);repeat(refine⟨_,(rfl:aJ _ _ _ _=some _),?_⟩;((conv=>whnf);repeat(first|apply Cs|apply Rs|apply Rx);conv=>whnf))
         refine⟨_,rfl,fun hc=>?_,fun hc=>?_⟩
         · have h240:240<kind:=(by have:=db (hc);first|omega | (simp only[Int.ofNat_eq_natCast] at this;omega))
           rw[if_pos h240]
           ((conv=>whnf);repeat(first|apply Cs|apply Rs|apply Rx);conv=>whnf);repeat((first|refine⟨_,(rfl:aJ _ _ _ _=some _),?_⟩|refine tF rfl ?_|refine⟨_,sc (b:=2) rfl rfl (by decide),?_⟩);((conv=>whnf);repeat(first|apply Cs|apply Rs|apply Rx);conv=>whnf))
           refine⟨_,qs (a:=1) rfl rfl (by omega),?_⟩;(conv=>whnf);repeat(first|apply Cs|apply Rs|apply Rx);conv=>whnf
           ((conv=>whnf);repeat(first|apply Cs|apply Rs|apply Rx);conv=>whnf);repeat(refine O.store (.tail _ (.head _)) rfl rfl rfl rfl (lbE rfl) rfl rfl fun h O=>?_;((conv=>whnf);repeat(first|apply Cs|apply Rs|apply Rx);conv=>whnf))
           refine⟨_,aL rfl rfl (O.at (.tail _ (.head _))) rfl rfl (lbE rfl) rfl,?_⟩;(conv=>whnf);repeat(first|apply Cs|apply Rs|apply Rx);conv=>whnf
           exact⟨O.ext,fun h2 F=>VLe.agg (LLe.cons (VLe.refl _ _) (LLe.cons (VLe.nil _ _) (LLe.refl _ _)))⟩
         · have h240:¬ 240<kind:=(by have:=cX (hc);first|omega | (simp only[Int.ofNat_eq_natCast] at this;omega))
           rw[if_neg h240]
           ((conv=>whnf);repeat(first|apply Cs|apply Rs|apply Rx);conv=>whnf);repeat((first|refine O.store (.tail _ (.head _)) rfl rfl rfl rfl (lbE rfl) rfl rfl fun h O=>?_|refine NewG.frz rfl ?_);((conv=>whnf);repeat(first|apply Cs|apply Rs|apply Rx);conv=>whnf))
           refine⟨_,aL rfl rfl (O.at (.tail _ (.head _))) rfl rfl (lbE rfl) rfl,?_⟩;(conv=>whnf);repeat(first|apply Cs|apply Rs|apply Rx);conv=>whnf
           exact O.ret
   | false =>
     ((conv=>whnf);repeat(first|apply Cs|apply Rs|apply Rx);conv=>whnf);repeat((first|refine⟨false,rfl,(fun hc=>nomatch hc),fun _=>?_⟩|refine⟨_,(rfl:aJ _ _ _ _=some _),?_⟩|refine⟨_,gL rfl rfl rfl (pZ _ (by omega)),?_⟩|refine⟨_,sc (b:=9) rfl rfl (by decide),?_⟩);((conv=>whnf);repeat(first|apply Cs|apply Rs|apply Rx);conv=>whnf))
     simp only[Bool.false_eq_true,if_false]
     generalize hkk:kind%9=kk
     have hk13:kk<9:=by omega
     refine⟨_,rfl,fun hc=>?_,fun hc=>?_⟩
     · have h6:kk<6:=(by have:=db (hc);first|omega | (simp only[Int.ofNat_eq_natCast] at this;omega))
       rw[if_pos h6]
       ((conv=>whnf);repeat(first|apply Cs|apply Rs|apply Rx);conv=>whnf)
       refine⟨_,gL rfl rfl rfl (hU8 kk (by omega)),?_⟩;(conv=>whnf);repeat(first|apply Cs|apply Rs|apply Rx);conv=>whnf
       refine⟨_,qs (a:=5) rfl rfl (by omega),?_⟩;(conv=>whnf);repeat(first|apply Cs|apply Rs|apply Rx);conv=>whnf
       refine O.new (kZ (vs:=[i64 (a%ks.length),i64 (b%ks.length)]) (s:=1) (z:=i64 0) rfl rfl (by kernel_rfl) (by kernel_rfl) rfl rfl rfl rfl (dy [a%ks.length,b%ks.length])) fun gi h O=>?_;(conv=>whnf);repeat(first|apply Cs|apply Rs|apply Rx);conv=>whnf
       refine O.new (ai (l:=[u8 0,.slice none 0 0,i64 0,i64 0]) rfl rfl rfl) fun gv h O=>?_;(conv=>whnf);repeat(first|apply Cs|apply Rs|apply Rx);conv=>whnf
       ((conv=>whnf);repeat(first|apply Cs|apply Rs|apply Rx);conv=>whnf);repeat((first|refine⟨_,(rfl:aJ _ _ _ _=some _),?_⟩|refine O.store (.head _) rfl rfl rfl rfl (lbE rfl) rfl rfl fun h O=>?_);((conv=>whnf);repeat(first|apply Cs|apply Rs|apply Rx);conv=>whnf))
       refine⟨_,rfl,fun hc=>?_,fun hc=>?_⟩
       · have h128:128<=kind:=by
           have hc:(!ltI (Int.ofNat kind) 128)=true:=hc
           rw[dk] at hc
           simp at hc
           omega
         rw[if_pos h128]
         ((conv=>whnf);repeat(first|apply Cs|apply Rs|apply Rx);conv=>whnf);repeat(refine⟨_,ae rfl (O.at (.head _)) rfl rfl,?_⟩;((conv=>whnf);repeat(first|apply Cs|apply Rs|apply Rx);conv=>whnf))
         refine NewG.frz rfl ?_;(conv=>whnf);repeat(first|apply Cs|apply Rs|apply Rx);conv=>whnf
         refine O.uk (s:=1) (b:=8) (m:=1) (n:=2) (new:=[i64 (d%ks.length)]) (O.at (.tail _ (.head _))) rfl rfl rfl rfl rfl rfl rfl rfl rfl rfl rfl rfl (by decide) rfl (by decide) (by decide) rfl fun gj h O=>?_;(conv=>whnf);repeat(first|apply Cs|apply Rs|apply Rx);conv=>whnf
         ((conv=>whnf);repeat(first|apply Cs|apply Rs|apply Rx);conv=>whnf);repeat((first|refine⟨_,bj rfl (O.at (.tail _ (.head _))) rfl rfl (lbE rfl) rfl,?_⟩|refine O.store (.tail _ (.head _)) rfl rfl rfl rfl (lbE rfl) rfl rfl fun h O=>?_|refine O.store (.tail _ (.tail _ (.tail _ (.tail _ (.head _))))) rfl rfl rfl rfl (lbE rfl) rfl rfl fun h O=>?_);((conv=>whnf);repeat(first|apply Cs|apply Rs|apply Rx);conv=>whnf))
         refine⟨_,aL rfl rfl (O.at (.tail _ (.tail _ (.tail _ (.tail _ (.head _)))))) rfl rfl (lbE rfl) rfl,?_⟩;(conv=>whnf);repeat(first|apply Cs|apply Rs|apply Rx);conv=>whnf
         refine⟨O.ext,fun h2 F=>VLe.agg (LLe.cons (VLe.refl _ _) (LLe.cons (O.flat (es:=[a%ks.length,b%ks.length,d%ks.length].map i64) F (Nat.le_refl _) (.head _) rfl rfl (dy _)) (LLe.refl _ _)))⟩
       · have h128:¬ 128<=kind:=by
           have hc:(!ltI (Int.ofNat kind) 128)=false:=hc
           rw[dk] at hc
           simp at hc
           omega
         rw[if_neg h128]
         ((conv=>whnf);repeat(first|apply Cs|apply Rs|apply Rx);conv=>whnf);repeat((first|refine⟨_,bj rfl (O.at (.head _)) rfl rfl (lbE rfl) rfl,?_⟩|refine O.store (.tail _ (.tail _ (.tail _ (.head _)))) rfl rfl rfl rfl (lbE rfl) rfl rfl fun h O=>?_);((conv=>whnf);repeat(first|apply Cs|apply Rs|apply Rx);conv=>whnf))
         refine⟨_,aL rfl rfl (O.at (.tail _ (.tail _ (.tail _ (.head _))))) rfl rfl (lbE rfl) rfl,?_⟩;(conv=>whnf);repeat(first|apply Cs|apply Rs|apply Rx);conv=>whnf
         refine⟨O.ext,fun h2 F=>VLe.agg (LLe.cons (VLe.refl _ _) (LLe.cons (O.flat (es:=[a%ks.length,b%ks.length].map i64) F (Nat.le_refl _) (.tail _ (.head _)) rfl rfl (dy _)) (LLe.refl _ _)))⟩
     · have h6:¬ kk<6:=(by have:=cX (hc);first|omega | (simp only[Int.ofNat_eq_natCast] at this;omega))
       have eqN:∀ c:Nat,(Int.ofNat kk==(Int.ofNat c))=decide (kk=c):=fun c=>by
         rw[Bool.eq_iff_iff];simp only[Int.ofNat_eq_natCast,beq_iff_eq,decide_eq_true_eq];omega
       rw[if_neg h6]
       ((conv=>whnf);repeat(first|apply Cs|apply Rs|apply Rx);conv=>whnf)
       refine⟨_,rfl,fun hc=>?_,fun hc=>?_⟩
       · rw[if_pos (of_decide_eq_true ((eqN 6).symm.trans hc))]
         ((conv=>whnf);repeat(first|apply Cs|apply Rs|apply Rx);conv=>whnf);repeat((first|refine O.store (.tail _ (.head _)) rfl rfl rfl rfl (lbE rfl) rfl rfl fun h O=>?_|refine NewG.frz rfl ?_);((conv=>whnf);repeat(first|apply Cs|apply Rs|apply Rx);conv=>whnf))
         refine⟨_,aL rfl rfl (O.at (.tail _ (.head _))) rfl rfl (lbE rfl) rfl,?_⟩;(conv=>whnf);repeat(first|apply Cs|apply Rs|apply Rx);conv=>whnf
         exact O.ret
       rw[if_neg (of_decide_eq_false ((eqN 6).symm.trans hc))]
       ((conv=>whnf);repeat(first|apply Cs|apply Rs|apply Rx);conv=>whnf)
       refine⟨_,rfl,fun hc=>?_,fun hc=>?_⟩
       · rw[if_pos (of_decide_eq_true ((eqN 7).symm.trans hc))]
         ((conv=>whnf);repeat(first|apply Cs|apply Rs|apply Rx);conv=>whnf);repeat((first|refine O.store (.tail _ (.head _)) rfl rfl rfl rfl (lbE rfl) rfl rfl fun h O=>?_|refine NewG.frz rfl ?_);((conv=>whnf);repeat(first|apply Cs|apply Rs|apply Rx);conv=>whnf))
         refine⟨_,aL rfl rfl (O.at (.tail _ (.head _))) rfl rfl (lbE rfl) rfl,?_⟩;(conv=>whnf);repeat(first|apply Cs|apply Rs|apply Rx);conv=>whnf
         exact O.ret
       rw[if_neg (of_decide_eq_false ((eqN 7).symm.trans hc))]
       ((conv=>whnf);repeat(first|apply Cs|apply Rs|apply Rx);conv=>whnf)
       refine⟨_,rfl,fun hc=>?_,fun hc=>?_⟩
       · rw[if_pos (.inl (of_decide_eq_true ((eqN 9).symm.trans hc)))]
         rw[hc]
         ((conv=>whnf);repeat(first|apply Cs|apply Rs|apply Rx);conv=>whnf);repeat((first|refine⟨true,rfl,fun _=>?_,(fun hc=>nomatch hc)⟩|refine O.store (.tail _ (.head _)) rfl rfl rfl rfl (lbE rfl) rfl rfl fun h O=>?_|refine NewG.frz rfl ?_);((conv=>whnf);repeat(first|apply Cs|apply Rs|apply Rx);conv=>whnf))
         refine⟨_,aL rfl rfl (O.at (.tail _ (.head _))) rfl rfl (lbE rfl) rfl,?_⟩;(conv=>whnf);repeat(first|apply Cs|apply Rs|apply Rx);conv=>whnf
         exact O.ret
       have h9:¬ kk=9:=of_decide_eq_false ((eqN 9).symm.trans hc)
       rw[hc]
       ((conv=>whnf);repeat(first|apply Cs|apply Rs|apply Rx);conv=>whnf)
       refine⟨_,rfl,fun hc=>?_,fun hc=>?_⟩
       · rw[if_pos (.inr (of_decide_eq_true ((eqN 10).symm.trans hc)))]
         ((conv=>whnf);repeat(first|apply Cs|apply Rs|apply Rx);conv=>whnf);repeat((first|refine O.store (.tail _ (.head _)) rfl rfl rfl rfl (lbE rfl) rfl rfl fun h O=>?_|refine NewG.frz rfl ?_);((conv=>whnf);repeat(first|apply Cs|apply Rs|apply Rx);conv=>whnf))
         refine⟨_,aL rfl rfl (O.at (.tail _ (.head _))) rfl rfl (lbE rfl) rfl,?_⟩;(conv=>whnf);repeat(first|apply Cs|apply Rs|apply Rx);conv=>whnf
         exact O.ret
       rw[if_neg (fun h=>h.elim h9 (of_decide_eq_false ((eqN 10).symm.trans hc)))]
       ((conv=>whnf);repeat(first|apply Cs|apply Rs|apply Rx);conv=>whnf)
       refine⟨_,rfl,fun hc=>?_,fun hc=>?_⟩
       · have h10:10<kk:=(by have:=db (hc);first|omega | (simp only[Int.ofNat_eq_natCast] at this;omega))
         exact absurd h10 (by omega)
       · have hno:¬ (10<kk/\0<T.length):=fun h=>absurd h.1 (by have:=cX (hc);first|omega | (simp only[Int.ofNat_eq_natCast] at this;omega))
         rw[hc]
         ((conv=>whnf);repeat(first|apply Cs|apply Rs|apply Rx);conv=>whnf)
         refine⟨false,rfl,(fun hc=>nomatch hc),fun _=>?_⟩;(conv=>whnf);repeat(first|apply Cs|apply Rs|apply Rx);conv=>whnf
         rw[if_neg hno]
         ((conv=>whnf);repeat(first|apply Cs|apply Rs|apply Rx);conv=>whnf);repeat(refine⟨_,(rfl:aJ _ _ _ _=some _),?_⟩;((conv=>whnf);repeat(first|apply Cs|apply Rs|apply Rx);conv=>whnf))
         refine⟨_,rfl,fun hc=>?_,fun hc=>?_⟩
         · have h240:240<kind:=(by have:=db (hc);first|omega | (simp only[Int.ofNat_eq_natCast] at this;omega))
           rw[if_pos h240]
           ((conv=>whnf);repeat(first|apply Cs|apply Rs|apply Rx);conv=>whnf);repeat((first|refine⟨_,(rfl:aJ _ _ _ _=some _),?_⟩|refine tF rfl ?_|refine⟨_,sc (b:=2) rfl rfl (by decide),?_⟩);((conv=>whnf);repeat(first|apply Cs|apply Rs|apply Rx);conv=>whnf))
           refine⟨_,qs (a:=1) rfl rfl (by omega),?_⟩;(conv=>whnf);repeat(first|apply Cs|apply Rs|apply Rx);conv=>whnf
           ((conv=>whnf);repeat(first|apply Cs|apply Rs|apply Rx);conv=>whnf);repeat(refine O.store (.tail _ (.head _)) rfl rfl rfl rfl (lbE rfl) rfl rfl fun h O=>?_;((conv=>whnf);repeat(first|apply Cs|apply Rs|apply Rx);conv=>whnf))
           refine⟨_,aL rfl rfl (O.at (.tail _ (.head _))) rfl rfl (lbE rfl) rfl,?_⟩;(conv=>whnf);repeat(first|apply Cs|apply Rs|apply Rx);conv=>whnf
           exact⟨O.ext,fun h2 F=>VLe.agg (LLe.cons (VLe.refl _ _) (LLe.cons (VLe.nil _ _) (LLe.refl _ _)))⟩
         · have h240:¬ 240<kind:=(by have:=cX (hc);first|omega | (simp only[Int.ofNat_eq_natCast] at this;omega))
           rw[if_neg h240]
           ((conv=>whnf);repeat(first|apply Cs|apply Rs|apply Rx);conv=>whnf);repeat((first|refine O.store (.tail _ (.head _)) rfl rfl rfl rfl (lbE rfl) rfl rfl fun h O=>?_|refine NewG.frz rfl ?_);((conv=>whnf);repeat(first|apply Cs|apply Rs|apply Rx);conv=>whnf))
           refine⟨_,aL rfl rfl (O.at (.tail _ (.head _))) rfl rfl (lbE rfl) rfl,?_⟩;(conv=>whnf);repeat(first|apply Cs|apply Rs|apply Rx);conv=>whnf
           exact O.ret
def jy (i:Nat):ByteArray:=⟨#[110,UInt8.ofNat (48+i/10),UInt8.ofNat (48+i%10)]⟩
theorem yU:([0,1,2,3,4,5,6,7,8,9,10,11,12,13,14,15].all fun i=>match wC bare 79 #[.int .i64 (Int.ofNat i)] with
 |some (.string s)=>decide (s=jy i)
 |_=>false)=true:=by kernel_rfl
theorem Cv {i:Nat} (hi:i<16):FnV Tryz.prog NG vars 79 #[i64 i] (.string (jy i)):=by
 refine Eh rfl fun h _=>?_
 have hm:i∈[0,1,2,3,4,5,6,7,8,9,10,11,12,13,14,15]:=by
  have:i=0\/i=1\/i=2\/i=3\/i=4\/i=5\/i=6\/i=7\/i=8\/i=9\/i=10\/i=11\/i=12\/i=13\/i=14\/i=15:=by omega
  simpa using this
 have:=List.all_eq_true.1 yU i hm
 split at this
 ·rename_i s hs
  rw[of_decide_eq_true this] at hs
  exact CW hs (by kernel_rfl) rfl
 ·cases this
def fS:Node:=⟨0,[],0,0⟩
def nr (d:Nat):Node:=⟨14,[d],0,0⟩
def yV (b:Nat):Node:=⟨15,[],0,b⟩
def fH (inp dffs:Nat) (mem:Bool):List Node:=List.replicate (inp%4+1) fS++List.replicate (dffs%3) (nr 0)++(if mem then [yV 0,yV 1] else [])
def dE (bus:Bool) (gs:List GData) (base:List Node):Nat->List Node
 |0=>base
 |i+1=>match gs[i]? with
  |some g=>dE bus gs base i++[fO bus g ((dE bus gs base i).map Node.kind)]
  |none=>dE bus gs base i
def cj (x:CData):List Node:=dE x.bus x.gates (fH x.inp x.dffs x.mem) (min x.gates.length 8)
def lC (first:Nat) (d:Nat->Nat):Nat->List Node->List Node
 |0,ns=>ns
 |i+1,ns=>(lC first d i ns).set (first+i) (nr (d i))
def lO (x:CData) (n j:Nat):Nat:=(if j=0 then x.data0 else x.data1)%n
def eB (x:CData):Circ :=
 let n:=(cj x).length
 ⟨lC (x.inp%4+1) (lO x n) (x.dffs%3) (cj x),(List.range n).map jy,if x.mem then [⟨[x.port0%n],[x.port1%n,x.port2%n],x.port3%n⟩] else [],(x.outs.take 3).map (· % n)++[n-1]⟩
theorem tG:∀ (l:List Node),∀ e∈l.map an,(cl e).length=4:=by
 intro l e m
 obtain⟨a,_,rfl⟩:=List.mem_map.1 m
 rfl
theorem zo {l:List Node}{i:Nat} (hi:i<l.length):(flatC (l.map an))[0+i*4]?=some (n8 ((l.map Node.kind).getD i 0)):=by
 have hu:(l.map an)[i]?=some (an l[i]):=by rw[List.getElem?_map,List.getElem?_eq_getElem hi];rfl
 have:=ry (tG l) hu (i:=0) (by decide)
 rw[Nat.add_zero] at this
 rw[Nat.zero_add,this,List.getD,List.getElem?_map,List.getElem?_eq_getElem hi]
 rfl
theorem ff (inp dffs:Nat) (mem:Bool):(fH inp dffs mem).length=inp%4+1+dffs%3+(if mem then 2 else 0):=by
 unfold fH
 cases mem <;> simp <;> omega
theorem er (bus:Bool) (gs:List GData) (base:List Node):∀ i,i<=gs.length->(dE bus gs base i).length=base.length+i
 |0,_=>rfl
 |i+1,h=>by
  have hg:gs[i]?=some gs[i]:=List.getElem?_eq_getElem (by omega)
  simp only[dE,hg,List.length_append,er bus gs base i (by omega),List.length_singleton]
  omega
theorem ky {bus:Bool}{gs:List GData}{base:List Node}{i:Nat}{g:GData} (hg:gs[i]?=some g):dE bus gs base (i+1)=dE bus gs base i++[fO bus g ((dE bus gs base i).map Node.kind)]:=by
 simp only[dE,hg]
theorem mL (bus:Bool) (gs:List GData) (base:List Node) {j:Nat} (hj:j<base.length):∀ i,i<=gs.length->(dE bus gs base i)[j]?=base[j]?
 |0,_=>rfl
 |i+1,h=>by
  have hg:gs[i]?=some gs[i]:=List.getElem?_eq_getElem (by omega)
  rw[ky hg,List.getElem?_append_left (by rw[er _ _ _ _ (by omega)];omega)]
  exact mL bus gs base hj i (by omega)
theorem iK (x:CData):(cj x).length=x.inp%4+1+x.dffs%3+(if x.mem then 2 else 0)+min x.gates.length 8:=by
 unfold cj
 rw[er _ _ _ _ (Nat.min_le_left _ _),ff]
theorem yk (x:CData):(cj x).length<=16:=by
 rw[iK]
 have h1:=Nat.mod_lt x.inp (show 0<4 by decide)
 have h2:=Nat.mod_lt x.dffs (show 0<3 by decide)
 split <;> omega
theorem yT {inp dffs:Nat}{mem:Bool}{i:Nat} (hi:i<dffs%3):(fH inp dffs mem)[inp%4+1+i]?=some (nr 0):=by
 unfold fH
 rw[List.append_assoc,List.getElem?_append_right (by simp),List.length_replicate,List.getElem?_append_left (by simp;omega),List.getElem?_replicate,if_pos (by omega)]
theorem vx {x:CData}{i:Nat} (hi:i<x.dffs%3):(cj x)[x.inp%4+1+i]?=some (nr 0):=by
 unfold cj
 rw[mL _ _ _ (by rw[ff];split <;> omega) _ (Nat.min_le_left _ _)]
 exact yT hi
inductive PL (h:Heap):List Value->List Value->Prop
 |nil:PL h [] []
 |cons {a b:Value} {l m:List Value}:LLe h (cl a) (cl b)->PL h l m->PL h (a::l) (b::m)
theorem Cy {x:CData}{g:GData} (hg:GOk g) {N:List Node} (hn:0<N.length) (hn2:N.length<=1000) {gn:Nat}{sp:Option Nat}{cap:Nat}{ro:Bool}{h0:Heap} (hB:HasB vars h0) (hgn:h0.get gn=some (.cells (flatC (N.map an)) ro)) :
  CallD Tryz.prog NG 78 #[tM x,vY g,.slice (some ⟨gn,0,sp⟩) (N.map an).length cap] h0 (an (fO x.bus g (N.map Node.kind))) h0:=by
 have:=Ar (x:=x) hg (ks:=N.map Node.kind) (by rw[List.length_map];exact hn) (by rw[List.length_map];exact hn2) (sp:=sp) (cap:=cap) hB hgn fun i hi=>zo (by rw[List.length_map] at hi;exact hi)
 rw[List.length_map] at this
 rw[List.length_map]
 exact this
def gk (i:Nat) (K:ByteArray->Prop):Prop:=i<16/\K (jy i)
theorem jV {i:Nat}{K:ByteArray->Prop} (hm:gk i K) {h0:Heap} (hB:HasB vars h0):∃ r,K r/\CallD Tryz.prog NG 79 ⟨[i64 i]⟩ h0 (Value.string r) h0:=FnV.walk (Cv hm.1) hm.2 hB
structure Asg where
 net:Nat
 value:Nat
structure U2 where
 a:Nat
 b:Nat
def iW (c:Circ) (i x:Nat):List Ln:=(c.nodes.zipIdx.take i).flatMap fun p=>bB x p.2 p.1.ins
theorem ux (x i:Nat) (l:List Nat) (a:Nat):bB x i (l++[a])=bB x i l++(if a=x then [⟨i,l.length⟩] else []):=by
 unfold bB
 rw[List.zipIdx_append,List.filter_append,List.map_append]
 congr 1
 by_cases c:a=x
 ·simp[c]
 ·simp[c]
theorem ph {c:Circ}{i x:Nat}{y:Node} (hy:c.nodes[i]?=some y):iW c (i+1) x=iW c i x++bB x i y.ins:=by
 have h:c.nodes.zipIdx[i]?=some (y,i):=by rw[List.getElem?_zipIdx,hy];simp
 unfold iW
 obtain⟨h1,h2⟩:=List.getElem?_eq_some_iff.1 h
 rw[List.take_succ_eq_append_getElem h1,h2,List.flatMap_append]
 simp
theorem oR (x i:Nat) (l:List Nat):(bB x i l).length<=l.length:=by
 unfold bB
 rw[List.length_map]
 refine Nat.le_trans (List.length_filter_le _ _) ?_
 simp
structure FanPre (c:Circ):Prop where
 len:c.nodes.length<=16
 ins:∀ (i:Nat) (x:Node),c.nodes[i]?=some x->(∀ k∈x.ins,k<c.nodes.length)/\x.ins.length<=16
theorem qd {c:Circ} (g:FanPre c) (x:Nat):∀ i,i<=c.nodes.length->(iW c i x).length<=i*16
 |0,_=>by simp[iW]
 |i+1,h=>by
  obtain⟨y,hy⟩:=aw (l:=c.nodes) (i:=i) h
  rw[ph hy,List.length_append]
  have:=qd g x i (by omega)
  have:=oR x i y.ins
  have:=(g.ins i y hy).2
  omega
def ee (c:Circ) (i t:Nat) (ins:List Nat):List (List Ln):=(List.range c.nodes.length).map fun x=>iW c i x++bB x i (ins.take t)
theorem ml {c:Circ}{i t x:Nat}{ins:List Nat} (hx:x<c.nodes.length):(ee c i t ins)[x]?=some (iW c i x++bB x i (ins.take t)):=by
 unfold ee
 rw[List.getElem?_map,List.getElem?_range hx]
 rfl
theorem vg {c:Circ}{i t y:Nat}{ins:List Nat} (hy:ins[t]?=some y):(ee c i t ins).set y (iW c i y++bB y i (ins.take t)++[⟨i,t⟩])=ee c i (t+1) ins:=by
 have ht:=ak hy
 obtain⟨h1,h2⟩:=List.getElem?_eq_some_iff.1 hy
 have hs:∀ x,bB x i (ins.take (t+1))=bB x i (ins.take t)++(if y=x then [⟨i,t⟩] else []):=fun x=>by
  rw[List.take_succ_eq_append_getElem h1,h2,ux,List.length_take,Nat.min_eq_left (Nat.le_of_lt ht)]
 apply List.ext_getElem?
 intro x
 rw[List.getElem?_set]
 have hl:(ee c i t ins).length=c.nodes.length:=by unfold ee;simp
 by_cases c1:x<c.nodes.length
 ·rw[ml c1,ml c1,hs x]
  by_cases e:y=x
  ·subst e
   rw[if_pos rfl,if_pos (by omega),if_pos rfl,List.append_assoc]
  ·rw[if_neg e,if_neg e,List.append_nil]
 ·have hn:∀ k,(ee c i k ins)[x]?=none:=fun k=>by
   refine List.getElem?_eq_none ?_
   unfold ee;simp;omega
  rw[hn,hn]
  by_cases e:y=x
  ·rw[if_pos e,if_neg (by omega)]
  ·rw[if_neg e]
theorem si {c:Circ}{K:List (List Ln)->Prop} (g:FanPre c) (h:K (mO c)):gx c K:=by
 have hlen:=g.len
 unfold gx
 refine⟨by omega,by omega,?_⟩
 refine aD (fun s=>s.2<=c.nodes.length/\s.1=ee c s.2 0 []) (fun s=>c.nodes.length-s.2) (fun a=>a=mO c) ?_ ?_ ?_
 ·rintro k ⟨R,i⟩ nx ⟨hi,hR⟩ hnx hk
  dsimp only at hi hR
  subst hR
  refine⟨fun q=>?_,fun q=>?_⟩
  ·have q:=aQ.1 q
   try dsimp only at q
   obtain⟨y,hy⟩:=aw q
   obtain⟨g1,g2⟩:=g.ins i y hy
   refine dM ⟨y,hy,?_⟩
   refine bl (fun s=>s.2<=y.ins.length/\s.1=ee c i s.2 y.ins) (fun s=>y.ins.length-s.2) ?_ ⟨Nat.zero_le _,by unfold ee;simp⟩
   rintro⟨R1,t⟩ nx1 ⟨ht,hR⟩ hnx1
   dsimp only at ht hR
   subst hR
   refine⟨fun q1=>?_,fun q1=>?_⟩
   ·have q1:=aQ.1 q1
    try dsimp only at q1
    obtain⟨z,hz⟩:=aw q1
    have hzn:=g1 z (List.mem_of_getElem? hz)
    have hb:=qd g z i hi
    have hb2:=oR z i (y.ins.take t)
    have hb3:(y.ins.take t).length<=16:=by rw[List.length_take];omega
    refine dM ⟨z,hz,fun e=>absurd (aQ.1 e) (Nat.not_lt_zero _),fun _=>⟨fun _=>?_,fun e=>?_⟩⟩
    ·refine⟨hzn,_,ml hzn,by simp only[List.length_append,List.length_singleton];omega,hzn,by omega,?_⟩
     rw[vg hz]
     exact hnx1 (ee c i (t+1) y.ins,t+1) ⟨q1,rfl⟩ (by dsimp only;omega)
    ·have e2:ltN z c.nodes.length=true:=aQ.2 hzn
     rw[e2] at e
     cases e
   ·have q1:=bk.1 q1
    try dsimp only at q1
    refine⟨by omega,hnx (ee c i t y.ins,i+1) ⟨q,?_⟩ (by dsimp only;omega)⟩
    unfold ee
    refine List.map_congr_left fun x _=>?_
    rw[List.take_of_length_le q1,ph hy]
    simp[bB]
  ·have q:=bk.1 q
   try dsimp only at q
   have:i=c.nodes.length:=by omega
   subst this
   refine hk _ ?_
   unfold ee mO
   refine List.map_congr_left fun x _=>?_
   unfold iW
   rw[List.take_of_length_le (by simp)]
   simp[bB]
 ·refine⟨Nat.zero_le _,?_⟩
  unfold ee
  apply List.ext_getElem?
  intro x
  rw[List.getElem?_replicate,List.getElem?_map]
  by_cases q:x<c.nodes.length
  ·rw[if_pos q,List.getElem?_range q]
   simp[iW,bB]
  ·rw[if_neg q,List.getElem?_eq_none (by simp;omega)]
   rfl
 ·rintro a rfl
  have hl:(mO c).length=c.nodes.length:=by unfold mO;simp
  refine aD (fun s=>s.2<=c.nodes.length/\s.1=mO c) (fun s=>c.nodes.length-s.2) (fun a=>a=mO c) ?_ ⟨Nat.zero_le _,rfl⟩ ?_
  ·rintro k ⟨R,i⟩ nx ⟨hi,hR⟩ hnx hk
   dsimp only at hi hR
   subst hR
   refine⟨fun q=>?_,fun _=>hk _ rfl⟩
   have q:=aQ.1 q
   try dsimp only at q
   obtain⟨y,hy⟩:=aw (l:=mO c) (i:=i) (by omega)
   refine⟨q,y,hy,q,by omega,hnx _ ⟨q,?_⟩ (by dsimp only;omega)⟩
   obtain⟨h1,rfl⟩:=List.getElem?_eq_some_iff.1 hy
   exact List.set_getElem_self h1
  ·rintro a rfl
   exact⟨hl.symm,h⟩
theorem AS {c:Circ} (g:FanPre c):FanOk c:=by
 refine FnV.pT (enc:=ah 1 (ah 2 bS)) (cb fun r=>ag.cons (cb fun l=>vV l) ag.nil) fun h hB=>?_
 exact pF (K:=fun r=>r=mO c) (si g rfl) hB
theorem xx:([0,1,2,3,4,5,6,7,8,9,10,11,12,13,14,15].all fun i=>isTrue (jY Tryz.prog [] (kT Tryz.prog) 60 140 #[.string (jy i)] (bQ vars)))=true:=by kernel_rfl
theorem EL {i:Nat} (hi:i<16):Cc (jy i):=by
 have hm:i∈[0,1,2,3,4,5,6,7,8,9,10,11,12,13,14,15]:=by
  have:i=0\/i=1\/i=2\/i=3\/i=4\/i=5\/i=6\/i=7\/i=8\/i=9\/i=10\/i=11\/i=12\/i=13\/i=14\/i=15:=by omega
  simpa using this
 obtain⟨h',e⟩:=rN (List.all_eq_true.1 xx i hm)
 have c:=(gM hM hP (fun f vs h v e=>fq f vs h v e) 60 _ _ _ _ _ e).1
 exact⟨PureV.rb rfl,fun h b=>c.lift (by kernel_rfl) rfl (mF (yr b) (pY b))⟩
theorem zd:∀ i,i<16->∀ j,j<16->jy i=jy j->i=j:=by decide +kernel
theorem zI {l:List ByteArray}{x:ByteArray} (h:x ∉ l):gY (l.map fun s=>(s,true)) x=none:=by
 induction l with
 |nil=>rfl
 |cons a l ih =>
  simp only[List.mem_cons,not_or] at h
  rw[List.map_cons,gY,if_neg h.1]
  exact ih h.2
theorem A3 {l:List ByteArray}{x:ByteArray} (h:x ∉ l):kM (l.map fun s=>(s,true)) x true=(l++[x]).map fun s=>(s,true):=by
 induction l with
 |nil=>rfl
 |cons a l ih =>
  simp only[List.mem_cons,not_or] at h
  rw[List.map_cons,kM,if_neg h.1,ih h.2]
  rfl
theorem mZ {c:Circ}{K:Nat->Prop} (h1:∀ s∈c.names,Cc s) (h2:c.names.Nodup) (h3:c.names.length<2 ^ 60) (h:K 0):gS c K:=by
 unfold gS
 refine aD (fun s=>s.2<=c.names.length/\s.1=(c.names.take s.2).map fun s=>(s,true)) (fun s=>c.names.length-s.2) (fun _=>True) ?_ ⟨Nat.zero_le _,by simp⟩ (fun _ _=>h)
 rintro k ⟨m,i⟩ nx ⟨hi,hR⟩ hnx hk
 dsimp only at hi hR
 subst hR
 refine⟨fun q=>?_,fun _=>hk () trivial⟩
 have q:=aQ.1 q
 try dsimp only at q
 obtain⟨x,hx⟩:=aw q
 obtain⟨l1,l2⟩:=List.getElem?_eq_some_iff.1 hx
 have hnot:x ∉ c.names.take i:=fun mm=>by
  obtain⟨j,hj,e⟩:=List.getElem_of_mem mm
  rw[List.length_take] at hj
  rw[List.getElem_take] at e
  exact List.pairwise_iff_getElem.1 h2 j i (by omega) l1 (by omega) (e.trans l2.symm)
 refine⟨x,hx,dM ⟨h1 x (List.mem_of_getElem? hx),(fun e=>by cases e),fun _=>?_⟩⟩
 rw[zI hnot]
 refine⟨(fun e=>by cases e),fun _=>⟨by omega,hnx _ ⟨q,?_⟩ (by dsimp only;omega)⟩⟩
 dsimp only
 rw[A3 hnot,List.take_succ_eq_append_getElem l1,l2]
theorem Ae {c:Circ}{n:Nat} (hn:n<=16) (hc:c.names=(List.range n).map jy):NamesOk c:=by
 refine FnV.pT (enc:=i64) (PureV.flat rfl) fun h hB=>?_
 refine kq (K:=fun r=>r=0) (mZ ?_ ?_ ?_ rfl) hB
 ·intro s m
  rw[hc] at m
  obtain⟨i,hi,rfl⟩:=List.mem_map.1 m
  exact EL (by have:=List.mem_range.1 hi;omega)
 ·rw[hc]
  unfold List.Nodup
  rw[List.pairwise_map]
  refine List.Pairwise.imp_of_mem ?_ (List.nodup_range (n:=n))
  intro a b ha hb hne e
  exact hne (zd a (by have:=List.mem_range.1 ha;omega) b (by have:=List.mem_range.1 hb;omega) e)
 ·rw[hc];simp;omega
set_option maxHeartbeats 8000000
def gD (p0:CData) (K:Circ->Prop):Prop :=
 ar (α:=(List Node)) (fun k12=>aB (S:=((List Node)×Nat)) (fun (v14,v15) nx17=>0<4/\(p0.inp%4)<256/\((!ltN (p0.inp%4) v15)=true->(v14.length+([(⟨0,([]:(List Nat)),0,0⟩:Node)]:(List Node)).length)*48<=2 ^ 47/\v15+1<2 ^ 63/\nx17 ((v14++([(⟨0,([]:(List Nat)),0,0⟩:Node)]:(List Node))),(v15+1)))/\((!ltN (p0.inp%4) v15)=false->k12 v14)) (([]:List Node),0)) (fun v10=>0<3/\(p0.dffs%3)<256/\ar (α:=(List Node)) (fun k23=>aB (S:=((List Node)×Nat)) (fun (v25,v26) nx28=>((ltN v26 (p0.dffs%3))=true->(v25.length+([(⟨14,([0]:(List Nat)),0,0⟩:Node)]:(List Node)).length)*48<=2 ^ 47/\v26+1<2 ^ 63/\nx28 ((v25++([(⟨14,([0]:(List Nat)),0,0⟩:Node)]:(List Node))),(v26+1)))/\((ltN v26 (p0.dffs%3))=false->k23 v25)) (v10,0)) (fun v21=>ar (α:=(List Node)) (fun k34=>(p0.mem=true->(v21.length+([(⟨15,([]:(List Nat)),0,0⟩:Node),(⟨15,([]:(List Nat)),0,1⟩:Node)]:(List Node)).length)*48<=2 ^ 47/\k34 (v21++([(⟨15,([]:(List Nat)),0,0⟩:Node),(⟨15,([]:(List Nat)),0,1⟩:Node)]:(List Node))))/\(p0.mem=false->k34 v21)) (fun v32=>ar (α:=(List Node)) (fun k40=>aB (S:=((List Node)×Nat)) (fun (v42,v43) nx45=>ar (α:=Bool) (fun k48=>((ltN v43 p0.gates.length)=true->k48 (ltN v43 8))/\((ltN v43 p0.gates.length)=false->k48 false)) (fun v46=>(v46=true->∃ x49,p0.gates[v43]?=some x49/\GOk x49/\0<v42.length/\v42.length<=1000/\(v42.length+([(fO p0.bus x49 (v42.map Node.kind))]:(List Node)).length)*48<=2 ^ 47/\v43+1<2 ^ 63/\nx45 ((v42++([(fO p0.bus x49 (v42.map Node.kind))]:(List Node))),(v43+1)))/\(v46=false->k40 v42))) (v32,0)) (fun v38=>ar (α:=(List Node)) (fun k58=>aB (S:=((List Node)×Nat)) (fun (v60,v61) nx63=>((ltN v61 (p0.dffs%3))=true->v10.length+v61<2 ^ 63/\v61<2/\(v61=0->p0.data0<256/\0<v38.length/\∃ x66,v60[(v10.length+v61)]?=some x66/\v61+1<2 ^ 63/\nx63 ((v60.set (v10.length+v61) { x66 with ins:=([(p0.data0%v38.length)]:(List Nat)) }),(v61+1)))/\(v61=1->p0.data1<256/\0<v38.length/\∃ x70,v60[(v10.length+v61)]?=some x70/\v61+1<2 ^ 63/\nx63 ((v60.set (v10.length+v61) { x70 with ins:=([(p0.data1%v38.length)]:(List Nat)) }),(v61+1))))/\((ltN v61 (p0.dffs%3))=false->k58 v60)) (v38,0)) (fun v56=>(p0.mem=true->p0.port0<256/\0<v38.length/\p0.port1<256/\0<v38.length/\p0.port2<256/\0<v38.length/\p0.port3<256/\0<v38.length/\ar (α:=(List ByteArray)) (fun k82=>aB (S:=((List ByteArray)×Nat)) (fun (v84,v85) nx88=>((ltN v85 v38.length)=true->gk v85 (fun r89=>(v84.length+([r89]:(List ByteArray)).length)*16<=2 ^ 47/\v85+1<2 ^ 63/\nx88 ((v84++([r89]:(List ByteArray))),(v85+1))))/\((ltN v85 v38.length)=false->k82 v84)) (([]:List ByteArray),0)) (fun v79=>ar (α:=(List Nat)) (fun k99=>aB (S:=((List Nat)×Nat)) (fun (v101,v102) nx106=>ar (α:=Bool) (fun k111=>((ltN v102 p0.outs.length)=true->k111 (ltN v102 3))/\((ltN v102 p0.outs.length)=false->k111 false)) (fun v107=>(v107=true->∃ x112,p0.outs[v102]?=some x112/\x112<256/\0<v38.length/\(v101.length+([(x112%v38.length)]:(List Nat)).length)*8<=2 ^ 47/\v102+1<2 ^ 63/\nx106 ((v101++([(x112%v38.length)]:(List Nat))),(v102+1)))/\(v107=false->k99 v101))) (([]:List Nat),0)) (fun v95=>1<=v38.length/\v38.length<2 ^ 63/\(v95.length+([(v38.length-1)]:(List Nat)).length)*8<=2 ^ 47/\1=([(p0.port0%v38.length)]:(List Nat)).length/\2=([(p0.port1%v38.length),(p0.port2%v38.length)]:(List Nat)).length/\1=([(p0.port0%v38.length)]:(List Nat)).length/\2=([(p0.port1%v38.length),(p0.port2%v38.length)]:(List Nat)).length/\K (⟨v56,v79,[(⟨([(p0.port0%v38.length)]:(List Nat)),([(p0.port1%v38.length),(p0.port2%v38.length)]:(List Nat)),(p0.port3%v38.length)⟩:Memo)],(v95++([(v38.length-1)]:(List Nat)))⟩:Circ))))/\(p0.mem=false->ar (α:=(List ByteArray)) (fun k127=>aB (S:=((List ByteArray)×Nat)) (fun (v129,v130) nx133=>((ltN v130 v38.length)=true->gk v130 (fun r134=>(v129.length+([r134]:(List ByteArray)).length)*16<=2 ^ 47/\v130+1<2 ^ 63/\nx133 ((v129++([r134]:(List ByteArray))),(v130+1))))/\((ltN v130 v38.length)=false->k127 v129)) (([]:List ByteArray),0)) (fun v124=>ar (α:=(List Nat)) (fun k144=>aB (S:=((List Nat)×Nat)) (fun (v146,v147) nx151=>ar (α:=Bool) (fun k156=>((ltN v147 p0.outs.length)=true->k156 (ltN v147 3))/\((ltN v147 p0.outs.length)=false->k156 false)) (fun v152=>(v152=true->∃ x157,p0.outs[v147]?=some x157/\x157<256/\0<v38.length/\(v146.length+([(x157%v38.length)]:(List Nat)).length)*8<=2 ^ 47/\v147+1<2 ^ 63/\nx151 ((v146++([(x157%v38.length)]:(List Nat))),(v147+1)))/\(v152=false->k144 v146))) (([]:List Nat),0)) (fun v140=>1<=v38.length/\v38.length<2 ^ 63/\(v140.length+([(v38.length-1)]:(List Nat)).length)*8<=2 ^ 47/\K (⟨v56,v124,([]:List Memo),(v140++([(v38.length-1)]:(List Nat)))⟩:Circ)))))))))
theorem sb {p0:CData}{K:Circ->Prop} (hm:gD p0 K) {h0:Heap} (hB:HasB vars h0):∃ r,K r/\CallD Tryz.prog NG 39 ⟨[tM p0]⟩ h0 (ax r) h0:=by
 unfold gD at hm
 refine fw Tryz.func39 hB (enc:=ax) (fun r=>jq _) fun O=>?_;conv=>whnf
 refine gX ?_
 refine fz ?_;refine gH ?_
 refine O.new (ai (l:=[nS,nS,nS,nS]) rfl rfl rfl) fun g1 h O=>?_;refine gH ?_
 refine gX ?_
 have O:=O.bc (.cells (flatC ((([]:List Node)).map an)) false)
 have O:=O.bc (.cells (flatC ((([]:List ByteArray)).map Value.string)) false)
 have O:=O.bc (.cells (flatC ((([]:List Memo)).map ay)) false)
 have O:=O.bc (.cells (flatC ((([]:List Nat)).map i64)) false)
 refine O.new (ai (l:=[nS,nS,nS,nS]) rfl rfl rfl) fun g3 h O=>?_;refine gH ?_
 refine jn (σ:=(List Node)×Option Nat) hm 178 [1,2,3] (fun s=>s.1) (fun (v10,a9) h=>(a9=none->v10=[])/\Own vars h0 [(sC g1 [nS,nS,nS,nS]),(sC g3 [(aj 4 a9 (v10.map an)),(aj 1 none (([]:List ByteArray).map Value.string)),(aj 3 none (([]:List Memo).map ay)),(aj 1 none (([]:List Nat).map i64))]),(a9,.cells (flatC (v10.map an)) false),(none,.cells (flatC (([]:List ByteArray).map Value.string)) false),(none,.cells (flatC (([]:List Memo).map ay)) false),(none,.cells (flatC (([]:List Nat).map i64)) false)] h) (fun (v10,a9)=>[]) (fun hm=>?_) ?_
 ·refine gX ?_
  refine lw 178 [1,2,3] (σ:=((List Node)×Nat)×Option Nat) (fun s=>s.1) (fun ((v14,v15),a13) h=>(a13=none->v14=[])/\Own vars h0 [(sC g1 [nS,nS,nS,nS]),(sC g3 [(aj 4 a13 (v14.map an)),(aj 1 none (([]:List ByteArray).map Value.string)),(aj 3 none (([]:List Memo).map ay)),(aj 1 none (([]:List Nat).map i64))]),(a13,.cells (flatC (v14.map an)) false),(none,.cells (flatC (([]:List ByteArray).map Value.string)) false),(none,.cells (flatC (([]:List Memo).map ay)) false),(none,.cells (flatC (([]:List Nat).map i64)) false)] h) (fun ((v14,v15),a13)=>[(4,(i64 v15))]) ((([]:List Node),0),none) hm ⟨(fun _=>rfl),(O.sel [5,0,4,3,2,1] (by decide))⟩ ?_
  clear hm;rintro⟨⟨v14,v15⟩,a13⟩ nx17 base h hm ⟨ha16,O⟩
  refine gX ?_
  refine pE hm fun hm=>?_;refine gH ?_
  refine aCv hm wI8 fun hm=>?_;refine gX ?_
  refine br hm (fun hm=>?_) fun hm=>?_
  ·refine gX ?_
   refine NewG.frzW rfl (VLe.els (s:=4) (es':=([(⟨0,([]:(List Nat)),0,0⟩:Node)]).map an) rfl (bI (enc:=an) (s:=4) (fun _=>rfl) _) (LLe.cons (VLe.refl _ _) (LLe.cons (VLe.nil _ _) (LLe.cons (VLe.refl _ _) (LLe.cons (VLe.refl _ _) (LLe.nil _)))))) ?_;refine gH ?_
   refine O.apL (enc:=an) (l:=v14) (new:=([(⟨0,([]:(List Nat)),0,0⟩:Node)]:(List Node))) 4 (.tail _ (.tail _ (.head _))) ha16 hm fun a18 h ha19 O hm=>?_;refine gH ?_
   refine O.stC 1 (.tail _ (.head _)) [(aj 4 a18 ((v14++([(⟨0,([]:(List Nat)),0,0⟩:Node)]:(List Node))).map an)),(aj 1 none (([]:List ByteArray).map Value.string)),(aj 3 none (([]:List Memo).map ay)),(aj 1 none (([]:List Nat).map i64))] fun h O=>?_;refine gX ?_
   refine aR hm fun hm=>?_;refine gH ?_
   exact jx (((v14++([(⟨0,([]:(List Nat)),0,0⟩:Node)]:(List Node))),(v15+1)),a18) hm ⟨ha19,O⟩
  ·refine gX ?_
   exact jx (v14,a13) hm ⟨ha16,O⟩
 ·clear hm;rintro⟨v10,a9⟩ base h hm ⟨ha11,O⟩
  refine gX ?_
  refine pE hm fun hm=>?_;refine gH ?_
  refine aCv hm wI8 fun hm=>?_;refine gH ?_
  refine jn (σ:=(List Node)×Option Nat) hm 178 [1,2,3,5,6] (fun s=>s.1) (fun (v21,a20) h=>(a20=none->v21=[])/\Own vars h0 [(sC g1 [nS,nS,nS,nS]),(sC g3 [(aj 4 a20 (v21.map an)),(aj 1 none (([]:List ByteArray).map Value.string)),(aj 3 none (([]:List Memo).map ay)),(aj 1 none (([]:List Nat).map i64))]),(a20,.cells (flatC (v21.map an)) false),(none,.cells (flatC (([]:List ByteArray).map Value.string)) false),(none,.cells (flatC (([]:List Memo).map ay)) false),(none,.cells (flatC (([]:List Nat).map i64)) false)] h) (fun (v21,a20)=>[]) (fun hm=>?_) ?_
  ·refine gX ?_
   refine lw 178 [1,2,3,5,6] (σ:=((List Node)×Nat)×Option Nat) (fun s=>s.1) (fun ((v25,v26),a24) h=>(a24=none->v25=[])/\Own vars h0 [(sC g1 [nS,nS,nS,nS]),(sC g3 [(aj 4 a24 (v25.map an)),(aj 1 none (([]:List ByteArray).map Value.string)),(aj 3 none (([]:List Memo).map ay)),(aj 1 none (([]:List Nat).map i64))]),(a24,.cells (flatC (v25.map an)) false),(none,.cells (flatC (([]:List ByteArray).map Value.string)) false),(none,.cells (flatC (([]:List Memo).map ay)) false),(none,.cells (flatC (([]:List Nat).map i64)) false)] h) (fun ((v25,v26),a24)=>[(7,(i64 v26))]) ((v10,0),a9) hm ⟨ha11,O⟩ ?_
   clear hm;rintro⟨⟨v25,v26⟩,a24⟩ nx28 base h hm ⟨ha27,O⟩
   refine gX ?_
   refine br hm (fun hm=>?_) fun hm=>?_
   ·refine gX ?_
    refine fz ?_;refine gH ?_
    refine fz ?_;refine gH ?_
    refine O.apL (enc:=an) (l:=v25) (new:=([(⟨14,([0]:(List Nat)),0,0⟩:Node)]:(List Node))) 4 (.tail _ (.tail _ (.head _))) ha27 hm fun a29 h ha30 O hm=>?_;refine gH ?_
    refine O.stC 1 (.tail _ (.head _)) [(aj 4 a29 ((v25++([(⟨14,([0]:(List Nat)),0,0⟩:Node)]:(List Node))).map an)),(aj 1 none (([]:List ByteArray).map Value.string)),(aj 3 none (([]:List Memo).map ay)),(aj 1 none (([]:List Nat).map i64))] fun h O=>?_;refine gX ?_
    refine aR hm fun hm=>?_;refine gH ?_
    exact jx (((v25++([(⟨14,([0]:(List Nat)),0,0⟩:Node)]:(List Node))),(v26+1)),a29) hm ⟨ha30,O⟩
   ·refine gX ?_
    exact jx (v25,a24) hm ⟨ha27,O⟩
  ·clear hm;rintro⟨v21,a20⟩ base h hm ⟨ha22,O⟩
   conv=>whnf
   refine jn (σ:=(List Node)×Option Nat) hm 178 [1,2,3,5,6] (fun s=>s.1) (fun (v32,a31) h=>(a31=none->v32=[])/\Own vars h0 [(sC g1 [nS,nS,nS,nS]),(sC g3 [(aj 4 a31 (v32.map an)),(aj 1 none (([]:List ByteArray).map Value.string)),(aj 3 none (([]:List Memo).map ay)),(aj 1 none (([]:List Nat).map i64))]),(a31,.cells (flatC (v32.map an)) false),(none,.cells (flatC (([]:List ByteArray).map Value.string)) false),(none,.cells (flatC (([]:List Memo).map ay)) false),(none,.cells (flatC (([]:List Nat).map i64)) false)] h) (fun (v32,a31)=>[]) (fun hm=>?_) ?_
   ·refine gX ?_
    refine br hm (fun hm=>?_) fun hm=>?_
    ·refine gX ?_
     refine NewG.frzW rfl (VLe.els (s:=4) (es':=([(⟨15,([]:(List Nat)),0,0⟩:Node),(⟨15,([]:(List Nat)),0,1⟩:Node)]).map an) rfl (bI (enc:=an) (s:=4) (fun _=>rfl) _) (LLe.cons (VLe.refl _ _) (LLe.cons (VLe.nil _ _) (LLe.cons (VLe.refl _ _) (LLe.cons (VLe.refl _ _) (LLe.cons (VLe.refl _ _) (LLe.cons (VLe.nil _ _) (LLe.cons (VLe.refl _ _) (LLe.cons (VLe.refl _ _) (LLe.nil _)))))))))) ?_;refine gH ?_
     refine O.apL (enc:=an) (l:=v21) (new:=([(⟨15,([]:(List Nat)),0,0⟩:Node),(⟨15,([]:(List Nat)),0,1⟩:Node)]:(List Node))) 4 (.tail _ (.tail _ (.head _))) ha22 hm fun a35 h ha36 O hm=>?_;refine gH ?_
     refine O.stC 1 (.tail _ (.head _)) [(aj 4 a35 ((v21++([(⟨15,([]:(List Nat)),0,0⟩:Node),(⟨15,([]:(List Nat)),0,1⟩:Node)]:(List Node))).map an)),(aj 1 none (([]:List ByteArray).map Value.string)),(aj 3 none (([]:List Memo).map ay)),(aj 1 none (([]:List Nat).map i64))] fun h O=>?_;refine gH ?_
     exact jx ((v21++([(⟨15,([]:(List Nat)),0,0⟩:Node),(⟨15,([]:(List Nat)),0,1⟩:Node)]:(List Node))),a35) hm ⟨ha36,O⟩
    ·refine gX ?_
     exact jx (v21,a20) hm ⟨ha22,O⟩
   ·clear hm;rintro⟨v32,a31⟩ base h hm ⟨ha33,O⟩
    conv=>whnf
    refine jn (σ:=(List Node)×Option Nat) hm 178 [1,2,3,5,6] (fun s=>s.1) (fun (v38,a37) h=>(a37=none->v38=[])/\Own vars h0 [(sC g1 [nS,nS,nS,nS]),(sC g3 [(aj 4 a37 (v38.map an)),(aj 1 none (([]:List ByteArray).map Value.string)),(aj 3 none (([]:List Memo).map ay)),(aj 1 none (([]:List Nat).map i64))]),(a37,.cells (flatC (v38.map an)) false),(none,.cells (flatC (([]:List ByteArray).map Value.string)) false),(none,.cells (flatC (([]:List Memo).map ay)) false),(none,.cells (flatC (([]:List Nat).map i64)) false)] h) (fun (v38,a37)=>[]) (fun hm=>?_) ?_
    ·refine gX ?_
     refine lw 178 [1,2,3,5,6] (σ:=((List Node)×Nat)×Option Nat) (fun s=>s.1) (fun ((v42,v43),a41) h=>(a41=none->v42=[])/\Own vars h0 [(sC g1 [nS,nS,nS,nS]),(sC g3 [(aj 4 a41 (v42.map an)),(aj 1 none (([]:List ByteArray).map Value.string)),(aj 3 none (([]:List Memo).map ay)),(aj 1 none (([]:List Nat).map i64))]),(a41,.cells (flatC (v42.map an)) false),(none,.cells (flatC (([]:List ByteArray).map Value.string)) false),(none,.cells (flatC (([]:List Memo).map ay)) false),(none,.cells (flatC (([]:List Nat).map i64)) false)] h) (fun ((v42,v43),a41)=>[(8,(i64 v43))]) ((v32,0),a31) hm ⟨ha33,O⟩ ?_
     clear hm;rintro⟨⟨v42,v43⟩,a41⟩ nx45 base h hm ⟨ha44,O⟩
     conv=>whnf
     apply Cs;conv=>whnf
     refine jn hm 178 [1,2,3,5,6,8] (fun s=>s) (fun v46 h=>(a41=none->v42=[])/\Own vars h0 [(sC g1 [nS,nS,nS,nS]),(sC g3 [(aj 4 a41 (v42.map an)),(aj 1 none (([]:List ByteArray).map Value.string)),(aj 3 none (([]:List Memo).map ay)),(aj 1 none (([]:List Nat).map i64))]),(a41,.cells (flatC (v42.map an)) false),(none,.cells (flatC (([]:List ByteArray).map Value.string)) false),(none,.cells (flatC (([]:List Memo).map ay)) false),(none,.cells (flatC (([]:List Nat).map i64)) false)] h) (fun v46=>[(63,(.bool v46))]) (fun hm=>?_) ?_
     ·refine gX ?_
      refine br hm (fun hm=>?_) fun hm=>?_
      ·refine gX ?_
       exact jx (ltN v43 8) hm ⟨ha44,O⟩
      ·refine gX ?_
       exact jx false hm ⟨ha44,O⟩
     ·clear hm;rintro v46 base h hm ⟨ha47,O⟩
      refine gX ?_
      refine br hm (fun hm=>?_) fun hm=>?_
      ·refine gX ?_
       first|refine⟨.inr (.inr (ae rfl (O.at (.tail _ (.head _))) rfl rfl)),?_⟩|refine⟨.inr (.inl (by kernel_rfl)),?_⟩
       refine gX ?_
       refine dF ?_
       refine gX ?_
       refine dF ?_
       refine gX ?_
       refine atF hm fun x49 hx49 hm=>?_;refine gH ?_
       refine dF ?_
       refine gX ?_
       first|refine⟨.inr (.inr (ae rfl (O.at (.tail _ (.head _))) rfl rfl)),?_⟩|refine⟨.inr (.inl (by kernel_rfl)),?_⟩
       refine gX ?_
       obtain⟨hgk,hn1,hn2,hm⟩:=hm
       have h9:=hm
       obtain⟨g50,rfl⟩:=zW ha47 hn1
       replace hm:=h9
       refine⟨_,_,Cy (x:=p0) hgk hn1 hn2 O.has (O.at (.tail _ (.tail _ (.head _)))),?_⟩;refine gH ?_
       refine⟨.inl (Ext.refl _),?_⟩;refine gH ?_
       refine O.dq (l:=([(fO p0.bus x49 (v42.map Node.kind))]:(List Node))) (enc:=an) (s:=4) (z:=(.agg ⟨[(n8 0),nS,(i64 0),(i64 0)]⟩)) rfl rfl (by kernel_rfl) (by kernel_rfl) rfl rfl rfl rfl (fun _=>rfl) fun g51 h O=>?_;refine gH ?_
       refine O.gB (enc:=an) (l:=v42) (new:=([(fO p0.bus x49 (v42.map Node.kind))]:(List Node))) (s:=4) (b:=48) (.tail _ (.tail _ (.tail _ (.head _)))) gG rfl rfl rfl rfl rfl rfl rfl rfl (YOk.own (O.at (.head _)) rfl (fun _=>rfl) rfl) (fun _=>rfl) (fun _=>rfl) (by decide) hm.1 fun a53 h ha54 O=>?_;refine gH ?_
       replace hm:=hm.2
       refine O.stC 1 (.tail _ (.tail _ (.head _))) [(aj 4 a53 ((v42++([(fO p0.bus x49 (v42.map Node.kind))]:(List Node))).map an)),(aj 1 none (([]:List ByteArray).map Value.string)),(aj 3 none (([]:List Memo).map ay)),(aj 1 none (([]:List Nat).map i64))] fun h O=>?_;refine gH ?_
       refine gX ?_
       refine aR hm fun hm=>?_;refine gH ?_
       exact jx (((v42++([(fO p0.bus x49 (v42.map Node.kind))]:(List Node))),(v43+1)),a53) hm ⟨ha54,(O.sel [1,2,3,4,5,6] (by decide))⟩
      ·refine gX ?_
       exact jx (v42,a41) hm ⟨ha47,O⟩
    ·clear hm;rintro⟨v38,a37⟩ base h hm ⟨ha39,O⟩
     conv=>whnf
     apply Cs;conv=>whnf
     apply Cs;refine gH ?_
     refine jn (σ:=(List Node)×Option Nat) hm 178 [1,2,3,9] (fun s=>s.1) (fun (v56,a55) h=>(a55=none->v56=[])/\Own vars h0 [(sC g1 [nS,nS,nS,nS]),(sC g3 [(aj 4 a55 (v56.map an)),(aj 1 none (([]:List ByteArray).map Value.string)),(aj 3 none (([]:List Memo).map ay)),(aj 1 none (([]:List Nat).map i64))]),(a55,.cells (flatC (v56.map an)) false),(none,.cells (flatC (([]:List ByteArray).map Value.string)) false),(none,.cells (flatC (([]:List Memo).map ay)) false),(none,.cells (flatC (([]:List Nat).map i64)) false)] h) (fun (v56,a55)=>[]) (fun hm=>?_) ?_
     ·refine gX ?_
      refine lw 178 [1,2,3,5,6,9] (σ:=((List Node)×Nat)×Option Nat) (fun s=>s.1) (fun ((v60,v61),a59) h=>(a59=none->v60=[])/\Own vars h0 [(sC g1 [nS,nS,nS,nS]),(sC g3 [(aj 4 a59 (v60.map an)),(aj 1 none (([]:List ByteArray).map Value.string)),(aj 3 none (([]:List Memo).map ay)),(aj 1 none (([]:List Nat).map i64))]),(a59,.cells (flatC (v60.map an)) false),(none,.cells (flatC (([]:List ByteArray).map Value.string)) false),(none,.cells (flatC (([]:List Memo).map ay)) false),(none,.cells (flatC (([]:List Nat).map i64)) false)] h) (fun ((v60,v61),a59)=>[(10,(i64 v61))]) ((v38,0),a37) hm ⟨ha39,O⟩ ?_
      clear hm;rintro⟨⟨v60,v61⟩,a59⟩ nx63 base h hm ⟨ha62,O⟩
      refine gX ?_
      refine br hm (fun hm=>?_) fun hm=>?_
      ·refine gX ?_
       first|refine⟨.inr (.inr (ae rfl (O.at (.tail _ (.head _))) rfl rfl)),?_⟩|refine⟨.inr (.inl (by kernel_rfl)),?_⟩
       refine gX ?_
       refine aR hm fun hm=>?_;refine gH ?_
       have hq:v61=0\/v61=1:=by have:=hm.1;omega
       replace hm:=hm.2
       rcases hq with hq|hq
       ·replace hm:=hm.1 hq
        refine C8 (s:=1) (j:=v61) (q:=0) rfl rfl rfl rfl hq rfl rfl ?_;refine gH ?_
        refine aCv hm wI8 fun hm=>?_;refine gH ?_
        refine pE hm fun hm=>?_;refine gH ?_
        refine O.dq (l:=([(p0.data0%v38.length)]:(List Nat))) (enc:=i64) (s:=1) (z:=(i64 0)) rfl rfl (by kernel_rfl) (by kernel_rfl) rfl rfl rfl rfl (fun _=>rfl) fun g64 h O=>?_;refine gH ?_
        obtain⟨x66,hx66,hm⟩:=hm
        have h9:=hm
        obtain⟨g67,rfl⟩:=lx ha62 hx66
        replace hm:=h9
        refine bV (s:=4) (j:=(v10.length+v61)) rfl rfl rfl rfl (by rw[List.length_map];exact ak hx66) ?_;refine gH ?_
        refine O.store (n:=1) (cs':=(aS (flatC (v60.map an)) (0+(v10.length+v61)*4+1) [(.slice (some ⟨g64,0,none⟩) 1 1)])) (.tail _ (.tail _ (.tail _ (.head _)))) rfl rfl rfl rfl (Bv (enc:=an) (s:=4) (k:=1) (n:=1) (fun _=>rfl) (ak hx66) (lbE rfl)) rfl rfl fun h O=>?_;refine gH ?_
        refine CodeS.ghost (cs2':=flatC ((v60.set (v10.length+v61) { x66 with ins:=([(p0.data0%v38.length)]:(List Nat)) }).map an)) O (.head _) (.tail _ (.tail _ (.tail _ (.head _)))) (t1:=100) (t2:=89) rfl rfl rfl rfl (fun h2 hq=>oM (enc:=an) (s:=4) (fun _=>rfl) hx66 (x:={ x66 with ins:=([(p0.data0%v38.length)]:(List Nat)) }) (k:=1) (v':=(ah 1 i64) ([(p0.data0%v38.length)]:(List Nat))) (lbE rfl) rfl (VLe.flM hq rfl (fun _=>rfl))) fun h O=>?_
        try rw[sS (enc:=an) (l:=v60) (j:=(v10.length+v61)) (x:={ x66 with ins:=([(p0.data0%v38.length)]:(List Nat)) })] at O
        refine gX ?_
        refine aR hm fun hm=>?_;refine gH ?_
        exact jx (((v60.set (v10.length+v61) { x66 with ins:=([(p0.data0%v38.length)]:(List Nat)) }),(v61+1)),(some g67)) hm ⟨gG,(O.sel [1,2,3,4,5,6] (by decide))⟩
       ·replace hm:=hm.2 hq
        refine C8 (s:=1) (j:=v61) (q:=1) rfl rfl rfl rfl hq rfl rfl ?_;refine gH ?_
        refine aCv hm wI8 fun hm=>?_;refine gH ?_
        refine pE hm fun hm=>?_;refine gH ?_
        refine O.dq (l:=([(p0.data1%v38.length)]:(List Nat))) (enc:=i64) (s:=1) (z:=(i64 0)) rfl rfl (by kernel_rfl) (by kernel_rfl) rfl rfl rfl rfl (fun _=>rfl) fun g68 h O=>?_;refine gH ?_
        obtain⟨x70,hx70,hm⟩:=hm
        have h9:=hm
        obtain⟨g71,rfl⟩:=lx ha62 hx70
        replace hm:=h9
        refine bV (s:=4) (j:=(v10.length+v61)) rfl rfl rfl rfl (by rw[List.length_map];exact ak hx70) ?_;refine gH ?_
        refine O.store (n:=1) (cs':=(aS (flatC (v60.map an)) (0+(v10.length+v61)*4+1) [(.slice (some ⟨g68,0,none⟩) 1 1)])) (.tail _ (.tail _ (.tail _ (.head _)))) rfl rfl rfl rfl (Bv (enc:=an) (s:=4) (k:=1) (n:=1) (fun _=>rfl) (ak hx70) (lbE rfl)) rfl rfl fun h O=>?_;refine gH ?_
        refine CodeS.ghost (cs2':=flatC ((v60.set (v10.length+v61) { x70 with ins:=([(p0.data1%v38.length)]:(List Nat)) }).map an)) O (.head _) (.tail _ (.tail _ (.tail _ (.head _)))) (t1:=100) (t2:=89) rfl rfl rfl rfl (fun h2 hq=>oM (enc:=an) (s:=4) (fun _=>rfl) hx70 (x:={ x70 with ins:=([(p0.data1%v38.length)]:(List Nat)) }) (k:=1) (v':=(ah 1 i64) ([(p0.data1%v38.length)]:(List Nat))) (lbE rfl) rfl (VLe.flM hq rfl (fun _=>rfl))) fun h O=>?_
        try rw[sS (enc:=an) (l:=v60) (j:=(v10.length+v61)) (x:={ x70 with ins:=([(p0.data1%v38.length)]:(List Nat)) })] at O
        refine gX ?_
        refine aR hm fun hm=>?_;refine gH ?_
        exact jx (((v60.set (v10.length+v61) { x70 with ins:=([(p0.data1%v38.length)]:(List Nat)) }),(v61+1)),(some g71)) hm ⟨gG,(O.sel [1,2,3,4,5,6] (by decide))⟩
      ·refine gX ?_
       exact jx (v60,a59) hm ⟨ha62,O⟩
     ·clear hm;rintro⟨v56,a55⟩ base h hm ⟨ha57,O⟩
      refine gX ?_
      refine br hm (fun hm=>?_) fun hm=>?_
      ·refine gX ?_
       refine tF rfl ?_;refine gH ?_
       refine aCv hm wI8 fun hm=>?_;refine gH ?_
       refine pE hm fun hm=>?_;refine gH ?_
       refine O.dq (l:=([(p0.port0%v38.length)]:(List Nat))) (enc:=i64) (s:=1) (z:=(i64 0)) rfl rfl (by kernel_rfl) (by kernel_rfl) rfl rfl rfl rfl (fun _=>rfl) fun g72 h O=>?_;refine gH ?_
       refine tF rfl ?_;refine gH ?_
       refine aCv hm wI8 fun hm=>?_;refine gH ?_
       refine pE hm fun hm=>?_;refine gH ?_
       refine tF rfl ?_;refine gH ?_
       refine aCv hm wI8 fun hm=>?_;refine gH ?_
       refine pE hm fun hm=>?_;refine gH ?_
       refine O.dq (l:=([(p0.port1%v38.length),(p0.port2%v38.length)]:(List Nat))) (enc:=i64) (s:=1) (z:=(i64 0)) rfl rfl (by kernel_rfl) (by kernel_rfl) rfl rfl rfl rfl (fun _=>rfl) fun g74 h O=>?_;refine gH ?_
       refine tF rfl ?_;refine gH ?_
       refine aCv hm wI8 fun hm=>?_;refine gH ?_
       refine pE hm fun hm=>?_;refine gH ?_
       refine O.bF (kZ (vs:=[(.agg ⟨[(.slice (some ⟨g72,0,none⟩) 1 1),(.slice (some ⟨g74,0,none⟩) 2 2),(i64 (p0.port3%v38.length))]⟩)]) (s:=3) (z:=(.agg ⟨[nS,nS,(i64 0)]⟩)) rfl rfl (by kernel_rfl) (by kernel_rfl) rfl rfl rfl rfl (by intro e he;simp only[List.mem_cons,List.not_mem_nil,or_false] at he;rcases he with rfl <;> rfl)) fun g76 h O=>?_;refine gH ?_
       refine O.stC 1 (.tail _ (.tail _ (.tail _ (.tail _ (.head _))))) [(aj 4 a55 (v56.map an)),(aj 1 none (([]:List ByteArray).map Value.string)),(.slice (some ⟨g76,0,none⟩) 1 1),(aj 1 none (([]:List Nat).map i64))] fun h O=>?_;refine gH ?_
       refine jn (σ:=(List ByteArray)×Option Nat) hm 178 [1,2,3,9] (fun s=>s.1) (fun (v79,a78) h=>(a55=none->v56=[])/\(a78=none->v79=[])/\Own vars h0 [(sC g1 [nS,nS,nS,nS]),(sC g3 [(aj 4 a55 (v56.map an)),(aj 1 a78 (v79.map Value.string)),(.slice (some ⟨g76,0,none⟩) 1 1),(aj 1 none (([]:List Nat).map i64))]),(a55,.cells (flatC (v56.map an)) false),(a78,.cells (flatC (v79.map Value.string)) false),(sC g76 [(.slice (some ⟨g72,0,none⟩) 1 1),(.slice (some ⟨g74,0,none⟩) 2 2),(i64 (p0.port3%v38.length))]),(sC g72 (flatC (([(p0.port0%v38.length)]:(List Nat)).map i64))),(sC g74 (flatC (([(p0.port1%v38.length),(p0.port2%v38.length)]:(List Nat)).map i64))),(none,.cells (flatC (([]:List Nat).map i64)) false)] h) (fun (v79,a78)=>[]) (fun hm=>?_) ?_
       ·refine gX ?_
        refine lw 178 [1,2,3,9] (σ:=((List ByteArray)×Nat)×Option Nat) (fun s=>s.1) (fun ((v84,v85),a83) h=>(a55=none->v56=[])/\(a83=none->v84=[])/\Own vars h0 [(sC g1 [nS,nS,nS,nS]),(sC g3 [(aj 4 a55 (v56.map an)),(aj 1 a83 (v84.map Value.string)),(.slice (some ⟨g76,0,none⟩) 1 1),(aj 1 none (([]:List Nat).map i64))]),(a55,.cells (flatC (v56.map an)) false),(a83,.cells (flatC (v84.map Value.string)) false),(sC g76 [(.slice (some ⟨g72,0,none⟩) 1 1),(.slice (some ⟨g74,0,none⟩) 2 2),(i64 (p0.port3%v38.length))]),(sC g72 (flatC (([(p0.port0%v38.length)]:(List Nat)).map i64))),(sC g74 (flatC (([(p0.port1%v38.length),(p0.port2%v38.length)]:(List Nat)).map i64))),(none,.cells (flatC (([]:List Nat).map i64)) false)] h) (fun ((v84,v85),a83)=>[(11,(i64 v85))]) ((([]:List ByteArray),0),none) hm ⟨ha57,(fun _=>rfl),(O.sel [3,4,5,6,0,2,1,8] (by decide))⟩ ?_
        clear hm;rintro⟨⟨v84,v85⟩,a83⟩ nx88 base h hm ⟨ha86,ha87,O⟩
        refine gX ?_
        refine br hm (fun hm=>?_) fun hm=>?_
        ·refine gX ?_
         first|refine⟨.inr (.inr (ae rfl (O.at (.tail _ (.head _))) rfl rfl)),?_⟩|refine⟨.inr (.inl (by kernel_rfl)),?_⟩
         refine gX ?_
         refine ca (jV hm O.has) fun r89 hm=>?_;refine gH ?_
         refine⟨.inl (Ext.refl _),?_⟩;refine gH ?_
         refine O.dq (l:=([r89]:(List ByteArray))) (enc:=Value.string) (s:=1) (z:=(.string (⟨#[]⟩:ByteArray))) rfl rfl (by kernel_rfl) (by kernel_rfl) rfl rfl rfl rfl (fun _=>rfl) fun g90 h O=>?_;refine gH ?_
         refine O.gB (enc:=Value.string) (l:=v84) (new:=([r89]:(List ByteArray))) (s:=1) (b:=16) (.tail _ (.tail _ (.tail _ (.tail _ (.head _))))) ha87 rfl rfl rfl rfl rfl rfl rfl rfl (YOk.own (O.at (.head _)) rfl (fun _=>rfl) rfl) (fun _=>rfl) (fun _=>rfl) (by decide) hm.1 fun a92 h ha93 O=>?_;refine gH ?_
         replace hm:=hm.2
         refine O.stC 1 (.tail _ (.tail _ (.head _))) [(aj 4 a55 (v56.map an)),(aj 1 a92 ((v84++([r89]:(List ByteArray))).map Value.string)),(.slice (some ⟨g76,0,none⟩) 1 1),(aj 1 none (([]:List Nat).map i64))] fun h O=>?_;refine gH ?_
         refine gX ?_
         refine aR hm fun hm=>?_;refine gH ?_
         exact jx (((v84++([r89]:(List ByteArray))),(v85+1)),a92) hm ⟨ha86,ha93,(O.sel [1,2,3,4,5,6,7,8] (by decide))⟩
        ·refine gX ?_
         exact jx (v84,a83) hm ⟨ha86,ha87,O⟩
       ·clear hm;rintro⟨v79,a78⟩ base h hm ⟨ha80,ha81,O⟩
        conv=>whnf
        refine jn (σ:=(List Nat)×Option Nat) hm 178 [2,3,9] (fun s=>s.1) (fun (v95,a94) h=>(a55=none->v56=[])/\(a78=none->v79=[])/\(a94=none->v95=[])/\Own vars h0 [(sC g1 [nS,nS,nS,nS]),(sC g3 [(aj 4 a55 (v56.map an)),(aj 1 a78 (v79.map Value.string)),(.slice (some ⟨g76,0,none⟩) 1 1),(aj 1 a94 (v95.map i64))]),(a55,.cells (flatC (v56.map an)) false),(a78,.cells (flatC (v79.map Value.string)) false),(sC g76 [(.slice (some ⟨g72,0,none⟩) 1 1),(.slice (some ⟨g74,0,none⟩) 2 2),(i64 (p0.port3%v38.length))]),(sC g72 (flatC (([(p0.port0%v38.length)]:(List Nat)).map i64))),(sC g74 (flatC (([(p0.port1%v38.length),(p0.port2%v38.length)]:(List Nat)).map i64))),(a94,.cells (flatC (v95.map i64)) false)] h) (fun (v95,a94)=>[]) (fun hm=>?_) ?_
        ·refine gX ?_
         refine lw 178 [1,2,3,9] (σ:=((List Nat)×Nat)×Option Nat) (fun s=>s.1) (fun ((v101,v102),a100) h=>(a55=none->v56=[])/\(a78=none->v79=[])/\(a100=none->v101=[])/\Own vars h0 [(sC g1 [nS,nS,nS,nS]),(sC g3 [(aj 4 a55 (v56.map an)),(aj 1 a78 (v79.map Value.string)),(.slice (some ⟨g76,0,none⟩) 1 1),(aj 1 a100 (v101.map i64))]),(a55,.cells (flatC (v56.map an)) false),(a78,.cells (flatC (v79.map Value.string)) false),(sC g76 [(.slice (some ⟨g72,0,none⟩) 1 1),(.slice (some ⟨g74,0,none⟩) 2 2),(i64 (p0.port3%v38.length))]),(sC g72 (flatC (([(p0.port0%v38.length)]:(List Nat)).map i64))),(sC g74 (flatC (([(p0.port1%v38.length),(p0.port2%v38.length)]:(List Nat)).map i64))),(a100,.cells (flatC (v101.map i64)) false)] h) (fun ((v101,v102),a100)=>[(12,(i64 v102))]) ((([]:List Nat),0),none) hm ⟨ha80,ha81,(fun _=>rfl),O⟩ ?_
         clear hm;rintro⟨⟨v101,v102⟩,a100⟩ nx106 base h hm ⟨ha103,ha104,ha105,O⟩
         conv=>whnf
         apply Cs;conv=>whnf
         refine jn hm 178 [1,2,3,9,12] (fun s=>s) (fun v107 h=>(a55=none->v56=[])/\(a78=none->v79=[])/\(a100=none->v101=[])/\Own vars h0 [(sC g1 [nS,nS,nS,nS]),(sC g3 [(aj 4 a55 (v56.map an)),(aj 1 a78 (v79.map Value.string)),(.slice (some ⟨g76,0,none⟩) 1 1),(aj 1 a100 (v101.map i64))]),(a55,.cells (flatC (v56.map an)) false),(a78,.cells (flatC (v79.map Value.string)) false),(sC g76 [(.slice (some ⟨g72,0,none⟩) 1 1),(.slice (some ⟨g74,0,none⟩) 2 2),(i64 (p0.port3%v38.length))]),(sC g72 (flatC (([(p0.port0%v38.length)]:(List Nat)).map i64))),(sC g74 (flatC (([(p0.port1%v38.length),(p0.port2%v38.length)]:(List Nat)).map i64))),(a100,.cells (flatC (v101.map i64)) false)] h) (fun v107=>[(154,(.bool v107))]) (fun hm=>?_) ?_
         ·refine gX ?_
          refine br hm (fun hm=>?_) fun hm=>?_
          ·refine gX ?_
           exact jx (ltN v102 3) hm ⟨ha103,ha104,ha105,O⟩
          ·refine gX ?_
           exact jx false hm ⟨ha103,ha104,ha105,O⟩
         ·clear hm;rintro v107 base h hm ⟨ha108,ha109,ha110,O⟩
          refine gX ?_
          refine br hm (fun hm=>?_) fun hm=>?_
          ·refine gX ?_
           first|refine⟨.inr (.inr (ae rfl (O.at (.tail _ (.head _))) rfl rfl)),?_⟩|refine⟨.inr (.inl (by kernel_rfl)),?_⟩
           refine gX ?_
           refine dF ?_
           refine gX ?_
           refine atF hm fun x112 hx112 hm=>?_;refine gH ?_
           refine aCv hm wI8 fun hm=>?_;refine gH ?_
           refine pE hm fun hm=>?_;refine gH ?_
           refine O.dq (l:=([(x112%v38.length)]:(List Nat))) (enc:=i64) (s:=1) (z:=(i64 0)) rfl rfl (by kernel_rfl) (by kernel_rfl) rfl rfl rfl rfl (fun _=>rfl) fun g113 h O=>?_;refine gH ?_
           refine O.gB (enc:=i64) (l:=v101) (new:=([(x112%v38.length)]:(List Nat))) (s:=1) (b:=8) (.tail _ (.tail _ (.tail _ (.tail _ (.tail _ (.tail _ (.tail _ (.tail _ (.head _))))))))) ha110 rfl rfl rfl rfl rfl rfl rfl rfl (YOk.own (O.at (.head _)) rfl (fun _=>rfl) rfl) (fun _=>rfl) (fun _=>rfl) (by decide) hm.1 fun a115 h ha116 O=>?_;refine gH ?_
           replace hm:=hm.2
           refine O.stC 1 (.tail _ (.tail _ (.head _))) [(aj 4 a55 (v56.map an)),(aj 1 a78 (v79.map Value.string)),(.slice (some ⟨g76,0,none⟩) 1 1),(aj 1 a115 ((v101++([(x112%v38.length)]:(List Nat))).map i64))] fun h O=>?_;refine gH ?_
           refine gX ?_
           refine aR hm fun hm=>?_;refine gH ?_
           exact jx (((v101++([(x112%v38.length)]:(List Nat))),(v102+1)),a115) hm ⟨ha108,ha109,ha116,(O.sel [1,2,3,4,5,6,7,8] (by decide))⟩
          ·refine gX ?_
           exact jx (v101,a100) hm ⟨ha108,ha109,ha110,O⟩
        ·clear hm;rintro⟨v95,a94⟩ base h hm ⟨ha96,ha97,ha98,O⟩
         refine gX ?_
         refine rf hm fun hm=>?_;refine gH ?_
         refine fz ?_;refine gH ?_
         refine O.apL (enc:=i64) (l:=v95) (new:=([(v38.length-1)]:(List Nat))) 1 (.tail _ (.tail _ (.tail _ (.tail _ (.tail _ (.tail _ (.tail _ (.head _)))))))) ha98 hm fun a117 h ha118 O hm=>?_;refine gH ?_
         refine O.stC 1 (.tail _ (.head _)) [(aj 4 a55 (v56.map an)),(aj 1 a78 (v79.map Value.string)),(.slice (some ⟨g76,0,none⟩) 1 1),(aj 1 a117 ((v95++([(v38.length-1)]:(List Nat))).map i64))] fun h O=>?_;refine gX ?_
         refine ldA (O.at (.tail _ (.head _))) ?_;refine gH ?_
         refine O.stC 4 (.head _) [(aj 4 a55 (v56.map an)),(aj 1 a78 (v79.map Value.string)),(.slice (some ⟨g76,0,none⟩) 1 1),(aj 1 a117 ((v95++([(v38.length-1)]:(List Nat))).map i64))] fun h O=>?_;refine gX ?_
         refine⟨_,aL rfl rfl (O.at (.head _)) rfl rfl (lbE rfl) rfl,?_⟩;conv=>whnf
         obtain⟨hn119,hn120,hn121,hn122,hm⟩:=hm
         exact⟨(⟨v56,v79,[(⟨([(p0.port0%v38.length)]:(List Nat)),([(p0.port1%v38.length),(p0.port2%v38.length)]:(List Nat)),(p0.port3%v38.length)⟩:Memo)],(v95++([(v38.length-1)]:(List Nat)))⟩:Circ),hm,O.ext,fun h2 F=>VLe.agg (LLe.cons (O.iA F (Nat.le_refl _) (.tail _ (.tail _ (.head _))) ha96 (fun _=>rfl)) (LLe.cons (O.iA F (Nat.le_refl _) (.tail _ (.tail _ (.tail _ (.head _)))) ha97 (fun _=>rfl)) (LLe.cons (O.yg (es:=([(⟨([(p0.port0%v38.length)]:(List Nat)),([(p0.port1%v38.length),(p0.port2%v38.length)]:(List Nat)),(p0.port3%v38.length)⟩:Memo)]:(List Memo)).map ay) F (Nat.le_refl _) (.tail _ (.tail _ (.tail _ (.tail _ (.head _))))) rfl (bI (enc:=ay) (s:=3) (fun _=>rfl) _) rfl (LLe.cons (O.iu F (Nat.le_refl _) (.tail _ (.tail _ (.tail _ (.tail _ (.tail _ (.head _)))))) (fun _=>rfl) hn121) (LLe.cons (O.iu F (Nat.le_refl _) (.tail _ (.tail _ (.tail _ (.tail _ (.tail _ (.tail _ (.head _))))))) (fun _=>rfl) hn122) (LLe.cons (VLe.refl _ _) (LLe.nil _))))) (LLe.cons (O.iA F (Nat.le_refl _) (.tail _ (.tail _ (.tail _ (.tail _ (.tail _ (.tail _ (.tail _ (.head _)))))))) ha118 (fun _=>rfl)) (LLe.nil _)))))⟩
      ·apply Cs;conv=>whnf
       refine jn (σ:=(List ByteArray)×Option Nat) hm 178 [1,2,3,9] (fun s=>s.1) (fun (v124,a123) h=>(a55=none->v56=[])/\(a123=none->v124=[])/\Own vars h0 [(sC g1 [nS,nS,nS,nS]),(sC g3 [(aj 4 a55 (v56.map an)),(aj 1 a123 (v124.map Value.string)),(aj 3 none (([]:List Memo).map ay)),(aj 1 none (([]:List Nat).map i64))]),(a55,.cells (flatC (v56.map an)) false),(a123,.cells (flatC (v124.map Value.string)) false),(none,.cells (flatC (([]:List Memo).map ay)) false),(none,.cells (flatC (([]:List Nat).map i64)) false)] h) (fun (v124,a123)=>[]) (fun hm=>?_) ?_
       ·refine gX ?_
        refine lw 178 [1,2,3,9] (σ:=((List ByteArray)×Nat)×Option Nat) (fun s=>s.1) (fun ((v129,v130),a128) h=>(a55=none->v56=[])/\(a128=none->v129=[])/\Own vars h0 [(sC g1 [nS,nS,nS,nS]),(sC g3 [(aj 4 a55 (v56.map an)),(aj 1 a128 (v129.map Value.string)),(aj 3 none (([]:List Memo).map ay)),(aj 1 none (([]:List Nat).map i64))]),(a55,.cells (flatC (v56.map an)) false),(a128,.cells (flatC (v129.map Value.string)) false),(none,.cells (flatC (([]:List Memo).map ay)) false),(none,.cells (flatC (([]:List Nat).map i64)) false)] h) (fun ((v129,v130),a128)=>[(11,(i64 v130))]) ((([]:List ByteArray),0),none) hm ⟨ha57,(fun _=>rfl),O⟩ ?_
        clear hm;rintro⟨⟨v129,v130⟩,a128⟩ nx133 base h hm ⟨ha131,ha132,O⟩
        refine gX ?_
        refine br hm (fun hm=>?_) fun hm=>?_
        ·refine gX ?_
         first|refine⟨.inr (.inr (ae rfl (O.at (.tail _ (.head _))) rfl rfl)),?_⟩|refine⟨.inr (.inl (by kernel_rfl)),?_⟩
         refine gX ?_
         refine ca (jV hm O.has) fun r134 hm=>?_;refine gH ?_
         refine⟨.inl (Ext.refl _),?_⟩;refine gH ?_
         refine O.dq (l:=([r134]:(List ByteArray))) (enc:=Value.string) (s:=1) (z:=(.string (⟨#[]⟩:ByteArray))) rfl rfl (by kernel_rfl) (by kernel_rfl) rfl rfl rfl rfl (fun _=>rfl) fun g135 h O=>?_;refine gH ?_
         refine O.gB (enc:=Value.string) (l:=v129) (new:=([r134]:(List ByteArray))) (s:=1) (b:=16) (.tail _ (.tail _ (.tail _ (.tail _ (.head _))))) ha132 rfl rfl rfl rfl rfl rfl rfl rfl (YOk.own (O.at (.head _)) rfl (fun _=>rfl) rfl) (fun _=>rfl) (fun _=>rfl) (by decide) hm.1 fun a137 h ha138 O=>?_;refine gH ?_
         replace hm:=hm.2
         refine O.stC 1 (.tail _ (.tail _ (.head _))) [(aj 4 a55 (v56.map an)),(aj 1 a137 ((v129++([r134]:(List ByteArray))).map Value.string)),(aj 3 none (([]:List Memo).map ay)),(aj 1 none (([]:List Nat).map i64))] fun h O=>?_;refine gH ?_
         refine gX ?_
         refine aR hm fun hm=>?_;refine gH ?_
         exact jx (((v129++([r134]:(List ByteArray))),(v130+1)),a137) hm ⟨ha131,ha138,(O.sel [1,2,3,4,5,6] (by decide))⟩
        ·refine gX ?_
         exact jx (v129,a128) hm ⟨ha131,ha132,O⟩
       ·clear hm;rintro⟨v124,a123⟩ base h hm ⟨ha125,ha126,O⟩
        conv=>whnf
        refine jn (σ:=(List Nat)×Option Nat) hm 178 [2,3,9] (fun s=>s.1) (fun (v140,a139) h=>(a55=none->v56=[])/\(a123=none->v124=[])/\(a139=none->v140=[])/\Own vars h0 [(sC g1 [nS,nS,nS,nS]),(sC g3 [(aj 4 a55 (v56.map an)),(aj 1 a123 (v124.map Value.string)),(aj 3 none (([]:List Memo).map ay)),(aj 1 a139 (v140.map i64))]),(a55,.cells (flatC (v56.map an)) false),(a123,.cells (flatC (v124.map Value.string)) false),(none,.cells (flatC (([]:List Memo).map ay)) false),(a139,.cells (flatC (v140.map i64)) false)] h) (fun (v140,a139)=>[]) (fun hm=>?_) ?_
        ·refine gX ?_
         refine lw 178 [1,2,3,9] (σ:=((List Nat)×Nat)×Option Nat) (fun s=>s.1) (fun ((v146,v147),a145) h=>(a55=none->v56=[])/\(a123=none->v124=[])/\(a145=none->v146=[])/\Own vars h0 [(sC g1 [nS,nS,nS,nS]),(sC g3 [(aj 4 a55 (v56.map an)),(aj 1 a123 (v124.map Value.string)),(aj 3 none (([]:List Memo).map ay)),(aj 1 a145 (v146.map i64))]),(a55,.cells (flatC (v56.map an)) false),(a123,.cells (flatC (v124.map Value.string)) false),(none,.cells (flatC (([]:List Memo).map ay)) false),(a145,.cells (flatC (v146.map i64)) false)] h) (fun ((v146,v147),a145)=>[(12,(i64 v147))]) ((([]:List Nat),0),none) hm ⟨ha125,ha126,(fun _=>rfl),O⟩ ?_
         clear hm;rintro⟨⟨v146,v147⟩,a145⟩ nx151 base h hm ⟨ha148,ha149,ha150,O⟩
         conv=>whnf
         apply Cs;conv=>whnf
         refine jn hm 178 [1,2,3,9,12] (fun s=>s) (fun v152 h=>(a55=none->v56=[])/\(a123=none->v124=[])/\(a145=none->v146=[])/\Own vars h0 [(sC g1 [nS,nS,nS,nS]),(sC g3 [(aj 4 a55 (v56.map an)),(aj 1 a123 (v124.map Value.string)),(aj 3 none (([]:List Memo).map ay)),(aj 1 a145 (v146.map i64))]),(a55,.cells (flatC (v56.map an)) false),(a123,.cells (flatC (v124.map Value.string)) false),(none,.cells (flatC (([]:List Memo).map ay)) false),(a145,.cells (flatC (v146.map i64)) false)] h) (fun v152=>[(154,(.bool v152))]) (fun hm=>?_) ?_
         ·refine gX ?_
          refine br hm (fun hm=>?_) fun hm=>?_
          ·refine gX ?_
           exact jx (ltN v147 3) hm ⟨ha148,ha149,ha150,O⟩
          ·refine gX ?_
           exact jx false hm ⟨ha148,ha149,ha150,O⟩
         ·clear hm;rintro v152 base h hm ⟨ha153,ha154,ha155,O⟩
          refine gX ?_
          refine br hm (fun hm=>?_) fun hm=>?_
          ·refine gX ?_
           first|refine⟨.inr (.inr (ae rfl (O.at (.tail _ (.head _))) rfl rfl)),?_⟩|refine⟨.inr (.inl (by kernel_rfl)),?_⟩
           refine gX ?_
           refine dF ?_
           refine gX ?_
           refine atF hm fun x157 hx157 hm=>?_;refine gH ?_
           refine aCv hm wI8 fun hm=>?_;refine gH ?_
           refine pE hm fun hm=>?_;refine gH ?_
           refine O.dq (l:=([(x157%v38.length)]:(List Nat))) (enc:=i64) (s:=1) (z:=(i64 0)) rfl rfl (by kernel_rfl) (by kernel_rfl) rfl rfl rfl rfl (fun _=>rfl) fun g158 h O=>?_;refine gH ?_
           refine O.gB (enc:=i64) (l:=v146) (new:=([(x157%v38.length)]:(List Nat))) (s:=1) (b:=8) (.tail _ (.tail _ (.tail _ (.tail _ (.tail _ (.tail _ (.head _))))))) ha155 rfl rfl rfl rfl rfl rfl rfl rfl (YOk.own (O.at (.head _)) rfl (fun _=>rfl) rfl) (fun _=>rfl) (fun _=>rfl) (by decide) hm.1 fun a160 h ha161 O=>?_;refine gH ?_
           replace hm:=hm.2
           refine O.stC 1 (.tail _ (.tail _ (.head _))) [(aj 4 a55 (v56.map an)),(aj 1 a123 (v124.map Value.string)),(aj 3 none (([]:List Memo).map ay)),(aj 1 a160 ((v146++([(x157%v38.length)]:(List Nat))).map i64))] fun h O=>?_;refine gH ?_
           refine gX ?_
           refine aR hm fun hm=>?_;refine gH ?_
           exact jx (((v146++([(x157%v38.length)]:(List Nat))),(v147+1)),a160) hm ⟨ha153,ha154,ha161,(O.sel [1,2,3,4,5,6] (by decide))⟩
          ·refine gX ?_
           exact jx (v146,a145) hm ⟨ha153,ha154,ha155,O⟩
        ·clear hm;rintro⟨v140,a139⟩ base h hm ⟨ha141,ha142,ha143,O⟩
         refine gX ?_
         refine rf hm fun hm=>?_;refine gH ?_
         refine fz ?_;refine gH ?_
         refine O.apL (enc:=i64) (l:=v140) (new:=([(v38.length-1)]:(List Nat))) 1 (.tail _ (.tail _ (.tail _ (.tail _ (.tail _ (.head _)))))) ha143 hm fun a162 h ha163 O hm=>?_;refine gH ?_
         refine O.stC 1 (.tail _ (.head _)) [(aj 4 a55 (v56.map an)),(aj 1 a123 (v124.map Value.string)),(aj 3 none (([]:List Memo).map ay)),(aj 1 a162 ((v140++([(v38.length-1)]:(List Nat))).map i64))] fun h O=>?_;refine gX ?_
         refine ldA (O.at (.tail _ (.head _))) ?_;refine gH ?_
         refine O.stC 4 (.head _) [(aj 4 a55 (v56.map an)),(aj 1 a123 (v124.map Value.string)),(aj 3 none (([]:List Memo).map ay)),(aj 1 a162 ((v140++([(v38.length-1)]:(List Nat))).map i64))] fun h O=>?_;refine gX ?_
         refine⟨_,aL rfl rfl (O.at (.head _)) rfl rfl (lbE rfl) rfl,?_⟩;conv=>whnf
         exact⟨(⟨v56,v124,([]:List Memo),(v140++([(v38.length-1)]:(List Nat)))⟩:Circ),hm,O.ext,fun h2 F=>VLe.agg (LLe.cons (O.iA F (Nat.le_refl _) (.tail _ (.tail _ (.head _))) ha141 (fun _=>rfl)) (LLe.cons (O.iA F (Nat.le_refl _) (.tail _ (.tail _ (.tail _ (.head _)))) ha142 (fun _=>rfl)) (LLe.cons (O.iA F (Nat.le_refl _) (.tail _ (.tail _ (.tail _ (.tail _ (.head _))))) (fun _=>rfl) (fun _=>rfl)) (LLe.cons (O.iA F (Nat.le_refl _) (.tail _ (.tail _ (.tail _ (.tail _ (.tail _ (.head _)))))) ha163 (fun _=>rfl)) (LLe.nil _)))))⟩
theorem gF {first:Nat}{d:Nat->Nat}{ns:List Node}:∀ i,(lC first d i ns).length=ns.length
 |0=>rfl
 |i+1=>by rw[lC,List.length_set,gF i]
theorem nb {first:Nat}{d:Nat->Nat}{ns:List Node}{j:Nat}:∀ {i},first+i<=j->(lC first d i ns)[j]?=ns[j]?
 |0,_=>rfl
 |i+1,h=>by
  rw[lC,List.getElem?_set_ne (by omega)]
  exact nb (by omega)
theorem ou (x:CData):0<(cj x).length:=by
 rw[iK];omega
theorem Ei {α:Type}{a:α}{first:(α->Prop)->Prop}{rest:α->Prop} (h1:rest a->first rest) (h2:rest a):ar first rest:=h1 h2
structure CB (x:CData):Prop where
 inp:x.inp<256
 dffs:x.dffs<256
 data0:x.data0<256
 data1:x.data1<256
 port0:x.port0<256
 port1:x.port1<256
 port2:x.port2<256
 port3:x.port3<256
 gates:∀ g∈x.gates,GOk g
 outs:∀ o∈x.outs,o<256
theorem qj {n:Nat} (hn:n<=16) {rest:List ByteArray->Prop} (h:rest ((List.range n).map jy)) :
  ar (α:=(List ByteArray)) (fun k=>aB (S:=((List ByteArray)×Nat)) (fun (v,i) nx=>((ltN i n)=true->gk i (fun r=>(v.length+([r]:(List ByteArray)).length)*16<=2 ^ 47/\i+1<2 ^ 63/\nx ((v++([r]:(List ByteArray))),(i+1))))/\((ltN i n)=false->k v)) (([]:List ByteArray),0)) rest:=by
 refine aD (fun s=>s.2<=n/\s.1=(List.range s.2).map jy) (fun s=>n-s.2) (fun a=>a=(List.range n).map jy) ?_ ⟨Nat.zero_le _,rfl⟩ (fun a e=>by rw[e];exact h)
 rintro k ⟨l,i⟩ nx ⟨hi,hl⟩ hnx hk
 dsimp only at hi hl
 subst hl
 refine⟨fun q=>?_,fun q=>?_⟩
 ·have q:=aQ.1 q
  try dsimp only at q
  refine⟨by omega,by simp only[List.length_map,List.length_range,List.length_singleton];omega,by omega,hnx _ ⟨by dsimp only;omega,?_⟩ (by dsimp only;omega)⟩
  dsimp only
  rw[List.range_succ,List.map_append];rfl
 ·have q:=bk.1 q
  try dsimp only at q
  have:i=n:=by omega
  subst this
  exact hk _ rfl
theorem sI {n:Nat} (hpos:0<n) {outs:List Nat} (ho:∀ o∈outs,o<256) {rest:List Nat->Prop} (h:rest ((outs.take 3).map (· % n))) :
  ar (α:=(List Nat)) (fun k=>aB (S:=((List Nat)×Nat)) (fun (v,i) nx=>ar (α:=Bool) (fun k2=>((ltN i outs.length)=true->k2 (ltN i 3))/\((ltN i outs.length)=false->k2 false)) (fun w=>(w=true->∃ x,outs[i]?=some x/\x<256/\0<n/\(v.length+([(x%n)]:(List Nat)).length)*8<=2 ^ 47/\i+1<2 ^ 63/\nx ((v++([(x%n)]:(List Nat))),(i+1)))/\(w=false->k v))) (([]:List Nat),0)) rest:=by
 refine aD (fun s=>s.2<=min outs.length 3/\s.1=(outs.take s.2).map (· % n)) (fun s=>min outs.length 3-s.2) (fun a=>a=(outs.take 3).map (· % n)) ?_ ⟨Nat.zero_le _,by simp⟩ (fun a e=>by rw[e];exact h)
 rintro k ⟨l,i⟩ nx ⟨hi,hl⟩ hnx hk
 dsimp only at hi hl
 subst hl
 have hi3:i<=3:=Nat.le_trans hi (Nat.min_le_right _ _)
 have hil:i<=outs.length:=Nat.le_trans hi (Nat.min_le_left _ _)
 have hlen:((outs.take i).map (· % n)).length=i:=by rw[List.length_map,List.length_take];omega
 have stop:¬ (i<outs.length/\i<3)->k ((outs.take i).map (· % n)):=fun q=>by
  refine hk _ ?_
  by_cases c:i=3
  ·rw[c]
  ·rw[List.take_of_length_le (by omega),List.take_of_length_le (by omega)]
 refine dM ⟨fun q=>⟨fun q2=>?_,fun q2=>stop fun e=>absurd e.2 (by have:=bk.1 q2;omega)⟩,fun q=>⟨(fun e=>by cases e),fun _=>stop fun e=>absurd e.1 (by have:=bk.1 q;(try dsimp only at this);omega)⟩⟩
 have q:=aQ.1 q
 have q2:=aQ.1 q2
 try dsimp only at q q2
 obtain⟨o,hoo⟩:=aw q
 obtain⟨l1,l2⟩:=List.getElem?_eq_some_iff.1 hoo
 refine⟨o,hoo,ho _ (List.mem_of_getElem? hoo),hpos,by rw[hlen];simp only[List.length_singleton];omega,by omega,hnx _ ⟨by dsimp only;omega,?_⟩ (by dsimp only;omega)⟩
 dsimp only
 rw[List.take_succ_eq_append_getElem l1,l2,List.map_append];rfl
theorem xE {x:CData}{K:Circ->Prop} (hx:CB x) (h:K (eB x)):gD x K:=by
 have h4:=Nat.mod_lt x.inp (show 0<4 by decide)
 have h3:=Nat.mod_lt x.dffs (show 0<3 by decide)
 have hpos:=ou x
 have hle:=yk x
 have hbase:(fH x.inp x.dffs x.mem).length<=8:=by rw[ff];split <;> omega
 have hbase1:0<(fH x.inp x.dffs x.mem).length:=by rw[ff];omega
 unfold gD
 refine aD (fun s=>s.2<=x.inp%4+1/\s.1=List.replicate s.2 fS) (fun s=>x.inp%4+1-s.2) (fun a=>a=List.replicate (x.inp%4+1) fS) ?_ ⟨Nat.zero_le _,rfl⟩ ?_
 ·rintro k ⟨l,i⟩ nx ⟨hi,hl⟩ hnx hk
  dsimp only at hi hl
  subst hl
  refine⟨by decide,by omega,fun q=>?_,fun q=>?_⟩
  ·have q:=mR.1 q
   try dsimp only at q
   refine⟨by simp only[List.length_replicate,List.length_singleton];omega,by omega,hnx _ ⟨by dsimp only;omega,?_⟩ (by dsimp only;omega)⟩
   dsimp only
   rw[List.replicate_succ'];rfl
  ·have q:=oT.1 q
   try dsimp only at q
   have:i=x.inp%4+1:=by omega
   subst this
   exact hk _ rfl
 rintro a rfl
 refine⟨by decide,by omega,?_⟩
 refine aD (fun s=>s.2<=x.dffs%3/\s.1=List.replicate (x.inp%4+1) fS++List.replicate s.2 (nr 0)) (fun s=>x.dffs%3-s.2) (fun a=>a=List.replicate (x.inp%4+1) fS++List.replicate (x.dffs%3) (nr 0)) ?_ ⟨Nat.zero_le _,by simp⟩ ?_
 ·rintro k ⟨l,i⟩ nx ⟨hi,hl⟩ hnx hk
  dsimp only at hi hl
  subst hl
  refine⟨fun q=>?_,fun q=>?_⟩
  ·have q:=aQ.1 q
   try dsimp only at q
   refine⟨by simp only[List.length_append,List.length_replicate,List.length_singleton];omega,by omega,hnx _ ⟨by dsimp only;omega,?_⟩ (by dsimp only;omega)⟩
   dsimp only
   rw[List.replicate_succ' (n:=i),<- List.append_assoc];rfl
  ·have q:=bk.1 q
   try dsimp only at q
   have:i=x.dffs%3:=by omega
   subst this
   exact hk _ rfl
 rintro a rfl
 refine Ei (a:=fH x.inp x.dffs x.mem) (fun F=>⟨fun q=>?_,fun q=>?_⟩) ?_
 ·refine⟨by simp only[List.length_append,List.length_replicate,List.length_cons,List.length_nil];omega,?_⟩
  rw[show fH x.inp x.dffs x.mem=List.replicate (x.inp%4+1) fS++List.replicate (x.dffs%3) (nr 0)++[yV 0,yV 1] by unfold fH;rw[q];rfl] at F
  exact F
 ·rw[show fH x.inp x.dffs x.mem=List.replicate (x.inp%4+1) fS++List.replicate (x.dffs%3) (nr 0) by unfold fH;rw[q];simp] at F
  exact F
 refine aD (fun s=>s.2<=min x.gates.length 8/\s.1=dE x.bus x.gates (fH x.inp x.dffs x.mem) s.2) (fun s=>min x.gates.length 8-s.2) (fun a=>a=cj x) ?_ ⟨Nat.zero_le _,rfl⟩ ?_
 ·rintro k ⟨l,i⟩ nx ⟨hi,hl⟩ hnx hk
  dsimp only at hi hl
  subst hl
  have hgl:i<=x.gates.length:=Nat.le_trans hi (Nat.min_le_left _ _)
  have hN:=er x.bus x.gates (fH x.inp x.dffs x.mem) i hgl
  have hi8:i<=8:=Nat.le_trans hi (Nat.min_le_right _ _)
  have stop:¬ (i<x.gates.length/\i<8)->k (dE x.bus x.gates (fH x.inp x.dffs x.mem) i):=fun q=>by
   have:i=min x.gates.length 8:=by omega
   exact hk _ (by rw[this];rfl)
  refine dM ⟨fun q=>⟨fun q2=>?_,fun q2=>stop fun e=>absurd e.2 (by have:=bk.1 q2;omega)⟩,fun q=>⟨(fun e=>by cases e),fun _=>stop fun e=>absurd e.1 (by have:=bk.1 q;(try dsimp only at this);omega)⟩⟩
  have q:=aQ.1 q
  have q2:=aQ.1 q2
  try dsimp only at q q2
  obtain⟨gd,hg⟩:=aw q
  refine⟨gd,hg,hx.gates _ (List.mem_of_getElem? hg),by omega,by omega,by simp only[List.length_singleton];omega,by omega,hnx _ ⟨by dsimp only;omega,?_⟩ (by dsimp only;omega)⟩
  dsimp only
  rw[ky hg]
 rintro a rfl
 have hfirst:(List.replicate (x.inp%4+1) fS).length=x.inp%4+1:=List.length_replicate
 refine aD (fun s=>s.2<=x.dffs%3/\s.1=lC (x.inp%4+1) (lO x (cj x).length) s.2 (cj x)) (fun s=>x.dffs%3-s.2) (fun a=>a=lC (x.inp%4+1) (lO x (cj x).length) (x.dffs%3) (cj x)) ?_ ⟨Nat.zero_le _,rfl⟩ ?_
 ·rintro k ⟨l,i⟩ nx ⟨hi,hl⟩ hnx hk
  dsimp only at hi hl
  subst hl
  refine⟨fun q=>?_,fun q=>?_⟩
  ·have q:=aQ.1 q
   try dsimp only at q
   have hget:(lC (x.inp%4+1) (lO x (cj x).length) i (cj x))[(List.replicate (x.inp%4+1) fS).length+i]?=some (nr 0):=by
    rw[hfirst,nb (Nat.le_refl _)]
    exact vx q
   have step:∀ d,d=lO x (cj x).length i->nx ((lC (x.inp%4+1) (lO x (cj x).length) i (cj x)).set ((List.replicate (x.inp%4+1) fS).length+i) { nr 0 with ins:=[d] },i+1):=fun d e=>by
    refine hnx _ ⟨by dsimp only;omega,?_⟩ (by dsimp only;omega)
    dsimp only
    rw[hfirst,e]
    rfl
   refine⟨by omega,by omega,fun e=>⟨hx.data0,hpos,_,hget,by omega,step _ ?_⟩,fun e=>⟨hx.data1,hpos,_,hget,by omega,step _ ?_⟩⟩
   ·unfold lO;rw[if_pos e]
   ·unfold lO;rw[if_neg (by omega)]
  ·have q:=bk.1 q
   try dsimp only at q
   have:i=x.dffs%3:=by omega
   subst this
   exact hk _ rfl
 rintro a rfl
 have hol:((x.outs.take 3).map (· % (cj x).length)).length<=3:=by rw[List.length_map,List.length_take];omega
 unfold eB at h
 refine⟨fun q=>⟨hx.port0,hpos,hx.port1,hpos,hx.port2,hpos,hx.port3,hpos,qj hle (sI hpos hx.outs ⟨hpos,by omega,by simp only[List.length_singleton];omega,rfl,rfl,rfl,rfl,?_⟩)⟩,fun q=>qj hle (sI hpos hx.outs ⟨hpos,by omega,by simp only[List.length_singleton];omega,?_⟩)⟩
 ·rw[q] at h;exact h
 ·rw[q] at h;exact h
def shB:Sh:=.int .u8
def shG:Sh:=.pair shB (.pair (.pair shB (.pair shB (.pair shB .unit))) .unit)
def shC:Sh:=.pair shB (.pair shB (.pair (.pair shB (.pair shB .unit)) (.pair .bool (.pair .bool (.pair (.pair shB (.pair shB (.pair shB (.pair shB .unit)))) (.pair (.slice shG) (.pair (.slice shB) .unit)))))))
theorem dS {a:Int} (w:shB.wf a):∃ n:Nat,n<256/\a=Int.ofNat n:=by
 have h:=zS w
 exact⟨a.toNat,by omega,by simp;omega⟩
theorem tV {α β:Type}{f:α->Value}{g:β->Value}{p:β->Prop}:∀ (l:List α),(∀ x∈l,∃ y,p y/\f x=g y)->∃ m:List β,(∀ y∈m,p y)/\l.map f=m.map g/\m.length=l.length
 |[],_=>⟨[],(fun _ h=>by cases h),rfl,rfl⟩
 |x::l,h=>by
  obtain⟨y,h1,h2⟩:=h x (by simp)
  obtain⟨m,h3,h4,h5⟩:=tV l fun z hz=>h z (by simp[hz])
  refine⟨y::m,fun z hz=>?_,by simp[h2,h4],by simp[h5]⟩
  rcases List.mem_cons.1 hz with rfl|hz
  ·exact h1
  ·exact h3 z hz
theorem yG {l:List Int} (w:(Sh.slice shB).wf l):∃ m:List Nat,(∀ v∈m,v<256)/\(Sh.slice shB).aZ l=[ah 1 n8 m]:=by
 obtain⟨_,w2⟩:=w
 obtain⟨m,h1,h2,_⟩:=tV (f:=fun x=>elV shB.one (shB.aZ x)) (g:=n8) (p:=(· < 256)) l fun x hx=>by
  obtain⟨n,q1,rfl⟩:=dS (w2 x hx)
  exact⟨n,q1,rfl⟩
 refine⟨m,h1,?_⟩
 ·show [FL 1 (l.map fun x=>elV shB.one (shB.aZ x))]=_
  rw[h2];rfl
theorem zl {l:List shG.Den} (w:(Sh.slice shG).wf l):∃ m:List GData,(∀ v∈m,GOk v)/\(Sh.slice shG).aZ l=[FL 4 (m.map vY)]:=by
 obtain⟨_,w2⟩:=w
 obtain⟨m,h1,h2,_⟩:=tV (f:=fun x=>elV shG.one (shG.aZ x)) (g:=vY) (p:=GOk) l fun x hx=>by
  obtain⟨k,⟨a,b,d,u⟩,u2⟩:=x
  obtain⟨w1,⟨wa,wb,wd,_⟩,_⟩:=w2 _ hx
  obtain⟨k,q1,rfl⟩:=dS w1
  obtain⟨a,q2,rfl⟩:=dS wa
  obtain⟨b,q3,rfl⟩:=dS wb
  obtain⟨d,q4,rfl⟩:=dS wd
  exact⟨⟨k,a,b,d⟩,⟨q1,q2,q3,q4⟩,rfl⟩
 refine⟨m,h1,?_⟩
 ·show [FL 4 (l.map fun x=>elV shG.one (shG.aZ x))]=_
  rw[h2]
theorem EC {x:shC.Den} (w:shC.wf x):∃ y:CData,CB y/\elV (!true) (shC.aZ x)=tM y:=by
 obtain⟨i,f,⟨d0,d1,u1⟩,bu,me,⟨p0,p1,p2,p3,u2⟩,gs,os,u3⟩:=x
 obtain⟨wi,wf,⟨wd0,wd1,_⟩,_,_,⟨wp0,wp1,wp2,wp3,_⟩,wg,wo,_⟩:=w
 obtain⟨i,qi,rfl⟩:=dS wi
 obtain⟨f,qf,rfl⟩:=dS wf
 obtain⟨d0,qd0,rfl⟩:=dS wd0
 obtain⟨d1,qd1,rfl⟩:=dS wd1
 obtain⟨p0,qp0,rfl⟩:=dS wp0
 obtain⟨p1,qp1,rfl⟩:=dS wp1
 obtain⟨p2,qp2,rfl⟩:=dS wp2
 obtain⟨p3,qp3,rfl⟩:=dS wp3
 obtain⟨g,g1,g3⟩:=zl wg
 obtain⟨o,o1,o3⟩:=yG wo
 refine⟨⟨i,f,d0,d1,bu,me,p0,p1,p2,p3,g,o⟩,⟨qi,qf,qd0,qd1,qp0,qp1,qp2,qp3,g1,o1⟩,?_⟩
 show Value.agg ⟨[n8 i,n8 f,n8 d0,n8 d1,.bool bu,.bool me,n8 p0,n8 p1,n8 p2,n8 p3]++((Sh.slice shG).aZ gs++((Sh.slice shB).aZ os++[]))⟩=_
 rw[g3,o3]
 rfl
structure Pat where
 inp:List Nat
 state:List Nat
def dv (x:Pat):Value:=.agg ⟨[ah 1 n8 x.inp,ah 1 n8 x.state]⟩
theorem jI (l:List Nat):PureV (ah 1 n8 l):=cb fun _=>ag.cons (PureV.flat rfl) ag.nil
theorem sH (x:Pat):ag (cl (dv x)):=ag.cons (jI _) (ag.cons (jI _) ag.nil)
theorem A5 (x:Pat):PureV (dv x):=PureV.agg (sH x)
structure Rsp where
 out:List Nat
 next:List Nat
def fF (x:Rsp):Value:=.agg ⟨[ah 1 n8 x.out,ah 1 n8 x.next]⟩
theorem yN (x:Rsp):ag (cl (fF x)):=ag.cons (jI _) (ag.cons (jI _) ag.nil)
theorem ng (x:Rsp):PureV (fF x):=PureV.agg (yN x)
structure SRun where
 circ:Circ
 nets:List Nat
def AD (x:SRun):Value:=.agg ⟨[FL 4 (x.circ.nodes.map an),FL 1 (x.circ.names.map .string),FL 3 (x.circ.mems.map ay),FL 1 (x.circ.outs.map i64),ah 1 n8 x.nets]⟩
structure LnZ where
 node:Nat
 pin:Int
deriving DecidableEq
def au (x:LnZ):Value:=.agg ⟨[i64 x.node,z64 x.pin]⟩
theorem tt (x:LnZ):ag (cl (au x)):=ag.cons (PureV.flat rfl) (ag.cons (PureV.flat rfl) ag.nil)
structure Flt where
 model:Nat
 line:LnZ
 value:Nat
 other:Nat
deriving DecidableEq
def bE (x:Flt):Value:=.agg ⟨[n8 x.model,i64 x.line.node,z64 x.line.pin,n8 x.value,i64 x.other]⟩
theorem nV (x:Flt):ag (cl (bE x)):=ag.cons (PureV.flat rfl) (ag.cons (PureV.flat rfl) (ag.cons (PureV.flat rfl) (ag.cons (PureV.flat rfl) (ag.cons (PureV.flat rfl) ag.nil))))
theorem AF (x:Flt):PureV (bE x):=PureV.agg (nV x)
structure LnI where
 node:Int
 pin:Int
deriving DecidableEq
structure FData where
 model:Nat
 node:Nat
 pin:Nat
 other:Nat
 one:Bool
def Ln.toZ (x:Ln):LnZ:=⟨x.node,Int.ofNat x.pin⟩
def BE:Sh:=.int .u64
theorem D1 {a:Int} (w:BE.wf a):∃ n:Nat,n<2 ^ 64/\a=Int.ofNat n:=by
 have h:(Lit.int .u64 a).wf=true:=w
 simp[Lit.wf,IntKind.min,IntKind.max,IntKind.signed,IntKind.bits] at h
 exact⟨a.toNat,by omega,by simp;omega⟩
structure FB (z:FData):Prop where
 model:z.model<256
 node:z.node<256
 pin:z.pin<256
 other:z.other<256
end Go.Proofs.YtlbeebglhebpjaaGreatDoor
