/- Parts of the proof. -/
import Derived.Test.YtglgdkineobbeaaGreatDoorTn48
open False renaming elim->Nn
open Go.Value renaming bool->L0,slice->Pu,string->L5,tuple->MD
open Go.Value.int renaming injEq->N5
open Int renaming ofNat->LQ
open List renaming getD->Mh,range->Ma,replicate->LY
open List.Perm renaming swap->Ry
namespace Go.Proofs.YtglgdkineobbeaaGreatDoor
open Go.Abs
set_option maxRecDepth 100000
set_option maxHeartbeats 8000000
structure CloNA where
 fn:FuncId
 caps:List Value
 F:Nat->Wd->Wd
def He(x:CloNA):Value:=.func (.func x.fn) ⟨[]⟩ ⟨x.caps⟩
structure CloPA where
 fn:FuncId
 caps:List Value
 F:Nat->Nat->Wd->Wd
def GC(x:CloPA):Value:=.func (.func x.fn) ⟨[]⟩ ⟨x.caps⟩
def OkN(x:CloNA)(h0:Heap):Prop:=∀(n:Nat) (w:Wd) {h:Heap},Ext h0 h->al Tryz.prog NG x.fn ⟨i64 n::an w::x.caps⟩ h (an (x.F n w)) h
def OkP(x:CloPA)(h0:Heap):Prop:=∀(n j:Nat) (w:Wd) {h:Heap},Ext h0 h->al Tryz.prog NG x.fn ⟨i64 n::i64 j::an w::x.caps⟩ h (an (x.F n j w)) h
structure EngA where
 circ:Circ
 order:List Nat
 ins:List Nat
 state:List Nat
 net:CloNA
 pin:CloPA
def Jc(x:EngA):Value:=.agg ⟨cl (az x.circ)++[ae 1 i64 x.order,ae 1 i64 x.ins,ae 1 i64 x.state,He x.net,GC x.pin]⟩
def jd(p0:EngA)(p1:(List Wd))(p2:(List Wd))(K:((List Wd)×(List Wd))->Prop):Prop :=
 16*p0.circ.nodes.length<=2^48/\p0.circ.nodes.length<2^63/\aw (α:=(List Wd)) (λk5=>aF (S:=((List Wd)×Nat)) (λ(v6,v7) nx8=>((ltN v7 p0.ins.length)=true->∃x9,p0.ins[v7]?=some x9/\∃x10,p1[v7]?=some x10/\x9<p0.circ.nodes.length/\∃x11,v6[x9]?=some x11/\v7+1<2^63/\nx8 ((v6.set x9 x10),(v7+1)))/\((ltN v7 p0.ins.length)=false->k5 v6)) ((LY p0.circ.nodes.length ((⟨0,0⟩:Wd):Wd)),0)) (λv4=>aw (α:=(List Wd)) (λk13=>aF (S:=((List Wd)×Nat)) (λ(v14,v15) nx16=>((ltN v15 p0.state.length)=true->∃x17,p0.state[v15]?=some x17/\∃x18,p2[v15]?=some x18/\x17<p0.circ.nodes.length/\∃x19,v14[x17]?=some x19/\v15+1<2^63/\nx16 ((v14.set x17 x18),(v15+1)))/\((ltN v15 p0.state.length)=false->k13 v14)) (v4,0)) (λv12=>aw (α:=(List Wd)) (λk21=>aF (S:=((List Wd)×Nat)) (λ(v22,v23) nx24=>((ltN v23 p0.order.length)=true->∃x25,p0.order[v23]?=some x25/\aw (α:=(List Wd)) (λk27=>∃x28,p0.circ.nodes[x25]?=some x28/\aw (α:=Bool) (λk30=>((neN x28.kind 0)=true->k30 (neN x28.kind 14))/\((neN x28.kind 0)=false->k30 false)) (λv29=>(v29=true->aw (α:=(List Wd)) (λk36=>∃x37,p0.circ.nodes[x25]?=some x37/\aF (S:=((List Wd)×Nat)) (λ(v39,v40) nx42=>((ltN v40 x37.ins.length)=true->∃x43,x37.ins[v40]?=some x43/\x43<p0.circ.nodes.length/\∃x44,v22[x43]?=some x44/\(v39.length+([(p0.pin.F x25 v40 x44)]:(List Wd)).length)*16<=2^47/\v40+1<2^63/\nx42 ((v39++([(p0.pin.F x25 v40 x44)]:(List Wd))),(v40+1)))/\((ltN v40 x37.ins.length)=false->k36 v39)) (([]:List Wd),0)) (λv34=>ir x28.kind v34 (λr49=>x25<p0.circ.nodes.length/\∃x50,v22[x25]?=some x50/\k27 (v22.set x25 r49))))/\(v29=false->k27 v22))) (λv26=>x25<p0.circ.nodes.length/\∃x51,v26[x25]?=some x51/\x25<p0.circ.nodes.length/\∃x52,v26[x25]?=some x52/\v23+1<2^63/\nx24 ((v26.set x25 (p0.net.F x25 x51)),(v23+1))))/\((ltN v23 p0.order.length)=false->k21 v22)) (v12,0)) (λv20=>aw (α:=(List Wd)) (λk56=>aF (S:=((List Wd)×Nat)) (λ(v58,v59) nx61=>((ltN v59 p0.circ.outs.length)=true->∃x62,p0.circ.outs[v59]?=some x62/\x62<p0.circ.nodes.length/\∃x63,v20[x62]?=some x63/\(v58.length+([x63]:(List Wd)).length)*16<=2^47/\v59+1<2^63/\nx61 ((v58++([x63]:(List Wd))),(v59+1)))/\((ltN v59 p0.circ.outs.length)=false->k56 v58)) (([]:List Wd),0)) (λv54=>aw (α:=(List Wd)) (λk69=>aF (S:=((List Wd)×Nat)) (λ(v71,v72) nx74=>((ltN v72 p0.state.length)=true->∃x75,p0.state[v72]?=some x75/\aw (α:=(List Wd)) (λk82=>∃x83,p0.circ.nodes[x75]?=some x83/\aF (S:=((List Wd)×Nat)) (λ(v85,v86) nx89=>((ltN v86 x83.ins.length)=true->∃x90,x83.ins[v86]?=some x90/\x90<p0.circ.nodes.length/\∃x91,v20[x90]?=some x91/\(v85.length+([(p0.pin.F x75 v86 x91)]:(List Wd)).length)*16<=2^47/\v86+1<2^63/\nx89 ((v85++([(p0.pin.F x75 v86 x91)]:(List Wd))),(v86+1)))/\((ltN v86 x83.ins.length)=false->k82 v85)) (([]:List Wd),0)) (λv79=>∃x96,v79[0]?=some x96/\(v71.length+([x96]:(List Wd)).length)*16<=2^47/\v72+1<2^63/\nx74 ((v71++([x96]:(List Wd))),(v72+1))))/\((ltN v72 p0.state.length)=false->k69 v71)) (v54,0)) (λv67=>p0.circ.nodes.length=v20.length/\K (v20,v67))))))
theorem qk{p0:EngA}{p1:(List Wd)}{p2:(List Wd)}{K:((List Wd)×(List Wd))->Prop}(hm:jd p0 p1 p2 K){h0:Heap}(hB:aH vars h0)(hN:OkN p0.net h0)(hP:OkP p0.pin h0):∃r,K r/\al Tryz.prog NG 23 ⟨[Jc p0,(ae 2 an) p1,(ae 2 an) p2]⟩ h0 ((λ(r:((List Wd)×(List Wd)))=>MD ⟨[(ae 2 an) (r.1),(ae 2 an) (r.2)]⟩) r) h0:=by
 unfold jd at hm
 refine fw Tryz.func23 hB (enc:=(λ(r:((List Wd)×(List Wd)))=>MD ⟨[(ae 2 an) (r.1),(ae 2 an) (r.2)]⟩)) (λr=>aq.tup (ag.cons (cg (λ_=>lz _)) (ag.cons (cg (λ_=>lz _)) (ag.nil)))) λO=>?_;conv=>whnf
 refine gX ?_;refine fz ?_;refine gX ?_;have O:=O.aZ (.cells (ah ((([]:List Wd)).map an)) false);refine O.mkL (enc:=an) 16 2 (⟨0,0⟩:Wd) hm λg2 h O hm=>?_;refine gH ?_;refine jn hm 132 [2,3,6,7] (λs=>s) (λv4 h=>Own vars h0 [(sG g2 an v4),(sM none an ([]:List Wd))] h) (λv4=>[]) (λhm=>?_) ?_
 .refine gX ?_;refine lw 132 [1,2,3,6,7,25,26] (σ:=((List Wd)×Nat)) (λs=>s) (λ(v6,v7) h=>Own vars h0 [(sG g2 an v6),(sM none an ([]:List Wd))] h) (λ(v6,v7)=>[(27,(i64 v7))]) ((LY p0.circ.nodes.length ((⟨0,0⟩:Wd):Wd)),0) hm O ?_;clear hm;rintro⟨v6,v7⟩ nx8 base h hm O;refine gX ?_;refine br hm (λhm=>?_) λhm=>?_
  .refine gX ?_;refine atF hm λx9 hx9 hm=>?_;refine gX ?_;refine atF hm λx10 hx10 hm=>?_;refine gH ?_;refine ix 2 hm λx11 hx11 hm=>?_;refine gH ?_;refine O.stE 2 (.head _) hx11 x10 λh O=>?_;refine gX ?_;refine aJ hm λhm=>?_;refine gH ?_;exact jx ((v6.set x9 x10),(v7+1)) hm O
  .refine gX ?_;exact jx v6 hm O
 .clear hm;rintro v4 base h hm O
  conv=>whnf
  refine jn hm 132 [3,6,7] (λs=>s) (λv12 h=>Own vars h0 [(sG g2 an v12),(sM none an ([]:List Wd))] h) (λv12=>[]) (λhm=>?_) ?_
  .refine gX ?_;refine lw 132 [2,3,6,7,41,42] (σ:=((List Wd)×Nat)) (λs=>s) (λ(v14,v15) h=>Own vars h0 [(sG g2 an v14),(sM none an ([]:List Wd))] h) (λ(v14,v15)=>[(43,(i64 v15))]) (v4,0) hm O ?_;clear hm;rintro⟨v14,v15⟩ nx16 base h hm O;refine gX ?_;refine br hm (λhm=>?_) λhm=>?_
   .refine gX ?_;refine atF hm λx17 hx17 hm=>?_;refine gX ?_;refine atF hm λx18 hx18 hm=>?_;refine gH ?_;refine ix 2 hm λx19 hx19 hm=>?_;refine gH ?_;refine O.stE 2 (.head _) hx19 x18 λh O=>?_;refine gX ?_;refine aJ hm λhm=>?_;refine gH ?_;exact jx ((v14.set x17 x18),(v15+1)) hm O
   .refine gX ?_;exact jx v14 hm O
  .clear hm;rintro v12 base h hm O
   conv=>whnf
   refine jn hm 132 [3,6,7] (λs=>s) (λv20 h=>Own vars h0 [(sG g2 an v20),(sM none an ([]:List Wd))] h) (λv20=>[]) (λhm=>?_) ?_
   .refine gX ?_;refine lw 132 [3,6,7,57,58] (σ:=((List Wd)×Nat)) (λs=>s) (λ(v22,v23) h=>Own vars h0 [(sG g2 an v22),(sM none an ([]:List Wd))] h) (λ(v22,v23)=>[(59,(i64 v23))]) (v12,0) hm O ?_;clear hm;rintro⟨v22,v23⟩ nx24 base h hm O;refine gX ?_;refine br hm (λhm=>?_) λhm=>?_
    .refine gX ?_;refine atF hm λx25 hx25 hm=>?_;refine gH ?_;refine jn hm 132 [3,6,7,13,57,58,59] (λs=>s) (λv26 h=>Own vars h0 [(sG g2 an v26),(sM none an ([]:List Wd))] h) (λv26=>[]) (λhm=>?_) ?_
     .refine gX ?_;refine atF hm λx28 hx28 hm=>?_;refine gH ?_;refine jn hm 132 [3,6,7,13,14,57,58,59] (λs=>s) (λv29 h=>Own vars h0 [(sG g2 an v22),(sM none an ([]:List Wd))] h) (λv29=>[(75,(.bool v29))]) (λhm=>?_) ?_
      .refine gX ?_;refine br hm (λhm=>?_) λhm=>?_
       .refine gX ?_;exact jx (neN x28.kind 14) hm O
       .refine gX ?_;exact jx false hm O
      .clear hm;rintro v29 base h hm O;refine gX ?_;refine br hm (λhm=>?_) λhm=>?_
       .refine gX ?_;refine fg Tryz.func61 ?_;refine gX ?_;refine fz ?_;refine gH ?_;have O:=O.aZ (.cells (ah ((([]:List Wd)).map an)) false)
        apply Cs;conv=>whnf
        apply Cs;refine gH ?_;have O:=O.aZ (.cells (ah ((([]:List Wd)).map an)) false);refine jn (σ:=(List Wd)×Option Nat) hm 37 [] (λs=>s.1) (λ(v34,a33) h=>(a33=none->v34=[])/\Own vars h0 [(sM a33 an v34),(sG g2 an v22),(sM none an ([]:List Wd))] h) (λ(v34,a33)=>[(7,(ak 2 a33 (v34.map an)))]) (λhm=>?_) ?_
        .refine gX ?_;refine atF hm λx37 hx37 hm=>?_;refine gX ?_;refine lw 37 [1,2,3,16,17] (σ:=((List Wd)×Nat)×Option Nat) (λs=>s.1) (λ((v39,v40),a38) h=>(a38=none->v39=[])/\Own vars h0 [(sG g2 an v22),(sM a38 an v39),(sM none an ([]:List Wd))] h) (λ((v39,v40),a38)=>[(7,(ak 2 a38 (v39.map an))),(18,(i64 v40))]) ((([]:List Wd),0),none) hm ⟨(λ_=>rfl),(O.sel [2,0,3] (by decide))⟩ ?_;clear hm;rintro⟨⟨v39,v40⟩,a38⟩ nx42 base h hm ⟨ha41,O⟩;refine gX ?_;refine br hm (λhm=>?_) λhm=>?_
         .refine gX ?_;refine atF hm λx43 hx43 hm=>?_;refine gX ?_;refine di.2 ?_;refine gH ?_;refine dF ?_;refine gH ?_
          first | (refine di.2 ?_;refine gH ?_) | skip
          refine ix 2 hm λx44 hx44 hm=>?_;refine gH ?_;refine⟨_,aM (l:=cl (an x44)) rfl O.i0 rfl rfl (dR (enc:=an) (s:=2) (k:=0) (λ_=>rfl) (ai hx44) (LV _)) (de (enc:=an) (s:=2) (λ_=>rfl) hx44),?_⟩;refine gH ?_
          first|refine⟨.inr (.inr (aM (l:=cl (an x44)) rfl O.i0 rfl rfl (dR (enc:=an) (s:=2) (k:=0) (λ_=>rfl) (ai hx44) (LV _)) (de (enc:=an) (s:=2) (λ_=>rfl) hx44))),?_⟩|refine⟨.inr (.inl (by kernel_rfl)),?_⟩
          refine gX ?_;refine di.2 ?_;refine⟨_,_,hP x25 v40 x44 O.ext,?_⟩;refine gH ?_;refine⟨.inl (Ext.refl _),?_⟩;refine gH ?_;refine O.eA (l:=([(p0.pin.F x25 v40 x44)]:(List Wd))) (enc:=an) (s:=2) (z:=(.agg ⟨[(n64 0),(n64 0)]⟩)) rfl rfl (by kernel_rfl) (by kernel_rfl) rfl rfl rfl rfl (λ_=>rfl) λg45 h O=>?_;refine gH ?_;refine O.fb (enc:=an) (l:=v39) (new:=([(p0.pin.F x25 v40 x44)]:(List Wd))) (s:=2) (b:=16) (.tail _ (.tail _ (.head _))) ha41 rfl rfl rfl rfl rfl rfl rfl rfl (YOk.own O.i0 rfl (λ_=>rfl) rfl) (λ_=>rfl) (λ_=>rfl) (by decide) hm.1 λa47 h ha48 O=>?_;refine gH ?_;replace hm:=hm.2;refine gX ?_;refine aJ hm λhm=>?_;refine gH ?_;exact jx (((v39++([(p0.pin.F x25 v40 x44)]:(List Wd))),(v40+1)),a47) hm ⟨ha48,(O.sel [1,2,3] (by decide))⟩
         .refine gX ?_;exact jx (v39,a38) hm ⟨ha41,(O.sel [1,0,2] (by decide))⟩
        .clear hm;rintro⟨v34,a33⟩ base h hm ⟨ha35,O⟩;refine gX ?_;refine O.Lh (λ_ hb=>uN hm hb) (.head _) ha35 (λ_=>rfl) (i:=1) rfl (by kernel_rfl) (λh2 q=>(LLe.cons (VLe.refl _ _) (LLe.cons (q) (LLe.nil _)))) (λr49 h hm' O=>?_);replace hm:=hm';refine gH ?_;refine ix 2 hm λx50 hx50 hm=>?_;refine gH ?_;refine O.stE 2 (.tail _ (.head _)) hx50 r49 λh O=>?_;refine gH ?_;exact jx (v22.set x25 r49) hm (O.sel [1,2] (by decide))
       .refine gX ?_;exact jx v22 hm O
     .clear hm;rintro v26 base h hm O;refine gX ?_;refine di.2 ?_;refine gH ?_;refine dF ?_;refine gH ?_
      first | (refine di.2 ?_;refine gH ?_) | skip
      refine ix 2 hm λx51 hx51 hm=>?_;refine gH ?_;refine⟨_,aM (l:=cl (an x51)) rfl O.i0 rfl rfl (dR (enc:=an) (s:=2) (k:=0) (λ_=>rfl) (ai hx51) (LV _)) (de (enc:=an) (s:=2) (λ_=>rfl) hx51),?_⟩;refine gH ?_
      first|refine⟨.inr (.inr (aM (l:=cl (an x51)) rfl O.i0 rfl rfl (dR (enc:=an) (s:=2) (k:=0) (λ_=>rfl) (ai hx51) (LV _)) (de (enc:=an) (s:=2) (λ_=>rfl) hx51))),?_⟩|refine⟨.inr (.inl (by kernel_rfl)),?_⟩
      refine gX ?_;refine di.2 ?_;refine⟨_,_,hN x25 x51 O.ext,?_⟩;refine gH ?_;refine⟨.inl (Ext.refl _),?_⟩;refine gH ?_;refine ix 2 hm λx52 hx52 hm=>?_;refine gH ?_;refine O.stE 2 (.head _) hx52 (p0.net.F x25 x51) λh O=>?_;refine gH ?_;refine gX ?_;refine aJ hm λhm=>?_;refine gH ?_;exact jx ((v26.set x25 (p0.net.F x25 x51)),(v23+1)) hm O
    .refine gX ?_;exact jx v22 hm O
   .clear hm;rintro v20 base h hm O
    conv=>whnf
    refine jn (σ:=(List Wd)×Option Nat) hm 132 [3,6] (λs=>s.1) (λ(v54,a53) h=>(a53=none->v54=[])/\Own vars h0 [(sG g2 an v20),(sM a53 an v54)] h) (λ(v54,a53)=>[(7,(ak 2 a53 (v54.map an)))]) (λhm=>?_) ?_
    .refine gX ?_;refine lw 132 [3,6,99,100] (σ:=((List Wd)×Nat)×Option Nat) (λs=>s.1) (λ((v58,v59),a57) h=>(a57=none->v58=[])/\Own vars h0 [(sG g2 an v20),(sM a57 an v58)] h) (λ((v58,v59),a57)=>[(7,(ak 2 a57 (v58.map an))),(101,(i64 v59))]) ((([]:List Wd),0),none) hm ⟨(λ_=>rfl),O⟩ ?_;clear hm;rintro⟨⟨v58,v59⟩,a57⟩ nx61 base h hm ⟨ha60,O⟩;refine gX ?_;refine br hm (λhm=>?_) λhm=>?_
     .refine gX ?_;refine atF hm λx62 hx62 hm=>?_;refine gX ?_;refine ix 2 hm λx63 hx63 hm=>?_;refine gH ?_;refine⟨_,aM (l:=cl (an x63)) rfl O.i0 rfl rfl (dR (enc:=an) (s:=2) (k:=0) (λ_=>rfl) (ai hx63) (LV _)) (de (enc:=an) (s:=2) (λ_=>rfl) hx63),?_⟩;refine gH ?_;refine fz ?_;refine gH ?_;refine O.apL (enc:=an) (l:=v58) (new:=([x63]:(List Wd))) 2 (.tail _ (.head _)) ha60 hm λa64 h ha65 O hm=>?_;refine gX ?_;refine aJ hm λhm=>?_;refine gH ?_;exact jx (((v58++([x63]:(List Wd))),(v59+1)),a64) hm ⟨ha65,O⟩
     .refine gX ?_;exact jx (v58,a57) hm ⟨ha60,O⟩
    .clear hm;rintro⟨v54,a53⟩ base h hm ⟨ha55,O⟩
     conv=>whnf
     refine jn (σ:=(List Wd)×Option Nat) hm 132 [6] (λs=>s.1) (λ(v67,a66) h=>(a66=none->v67=[])/\Own vars h0 [(sG g2 an v20),(sM a66 an v67)] h) (λ(v67,a66)=>[(7,(ak 2 a66 (v67.map an)))]) (λhm=>?_) ?_
     .refine gX ?_;refine lw 132 [3,6,114,115] (σ:=((List Wd)×Nat)×Option Nat) (λs=>s.1) (λ((v71,v72),a70) h=>(a70=none->v71=[])/\Own vars h0 [(sG g2 an v20),(sM a70 an v71)] h) (λ((v71,v72),a70)=>[(7,(ak 2 a70 (v71.map an))),(116,(i64 v72))]) ((v54,0),a53) hm ⟨ha55,O⟩ ?_;clear hm;rintro⟨⟨v71,v72⟩,a70⟩ nx74 base h hm ⟨ha73,O⟩;refine gX ?_;refine br hm (λhm=>?_) λhm=>?_
      .refine gX ?_;refine atF hm λx75 hx75 hm=>?_;refine gX ?_;refine fg Tryz.func61 ?_;refine gX ?_;refine fz ?_;refine gH ?_;have O:=O.aZ (.cells (ah ((([]:List Wd)).map an)) false)
       apply Cs;conv=>whnf
       apply Cs;refine gH ?_;have O:=O.aZ (.cells (ah ((([]:List Wd)).map an)) false);refine jn (σ:=(List Wd)×Option Nat) hm 37 [] (λs=>s.1) (λ(v79,a78) h=>(a78=none->v79=[])/\(a70=none->v71=[])/\Own vars h0 [(sM a78 an v79),(sG g2 an v20),(sM a70 an v71)] h) (λ(v79,a78)=>[(7,(ak 2 a78 (v79.map an)))]) (λhm=>?_) ?_
       .refine gX ?_;refine atF hm λx83 hx83 hm=>?_;refine gX ?_;refine lw 37 [1,2,3,16,17] (σ:=((List Wd)×Nat)×Option Nat) (λs=>s.1) (λ((v85,v86),a84) h=>(a84=none->v85=[])/\(a70=none->v71=[])/\Own vars h0 [(sG g2 an v20),(sM a84 an v85),(sM a70 an v71)] h) (λ((v85,v86),a84)=>[(7,(ak 2 a84 (v85.map an))),(18,(i64 v86))]) ((([]:List Wd),0),none) hm ⟨(λ_=>rfl),ha73,(O.sel [2,0,3] (by decide))⟩ ?_;clear hm;rintro⟨⟨v85,v86⟩,a84⟩ nx89 base h hm ⟨ha87,ha88,O⟩;refine gX ?_;refine br hm (λhm=>?_) λhm=>?_
        .refine gX ?_;refine atF hm λx90 hx90 hm=>?_;refine gX ?_;refine di.2 ?_;refine gH ?_;refine dF ?_;refine gH ?_
         first | (refine di.2 ?_;refine gH ?_) | skip
         refine ix 2 hm λx91 hx91 hm=>?_;refine gH ?_;refine⟨_,aM (l:=cl (an x91)) rfl O.i0 rfl rfl (dR (enc:=an) (s:=2) (k:=0) (λ_=>rfl) (ai hx91) (LV _)) (de (enc:=an) (s:=2) (λ_=>rfl) hx91),?_⟩;refine gH ?_
         first|refine⟨.inr (.inr (aM (l:=cl (an x91)) rfl O.i0 rfl rfl (dR (enc:=an) (s:=2) (k:=0) (λ_=>rfl) (ai hx91) (LV _)) (de (enc:=an) (s:=2) (λ_=>rfl) hx91))),?_⟩|refine⟨.inr (.inl (by kernel_rfl)),?_⟩
         refine gX ?_;refine di.2 ?_;refine⟨_,_,hP x75 v86 x91 O.ext,?_⟩;refine gH ?_;refine⟨.inl (Ext.refl _),?_⟩;refine gH ?_;refine O.eA (l:=([(p0.pin.F x75 v86 x91)]:(List Wd))) (enc:=an) (s:=2) (z:=(.agg ⟨[(n64 0),(n64 0)]⟩)) rfl rfl (by kernel_rfl) (by kernel_rfl) rfl rfl rfl rfl (λ_=>rfl) λg92 h O=>?_;refine gH ?_;refine O.fb (enc:=an) (l:=v85) (new:=([(p0.pin.F x75 v86 x91)]:(List Wd))) (s:=2) (b:=16) (.tail _ (.tail _ (.head _))) ha87 rfl rfl rfl rfl rfl rfl rfl rfl (YOk.own O.i0 rfl (λ_=>rfl) rfl) (λ_=>rfl) (λ_=>rfl) (by decide) hm.1 λa94 h ha95 O=>?_;refine gH ?_;replace hm:=hm.2;refine gX ?_;refine aJ hm λhm=>?_;refine gH ?_;exact jx (((v85++([(p0.pin.F x75 v86 x91)]:(List Wd))),(v86+1)),a94) hm ⟨ha95,ha88,(O.sel [1,2,3] (by decide))⟩
        .refine gX ?_;exact jx (v85,a84) hm ⟨ha87,ha88,(O.sel [1,0,2] (by decide))⟩
       .clear hm;rintro⟨v79,a78⟩ base h hm ⟨ha80,ha81,O⟩;refine gX ?_;obtain⟨x96,hx96,hm⟩:=hm;have h9:=hm;obtain⟨g97,rfl⟩:=lb ha80 hx96;replace hm:=h9;refine cb (s:=2) (j:=0) rfl rfl rfl rfl (by rw[LZ];exact ai hx96) ?_;refine gH ?_;refine⟨_,aM (l:=cl (an x96)) rfl O.i0 rfl rfl (dR (enc:=an) (s:=2) (k:=0) (λ_=>rfl) (ai hx96) (LV _)) (de (enc:=an) (s:=2) (λ_=>rfl) hx96),?_⟩;refine gH ?_;refine fz ?_;refine gH ?_;refine O.apL (enc:=an) (l:=v71) (new:=([x96]:(List Wd))) 2 (.tail _ (.tail _ (.head _))) ha81 hm λa98 h ha99 O hm=>?_;refine gX ?_;refine aJ hm λhm=>?_;refine gH ?_;exact jx (((v71++([x96]:(List Wd))),(v72+1)),a98) hm ⟨ha99,(O.sel [1,2] (by decide))⟩
      .refine gX ?_;exact jx (v71,a70) hm ⟨ha73,O⟩
     .clear hm;rintro⟨v67,a66⟩ base h hm ⟨ha68,O⟩;refine gX ?_;obtain⟨hn100,hm⟩:=hm;exact⟨(v20,v67),hm,O.ext,λh2 F=>VLe.tup (LLe.cons (O.jC F (LV _) (.head _) (λ_=>rfl) hn100) (LLe.cons (O.jP F (LV _) (.tail _ (.head _)) ha68 (λ_=>rfl)) (LLe.nil _)))⟩
set_option maxHeartbeats 8000000
def cp(p0:Circ)(K:Eng->Prop):Prop :=
 bz p0 (λr3=>bV p0 (λr4=>bA p0 (λr5=>K (⟨p0,r3.1,r4,r5,(G3),(G7)⟩:Eng))))
theorem fV{p0:Circ}{K:Eng->Prop}(hm:cp p0 K){h0:Heap}(hB:aH vars h0):∃r,K r/\al Tryz.prog NG 21 ⟨[az p0]⟩ h0 (eg r) h0:=by
 unfold cp at hm
 refine fw Tryz.func21 hB (enc:=eg) (λr=>Bv _) λO=>?_;conv=>whnf
 refine gX ?_;refine fz ?_;refine gH ?_;refine O.new (aj (l:=[(.slice none 0 0),(.slice none 0 0),(.slice none 0 0),(.slice none 0 0),(.slice none 0 0),(.slice none 0 0),(.slice none 0 0),.nilFunc,.nilFunc]) rfl rfl rfl) λg1 h O=>?_;refine gH ?_;refine gX ?_;refine ca (eG hm O.has) λr3 hm=>?_;refine gX ?_;refine dF ?_;refine gX ?_;refine dF ?_;refine gX ?_;refine ca (dV hm O.has) λr4 hm=>?_;refine gH ?_;refine⟨.inl (Ext.refl _),?_⟩;refine gH ?_;refine dF ?_;refine gX ?_;refine ca (cu hm O.has) λr5 hm=>?_;refine gH ?_;refine⟨.inl (Ext.refl _),?_⟩;refine gH ?_;refine O.stC 9 (.head _) [((ae 4 au) p0.nodes),((ae 1 L5) p0.names),((ae 3 bc) p0.mems),((ae 1 i64) p0.outs),((ae 1 i64) r3.1),((ae 1 i64) r4),((ae 1 i64) r5),(.func (.func 57) ⟨[]⟩ ⟨[]⟩),(.func (.func 58) ⟨[]⟩ ⟨[]⟩)] λh O=>?_;refine gH ?_;refine gX ?_
 refine⟨_,aI rfl rfl O.i0 rfl rfl (lbE rfl) rfl,?_⟩;conv=>whnf
 exact fe hm O
def Eng.toA(x:Eng):EngA:=⟨x.circ,x.order,x.ins,x.state,⟨x.net.fn,x.net.caps,x.net.F⟩,⟨x.pin.fn,x.pin.caps,x.pin.F⟩⟩
def bh(p0:Eng)(p1:(List Wd))(p2:(List Wd))(K:((List Wd)×(List Wd))->Prop):Prop:=jd p0.toA p1 p2 K
theorem dL{p0:Eng}{p1:(List Wd)}{p2:(List Wd)}{K:((List Wd)×(List Wd))->Prop}(hm:bh p0 p1 p2 K){h0:Heap}(hB:aH vars h0):∃r,K r/\al Tryz.prog NG 23 ⟨[eg p0,(ae 2 an) p1,(ae 2 an) p2]⟩ h0 ((λ(r:((List Wd)×(List Wd)))=>MD ⟨[(ae 2 an) (r.1),(ae 2 an) (r.2)]⟩) r) h0 :=
 qk hm hB (λn w _ e=>p0.net.ok n w (hB.ext e)) (λn j w _ e=>p0.pin.ok n j w (hB.ext e))
def bH(p0:Eng)(p1:Flt)(_p2:(List Wd))(K:Eng->Prop):Prop :=
 cf p1.value (λr5=>aw (α:=Unit) (λk8=>((neN p1.model 0)=true->False)/\((neN p1.model 0)=false->k8 ())) (λ_=>((!ltI p1.line.pin (LQ 0))=true->K (⟨p0.circ,p0.order,p0.ins,p0.state,p0.net,(Jx p1 r5)⟩:Eng))/\((!ltI p1.line.pin (LQ 0))=false->K (⟨p0.circ,p0.order,p0.ins,p0.state,(Jt p1 r5),p0.pin⟩:Eng))))
theorem kP{p0:Eng}{p1:Flt}{p2:(List Wd)}{K:Eng->Prop}(hm:bH p0 p1 p2 K){h0:Heap}(hB:aH vars h0):∃r,K r/\al Tryz.prog NG 150 ⟨[eg p0,ay p1,(ae 2 an) p2]⟩ h0 (eg r) h0:=by
 unfold bH at hm
 refine fw Tryz.func150 hB (enc:=eg) (λr=>Bv _) λO=>?_;conv=>whnf
 refine gX ?_;refine O.new (sh rfl) λg1 h O=>?_;refine gH ?_;refine fz ?_;refine gH ?_;refine O.new (aj (l:=[nS,nS,nS,nS,nS,nS,nS,.nilFunc,.nilFunc]) rfl rfl rfl) λg3 h O=>?_;refine gH ?_;refine gX ?_;refine ca (bX hm O.has) λr5 hm=>?_;refine gH ?_;refine O.new (aj (l:=[(n64 0),(n64 0)]) rfl rfl rfl) λg6 h O=>?_;refine gH ?_;refine O.stC 2 (.head _) [(n64 r5.one),(n64 r5.zero)] λh O=>?_;refine gH ?_;refine jn hm 27 [3,4,6,7] (λs=>s) (λ_ h=>Own vars h0 [(sC g1 [((ae 4 au) p0.circ.nodes),((ae 1 L5) p0.circ.names),((ae 3 bc) p0.circ.mems),((ae 1 i64) p0.circ.outs),((ae 1 i64) p0.order),((ae 1 i64) p0.ins),((ae 1 i64) p0.state),(fP p0.net),(ff p0.pin)]),(sC g3 [nS,nS,nS,nS,nS,nS,nS,.nilFunc,.nilFunc]),(sC g6 [(n64 r5.one),(n64 r5.zero)])] h) (λ_=>[]) (λhm=>?_) ?_
 .refine gX ?_;refine br hm (λhm=>?_) λhm=>?_
  .refine gX ?_;exact Nn hm
  .refine gX ?_;exact jx () hm (O.sel [2,1,0] (by decide))
 .clear hm;rintro _ base h hm O;refine gX ?_;refine br hm (λhm=>?_) λhm=>?_
  .apply Cs;conv=>whnf
   refine CodeS.yY O (.tail _ (.tail _ (.head _))) 7 rfl rfl λh O=>?_;refine gX ?_;refine O.stC 1 (.head _) [((ae 4 au) p0.circ.nodes),((ae 1 L5) p0.circ.names),((ae 3 bc) p0.circ.mems),((ae 1 i64) p0.circ.outs),((ae 1 i64) p0.order),((ae 1 i64) p0.ins),((ae 1 i64) p0.state),(fP p0.net),(.func (.func 169) ⟨[]⟩ ⟨[(FP (ay p1)),(FP (an r5))]⟩)] λh O=>?_;refine gX ?_;refine ldA O.i0 ?_;refine gH ?_;refine O.stC 9 (.tail _ (.head _)) [((ae 4 au) p0.circ.nodes),((ae 1 L5) p0.circ.names),((ae 3 bc) p0.circ.mems),((ae 1 i64) p0.circ.outs),((ae 1 i64) p0.order),((ae 1 i64) p0.ins),((ae 1 i64) p0.state),(fP p0.net),(.func (.func 169) ⟨[]⟩ ⟨[(FP (ay p1)),(FP (an r5))]⟩)] λh O=>?_;refine gX ?_
   refine⟨_,aI rfl rfl O.i1 rfl rfl (lbE rfl) rfl,?_⟩;conv=>whnf
   exact fe hm O
  .apply Cs;conv=>whnf
   apply Cs;conv=>whnf
   refine CodeS.yY O (.tail _ (.tail _ (.head _))) 7 rfl rfl λh O=>?_;refine gX ?_;refine O.stC 1 (.head _) [((ae 4 au) p0.circ.nodes),((ae 1 L5) p0.circ.names),((ae 3 bc) p0.circ.mems),((ae 1 i64) p0.circ.outs),((ae 1 i64) p0.order),((ae 1 i64) p0.ins),((ae 1 i64) p0.state),(.func (.func 170) ⟨[]⟩ ⟨[(FP (ay p1)),(FP (an r5))]⟩),(ff p0.pin)] λh O=>?_;refine gX ?_;refine ldA O.i0 ?_;refine gH ?_;refine O.stC 9 (.tail _ (.head _)) [((ae 4 au) p0.circ.nodes),((ae 1 L5) p0.circ.names),((ae 3 bc) p0.circ.mems),((ae 1 i64) p0.circ.outs),((ae 1 i64) p0.order),((ae 1 i64) p0.ins),((ae 1 i64) p0.state),(.func (.func 170) ⟨[]⟩ ⟨[(FP (ay p1)),(FP (an r5))]⟩),(ff p0.pin)] λh O=>?_;refine gX ?_
   refine⟨_,aI rfl rfl O.i1 rfl rfl (lbE rfl) rfl,?_⟩;conv=>whnf
   exact fe hm O
def gY(p0:(List Pat))(p1:Nat)(K:(List Wd)->Prop):Prop :=
 16*p1<=2^48/\p1<2^63/\aw (α:=(List Wd)) (λk4=>aF (S:=((List Wd)×Nat)) (λ(v5,v6) nx7=>((ltN v6 p1)=true->aw (α:=(List Wd)) (λk9=>aF (S:=((List Wd)×Nat)) (λ(v10,v11) nx12=>((ltN v11 p0.length)=true->∃x13,p0[v11]?=some x13/\v6<p1/\∃x16,v10[v6]?=some x16/\∃x17,x13.inp[v6]?=some x17/\cU x16 v11 x17 (λr18=>v6<p1/\∃x19,v10[v6]?=some x19/\v11+1<2^63/\nx12 ((v10.set v6 r18),(v11+1))))/\((ltN v11 p0.length)=false->k9 v10)) (v5,0)) (λv8=>v6+1<2^63/\nx7 (v8,(v6+1))))/\((ltN v6 p1)=false->k4 v5)) ((LY p1 ((⟨0,0⟩:Wd):Wd)),0)) (λv3=>p1=v3.length/\K v3)
theorem vQ{p0:(List Pat)}{p1:Nat}{K:(List Wd)->Prop}(hm:gY p0 p1 K){h0:Heap}(hB:aH vars h0):∃r,K r/\al Tryz.prog NG 147 ⟨[(ae 2 aE) p0,i64 p1,(.func (.func 148) ⟨[]⟩ ⟨[]⟩)]⟩ h0 ((ae 2 an) r) h0:=by
 unfold gY at hm
 refine fw Tryz.func147 hB (enc:=(ae 2 an)) (λr=>cg (λ_=>lz _)) λO=>?_;conv=>whnf
 refine gX ?_;refine O.mkL (enc:=an) 16 2 (⟨0,0⟩:Wd) hm λg1 h O hm=>?_;refine gH ?_;refine jn hm 43 [7] (λs=>s) (λv3 h=>Own vars h0 [(sG g1 an v3)] h) (λv3=>[]) (λhm=>?_) ?_
 .refine gX ?_;refine lw 43 [0,2,7,14] (σ:=((List Wd)×Nat)) (λs=>s) (λ(v5,v6) h=>Own vars h0 [(sG g1 an v5)] h) (λ(v5,v6)=>[(15,(i64 v6))]) ((LY p1 ((⟨0,0⟩:Wd):Wd)),0) hm O ?_;clear hm;rintro⟨v5,v6⟩ nx7 base h hm O;refine gX ?_;refine br hm (λhm=>?_) λhm=>?_
  .apply Cs;conv=>whnf
   refine jn hm 43 [0,2,7,14,15] (λs=>s) (λv8 h=>Own vars h0 [(sG g1 an v8)] h) (λv8=>[]) (λhm=>?_) ?_
   .refine gX ?_;refine lw 43 [0,2,7,8,14,15,18,19] (σ:=((List Wd)×Nat)) (λs=>s) (λ(v10,v11) h=>Own vars h0 [(sG g1 an v10)] h) (λ(v10,v11)=>[(20,(i64 v11))]) (v5,0) hm O ?_;clear hm;rintro⟨v10,v11⟩ nx12 base h hm O;refine gX ?_;refine br hm (λhm=>?_) λhm=>?_
    .refine gX ?_;refine atF hm λx13 hx13 hm=>?_;refine gH ?_;refine O.new (aj (l:=[nS,nS]) rfl rfl rfl) λg14 h O=>?_;refine gH ?_;refine O.stC 2 (.head _) [((ae 1 n8) x13.inp),((ae 1 n8) x13.state)] λh O=>?_;refine gX ?_;refine ix 2 hm λx16 hx16 hm=>?_;refine gH ?_;refine⟨_,aM (l:=cl (an x16)) rfl O.i1 rfl rfl (dR (enc:=an) (s:=2) (k:=0) (λ_=>rfl) (ai hx16) (LV _)) (de (enc:=an) (s:=2) (λ_=>rfl) hx16),?_⟩;refine gH ?_
     first|refine⟨.inr (.inr (aM (l:=cl (an x16)) rfl O.i1 rfl rfl (dR (enc:=an) (s:=2) (k:=0) (λ_=>rfl) (ai hx16) (LV _)) (de (enc:=an) (s:=2) (λ_=>rfl) hx16))),?_⟩|refine⟨.inr (.inl (by kernel_rfl)),?_⟩
     refine gX ?_;refine ldA O.i0 ?_;refine gH ?_
     first|refine⟨.inr (.inr (aM rfl O.i0 rfl rfl (lbE rfl) rfl)),?_⟩|refine⟨.inr (.inl (by kernel_rfl)),?_⟩
     refine gX ?_;refine fg Tryz.func148 ?_;refine gX ?_;refine fz ?_;refine gX ?_;refine⟨.inl (Ext.refl _),?_⟩;refine gH ?_;refine atF hm λx17 hx17 hm=>?_;refine gH ?_;refine ca (gh hm O.has) λr18 hm=>?_;refine gH ?_;refine⟨.inl (Ext.refl _),?_⟩;refine gH ?_;refine ix 2 hm λx19 hx19 hm=>?_;refine gH ?_;refine O.stE 2 (.tail _ (.head _)) hx19 r18 λh O=>?_;refine gH ?_;refine gX ?_;refine aJ hm λhm=>?_;refine gH ?_;exact jx ((v10.set v6 r18),(v11+1)) hm (O.sel [1] (by decide))
    .refine gX ?_;exact jx v10 hm O
   .clear hm;rintro v8 base h hm O;refine gX ?_;refine aJ hm λhm=>?_;refine gH ?_;exact jx (v8,(v6+1)) hm O
  .refine gX ?_;exact jx v5 hm O
 .clear hm;rintro v3 base h hm O;refine gX ?_;obtain⟨hn20,hm⟩:=hm;exact⟨v3,hm,O.ext,λh2 F=>O.jC F (LV _) (.head _) (λ_=>rfl) hn20⟩
def gZ(p0:(List Pat))(p1:Nat)(K:(List Wd)->Prop):Prop :=
 16*p1<=2^48/\p1<2^63/\aw (α:=(List Wd)) (λk4=>aF (S:=((List Wd)×Nat)) (λ(v5,v6) nx7=>((ltN v6 p1)=true->aw (α:=(List Wd)) (λk9=>aF (S:=((List Wd)×Nat)) (λ(v10,v11) nx12=>((ltN v11 p0.length)=true->∃x13,p0[v11]?=some x13/\v6<p1/\∃x16,v10[v6]?=some x16/\∃x17,x13.state[v6]?=some x17/\cU x16 v11 x17 (λr18=>v6<p1/\∃x19,v10[v6]?=some x19/\v11+1<2^63/\nx12 ((v10.set v6 r18),(v11+1))))/\((ltN v11 p0.length)=false->k9 v10)) (v5,0)) (λv8=>v6+1<2^63/\nx7 (v8,(v6+1))))/\((ltN v6 p1)=false->k4 v5)) ((LY p1 ((⟨0,0⟩:Wd):Wd)),0)) (λv3=>p1=v3.length/\K v3)
theorem wQ{p0:(List Pat)}{p1:Nat}{K:(List Wd)->Prop}(hm:gZ p0 p1 K){h0:Heap}(hB:aH vars h0):∃r,K r/\al Tryz.prog NG 147 ⟨[(ae 2 aE) p0,i64 p1,(.func (.func 149) ⟨[]⟩ ⟨[]⟩)]⟩ h0 ((ae 2 an) r) h0:=by
 unfold gZ at hm
 refine fw Tryz.func147 hB (enc:=(ae 2 an)) (λr=>cg (λ_=>lz _)) λO=>?_;conv=>whnf
 refine gX ?_;refine O.mkL (enc:=an) 16 2 (⟨0,0⟩:Wd) hm λg1 h O hm=>?_;refine gH ?_;refine jn hm 43 [7] (λs=>s) (λv3 h=>Own vars h0 [(sG g1 an v3)] h) (λv3=>[]) (λhm=>?_) ?_
 .refine gX ?_;refine lw 43 [0,2,7,14] (σ:=((List Wd)×Nat)) (λs=>s) (λ(v5,v6) h=>Own vars h0 [(sG g1 an v5)] h) (λ(v5,v6)=>[(15,(i64 v6))]) ((LY p1 ((⟨0,0⟩:Wd):Wd)),0) hm O ?_;clear hm;rintro⟨v5,v6⟩ nx7 base h hm O;refine gX ?_;refine br hm (λhm=>?_) λhm=>?_
  .apply Cs;conv=>whnf
   refine jn hm 43 [0,2,7,14,15] (λs=>s) (λv8 h=>Own vars h0 [(sG g1 an v8)] h) (λv8=>[]) (λhm=>?_) ?_
   .refine gX ?_;refine lw 43 [0,2,7,8,14,15,18,19] (σ:=((List Wd)×Nat)) (λs=>s) (λ(v10,v11) h=>Own vars h0 [(sG g1 an v10)] h) (λ(v10,v11)=>[(20,(i64 v11))]) (v5,0) hm O ?_;clear hm;rintro⟨v10,v11⟩ nx12 base h hm O;refine gX ?_;refine br hm (λhm=>?_) λhm=>?_
    .refine gX ?_;refine atF hm λx13 hx13 hm=>?_;refine gH ?_;refine O.new (aj (l:=[nS,nS]) rfl rfl rfl) λg14 h O=>?_;refine gH ?_;refine O.stC 2 (.head _) [((ae 1 n8) x13.inp),((ae 1 n8) x13.state)] λh O=>?_;refine gX ?_;refine ix 2 hm λx16 hx16 hm=>?_;refine gH ?_;refine⟨_,aM (l:=cl (an x16)) rfl O.i1 rfl rfl (dR (enc:=an) (s:=2) (k:=0) (λ_=>rfl) (ai hx16) (LV _)) (de (enc:=an) (s:=2) (λ_=>rfl) hx16),?_⟩;refine gH ?_
     first|refine⟨.inr (.inr (aM (l:=cl (an x16)) rfl O.i1 rfl rfl (dR (enc:=an) (s:=2) (k:=0) (λ_=>rfl) (ai hx16) (LV _)) (de (enc:=an) (s:=2) (λ_=>rfl) hx16))),?_⟩|refine⟨.inr (.inl (by kernel_rfl)),?_⟩
     refine gX ?_;refine ldA O.i0 ?_;refine gH ?_
     first|refine⟨.inr (.inr (aM rfl O.i0 rfl rfl (lbE rfl) rfl)),?_⟩|refine⟨.inr (.inl (by kernel_rfl)),?_⟩
     refine gX ?_;refine fg Tryz.func149 ?_;refine gX ?_;refine fz ?_;refine gX ?_;refine⟨.inl (Ext.refl _),?_⟩;refine gH ?_;refine atF hm λx17 hx17 hm=>?_;refine gH ?_;refine ca (gh hm O.has) λr18 hm=>?_;refine gH ?_;refine⟨.inl (Ext.refl _),?_⟩;refine gH ?_;refine ix 2 hm λx19 hx19 hm=>?_;refine gH ?_;refine O.stE 2 (.tail _ (.head _)) hx19 r18 λh O=>?_;refine gH ?_;refine gX ?_;refine aJ hm λhm=>?_;refine gH ?_;exact jx ((v10.set v6 r18),(v11+1)) hm (O.sel [1] (by decide))
    .refine gX ?_;exact jx v10 hm O
   .clear hm;rintro v8 base h hm O;refine gX ?_;refine aJ hm λhm=>?_;refine gH ?_;exact jx (v8,(v6+1)) hm O
  .refine gX ?_;exact jx v5 hm O
 .clear hm;rintro v3 base h hm O;refine gX ?_;obtain⟨hn20,hm⟩:=hm;exact⟨v3,hm,O.ext,λh2 F=>O.jC F (LV _) (.head _) (λ_=>rfl) hn20⟩
set_option maxHeartbeats 8000000
def ox(p0:Wd)(p1:(List Nat))(l:(List Flt))(_good:(List Wd))(K:Wd->Prop):Prop :=
 aw (α:=(Nat×Nat)) (λk7=>aF (S:=(Nat×Nat×Nat)) (λ(v8,v9,v10) nx11=>((ltN v10 p1.length)=true->∃x12,p1[v10]?=some x12/\∃x13,l[x12]?=some x13/\aw (α:=Unit) (λk14=>∃x15,l[x12]?=some x15/\((neN x15.model 0)=true->False)/\((neN x15.model 0)=false->k14 ())) (λ_=>cU (⟨v8,v9⟩:Wd) x12 x13.value (λr16=>v10+1<2^63/\nx11 (r16.one,r16.zero,(v10+1)))))/\((ltN v10 p1.length)=false->k7 (v8,v9))) (p0.one,p0.zero,0)) (λ(v5,v6)=>K (⟨v5,v6⟩:Wd))
theorem vZ{p0:Wd}{p1:(List Nat)}{l:(List Flt)}{good:(List Wd)}{K:Wd->Prop}(hm:ox p0 p1 l good K){h0:Heap}(hB:aH vars h0):∃r,K r/\al Tryz.prog NG 62 ⟨[an p0,(ae 1 i64) p1,FP ((ae 5 ay) l),FP ((ae 2 an) good)]⟩ h0 (an r) h0:=by
 unfold ox at hm
 refine fw Tryz.func62 hB (enc:=an) (λr=>eE _) λO=>?_;conv=>whnf
 refine gX ?_;(first|refine O.new (sh rfl) λg1 h O=>?_|refine O.oN (sh rfl) λg1 h O=>?_);refine gH ?_;(first|refine O.new (aj (l:=[(n64 0),(n64 0)]) rfl rfl rfl) λg3 h O=>?_|refine O.oN (aj (l:=[(n64 0),(n64 0)]) rfl rfl rfl) λg3 h O=>?_);refine gH ?_;refine jn hm 41 [4,6] (λs=>s) (λ(v5,v6) h=>Own vars h0 [(sC g1 [(n64 v5),(n64 v6)]),(sC g3 [(n64 0),(n64 0)])] h) (λ(v5,v6)=>[]) (λhm=>?_) ?_
 .refine gX ?_;refine lw 41 [2,3,4,6,10,11] (σ:=(Nat×Nat×Nat)) (λs=>s) (λ(v8,v9,v10) h=>Own vars h0 [(sC g1 [(n64 v8),(n64 v9)]),(sC g3 [(n64 0),(n64 0)])] h) (λ(v8,v9,v10)=>[(12,(i64 v10))]) (p0.one,p0.zero,0) hm (O.sel [1,0] (by decide)) ?_;clear hm;rintro⟨v8,v9,v10⟩ nx11 base h hm O;refine gX ?_;refine br hm (λhm=>?_) λhm=>?_
  .refine gX ?_;refine atF hm λx12 hx12 hm=>?_;refine gX ?_;refine atF hm λx13 hx13 hm=>?_;refine gH ?_;refine jn hm 41 [2,3,4,6,8,10,11,12] (λs=>s) (λ_ h=>Own vars h0 [(sC g1 [(n64 v8),(n64 v9)]),(sC g3 [(n64 0),(n64 0)])] h) (λ_=>[(9,(n8 x13.value))]) (λhm=>?_) ?_
   .refine gX ?_;refine atF hm λx15 hx15 hm=>?_;refine gX ?_;refine br hm (λhm=>?_) λhm=>?_
    .refine gX ?_;exact Nn hm
    .refine gX ?_;exact jx () hm O
   .clear hm;rintro _ base h hm O;refine gX ?_;refine ldA O.i0 ?_;refine gH ?_;refine ca (gh hm O.has) λr16 hm=>?_;refine gH ?_;refine O.stC 2 (.head _) [(n64 r16.one),(n64 r16.zero)] λh O=>?_;refine gX ?_;refine aJ hm λhm=>?_;refine gH ?_;exact jx (r16.one,r16.zero,(v10+1)) hm O
  .refine gX ?_;exact jx (v8,v9) hm O
 .clear hm;rintro⟨v5,v6⟩ base h hm O;refine gX ?_;refine ldA O.i0 ?_;refine gH ?_;refine O.stC 2 (.tail _ (.head _)) [(n64 v5),(n64 v6)] λh O=>?_;refine gX ?_
  refine⟨_,aI rfl rfl O.i1 rfl rfl (lbE rfl) rfl,?_⟩;conv=>whnf
  exact fe hm O
def dZ(p0:(List Nat))(K:(List Wd)->Prop):Prop :=
 aw (α:=(List Wd)) (λk6=>aF (S:=((List Wd)×Nat)) (λ(v8,v9) nx11=>((ltN v9 p0.length)=true->∃x12,p0[v9]?=some x12/\cf x12 (λr13=>(v8.length+([r13]:(List Wd)).length)*16<=2^47/\v9+1<2^63/\nx11 ((v8++([r13]:(List Wd))),(v9+1))))/\((ltN v9 p0.length)=false->k6 v8)) (([]:List Wd),0)) (λv4=>K v4)
theorem kK{p0:(List Nat)}{K:(List Wd)->Prop}(hm:dZ p0 K){h0:Heap}(hB:aH vars h0):∃r,K r/\al Tryz.prog NG 22 ⟨[(ae 1 n8) p0]⟩ h0 ((ae 2 an) r) h0:=by
 unfold dZ at hm
 refine fw Tryz.func22 hB (enc:=(ae 2 an)) (λr=>cg (λ_=>lz _)) λO=>?_;conv=>whnf
 apply Cs;conv=>whnf
 apply Cs;refine gH ?_;have O:=O.aZ (.cells (ah ((([]:List Wd)).map an)) false)
 apply Cs;conv=>whnf
 apply Cs;refine gH ?_;have O:=O.aZ (.cells (ah ((([]:List Wd)).map an)) false);refine jn (σ:=(List Wd)×Option Nat) hm 19 [] (λs=>s.1) (λ(v4,a3) h=>(a3=none->v4=[])/\Own vars h0 [(sM a3 an v4)] h) (λ(v4,a3)=>[(3,(ak 2 a3 (v4.map an)))]) (λhm=>?_) ?_
 .refine gX ?_;refine lw 19 [6,7] (σ:=((List Wd)×Nat)×Option Nat) (λs=>s.1) (λ((v8,v9),a7) h=>(a7=none->v8=[])/\Own vars h0 [(sM a7 an v8)] h) (λ((v8,v9),a7)=>[(3,(ak 2 a7 (v8.map an))),(8,(i64 v9))]) ((([]:List Wd),0),none) hm ⟨(λ_=>rfl),(O.sel [0] (by decide))⟩ ?_;clear hm;rintro⟨⟨v8,v9⟩,a7⟩ nx11 base h hm ⟨ha10,O⟩;refine gX ?_;refine br hm (λhm=>?_) λhm=>?_
  .refine gX ?_;refine atF hm λx12 hx12 hm=>?_;refine gX ?_;refine ca (bX hm O.has) λr13 hm=>?_;refine gH ?_;refine fz ?_;refine gH ?_;refine O.apL (enc:=an) (l:=v8) (new:=([r13]:(List Wd))) 2 (.head _) ha10 hm λa14 h ha15 O hm=>?_;refine gX ?_;refine aJ hm λhm=>?_;refine gH ?_;exact jx (((v8++([r13]:(List Wd))),(v9+1)),a14) hm ⟨ha15,O⟩
  .refine gX ?_;exact jx (v8,a7) hm ⟨ha10,O⟩
 .clear hm;rintro⟨v4,a3⟩ base h hm ⟨ha5,O⟩;refine gX ?_;exact⟨v4,hm,O.ext,λh2 F=>O.jP F (LV _) (.head _) ha5 (λ_=>rfl)⟩
set_option maxHeartbeats 8000000
theorem K9{cs:List Value}{m:Nat}{v:Value}(h:m<cs.length):bJ cs (0+m*1) [v]=cs.set m v:=by
 unfold Abs.bJ;rw[Oa,if_pos h];simp
theorem Js(n:Nat):ah ((LY n ([]:List Nat)).map (ae 1 n64))=LY n (ae 1 n64 []):=by
 induction n with
 |zero=>rfl
 |succ n ih=>rw[Qr,MM,Qr,<- ih];rfl
theorem LB{α:Type}(n j:Nat)(v:α):(LY n v).set j v=LY n v:=by
 apply MH;intro i;rw[Mp,Mt,Mw];by_cases e:j=i
 .subst e;rw[if_pos rfl]
 .rw[if_neg e]
theorem BC{c:Circ}{l:List Flt}(hc:cr c l [] (λe=>e=0))(hord:cp c λ_=>True)(hl:l.length<=65536){h0:Heap}(hB:aH vars h0) :
  ∃r,r=LY l.length ([]:List Nat)/\al Tryz.prog NG 46 ⟨[az c,ae 5 ay l,ae 2 aE []]⟩ h0 ((λ(r:List (List Nat))=>MD ⟨[ae 1 (ae 1 n64) r,i64 0]⟩) r) h0:=by
 refine fw Tryz.func46 hB (enc:=λ(r:List (List Nat))=>MD ⟨[ae 1 (ae 1 n64) r,i64 0]⟩) (λr=>aq.tup (ag.cons (cg λ_=>ag.cons (cg λ_=>ag.cons (aq.flat rfl) ag.nil) ag.nil) (ag.cons (aq.flat rfl) ag.nil))) λO=>?_;conv=>whnf
 refine gX ?_;refine fz ?_;refine gX ?_;refine ca (gE hc O.has) λe1 hm1=>?_;obtain rfl:e1=0:=hm1;refine gX ?_;refine bf ?_;refine gX ?_;refine O.mkL (enc:=λ_:Unit=>Pu none 0 0) (n:=l.length) (W:=True) 24 1 () ⟨by omega,by omega,trivial⟩ λgo h O _=>?_;refine gH ?_;(first|refine O.new (aj (l:=[nS]) rfl rfl rfl) λg9 h O=>?_|refine O.oN (aj (l:=[nS]) rfl rfl rfl) λg9 h O=>?_);refine gH ?_;refine O.stC 1 (.head _) [.slice (some ⟨go,0,none⟩) l.length l.length] λh O=>?_;refine gH ?_;refine CodeS.Ab (cs':=ah ((LY l.length ([]:List Nat)).map (ae 1 n64))) O (.tail _ (.head _)) (t2:=22) rfl rfl (Ll ..) λh O=>?_;refine gX ?_;refine lM hM (nn:=60) (by kernel_rfl) (σ:=Nat) (λj h=>j<=l.length/\Own vars h0 [(some g9,.cells [.slice (some ⟨go,0,none⟩) l.length l.length] false),(some go,.cells (ah ((LY l.length ([]:List Nat)).map (ae 1 n64))) false)] h)
  (λj=>[(2,ae 2 aE []),(3,FP (az c)),(9,.pointer (some ⟨g9,0,none⟩)),(24,i64 l.length),(25,i64 j)]) (λj=>l.length-j) rfl ⟨0,⟨L1 _,O⟩,rfl,rfl,rfl,rfl,rfl,trivial⟩ ?_
 clear O;rintro j base h ⟨hj,O⟩;refine gX ?_;by_cases hlt:j<l.length
 .refine bt ?_ (congrArg L0 (by show ltN j l.length=true;rw[bj];simp;omega));conv=>whnf
  apply Cs;conv=>whnf
  apply Cs;conv=>whnf
  apply Cs;conv=>whnf
  apply Cs;conv=>whnf
  apply Cs;refine gH ?_;refine CodeS.sc ?_;refine gH ?_;refine⟨.inr (.inr (bw rfl O.i0 rfl rfl)),?_⟩;refine gH ?_;refine aJ (a:=0) (b:=64) (W:=True) ⟨by decide,trivial⟩ λ_=>?_;refine gH ?_;refine vt (a:=0+64) (b:=1) (W:=True) ⟨by decide,by decide,trivial⟩ λ_=>?_;refine gH ?_;refine Ff (a:=0+64-1) (b:=64) (W:=True) ⟨by decide,by decide,trivial⟩ λ_=>?_;refine gH ?_;refine O.xa (enc:=n64) (z:=0) (b:=8) (s:=1) (n:=(0+64-1)/64) rfl rfl rfl rfl rfl (by decide) (by kernel_rfl) rfl rfl (by decide) (by decide) λgr h O=>?_;refine gH ?_;refine cb (s:=1) (j:=j) rfl rfl rfl rfl hlt ?_;refine gH ?_
  have hln:j<(ah ((LY l.length ([]:List Nat)).map (ae 1 n64))).length:=by rw[Js,Mw];exact hlt
  refine O.store (n:=1) (cs':=bJ (ah ((LY l.length ([]:List Nat)).map (ae 1 n64))) (0+j*1) [.slice (some ⟨gr,0,none⟩) ((0+64-1)/64) ((0+64-1)/64)]) (.tail _ (.tail _ (.head _))) rfl rfl rfl rfl (by omega) rfl rfl λh O=>?_
  conv=>whnf
  refine⟨.inl (by kernel_rfl),?_⟩;refine gH ?_;refine CodeS.ghost (cs2':=ah ((LY l.length ([]:List Nat)).map (ae 1 n64))) O (.head _) (.tail _ (.tail _ (.head _))) (t1:=35) (t2:=28) rfl rfl rfl rfl (λh2 hq=>?_) λh O=>?_
  .rw[K9 hln,Js];have:=LLe.set (h:=h2) (cs:=LY l.length (ae 1 n64 [])) (i:=j) (VLe.flM (enc:=n64) (l:=[]) (n:=(0+64-1)/64) (cap:=(0+64-1)/64) (sp:=none) (s:=1) hq rfl (λ_=>rfl));rw[LB] at this;exact this
  .refine gX ?_;refine aJ (a:=j) (b:=1) (W:=True) ⟨by omega,trivial⟩ λ_=>?_;refine gX ?_;exact⟨j+1,by omega,⟨hlt,O.tail⟩,rfl,rfl,rfl,rfl,rfl,trivial⟩
 .obtain rfl:j=l.length:=by omega
  refine bf ?_ (congrArg L0 (by show ltN l.length l.length=false;rw[bj];simp));refine gX ?_;refine ca (fV hord O.has) λx _=>?_;refine gH ?_;(first|refine O.new (aj (l:=[nS,nS,nS,nS,nS,nS,nS,.nilFunc,.nilFunc]) rfl rfl rfl) λgx h O=>?_|refine O.oN (aj (l:=[nS,nS,nS,nS,nS,nS,nS,.nilFunc,.nilFunc]) rfl rfl rfl) λgx h O=>?_);refine gH ?_;refine O.stC 9 (.head _) [((ae 4 au) x.circ.nodes),((ae 1 L5) x.circ.names),((ae 3 bc) x.circ.mems),((ae 1 i64) x.circ.outs),((ae 1 i64) x.order),((ae 1 i64) x.ins),((ae 1 i64) x.state),(fP x.net),(ff x.pin)] λh O=>?_;refine gX ?_;(first|refine O.new (aj (l:=[(i64 0)]) rfl rfl rfl) λgi h O=>?_|refine O.oN (aj (l:=[(i64 0)]) rfl rfl rfl) λgi h O=>?_);refine gH ?_;refine O.stC 1 (.head _) [(i64 0)] λh O=>?_;refine gX ?_;have O:=O.sel [0,2,3] (by decide);refine lM hM (nn:=60) (by kernel_rfl) (σ:=Unit) (λ_ h=>Own vars h0 [(some gi,.cells [(i64 0)] false),(some g9,.cells [.slice (some ⟨go,0,none⟩) l.length l.length] false),(some go,.cells (ah ((LY l.length ([]:List Nat)).map (ae 1 n64))) false)] h)
   (λ_=>[(2,ae 2 aE []),(9,.pointer (some ⟨g9,0,none⟩)),(12,.pointer (some ⟨gi,0,none⟩))]) (λ_=>0) rfl ⟨(),O,rfl,rfl,rfl,trivial⟩ ?_
  clear O;rintro _ base h O;refine gX ?_;refine bf ?_ (by exact rfl);refine gX ?_;exact⟨LY l.length [],rfl,O.ext,λh2 F=>VLe.tup (LLe.cons (O.jC F (LV _) (.tail _ (.tail _ (.head _))) (λ_=>rfl) (by simp)) (LLe.cons (VLe.refl _ _) (LLe.nil _)))⟩
set_option maxHeartbeats 8000000
def ia(n j:Nat):List (List Nat):=LY j [0]++LY (n-j) []
theorem sU{n j:Nat}(h:j<=n):(ia n j).length=n:=by simp[ia];omega
theorem yU{n j:Nat}(h:j<n):(ia n j)[j]?=some []:=by
 unfold ia;rw[Mg (by simp),Mw,Nx,Mt,if_pos (by omega)]
theorem yf{n j:Nat}(h:j<n):(ia n j).set j [0]=ia n (j+1):=by
 unfold ia;apply MH;intro i;rw[Mp];by_cases e:j=i
 .subst e;rw[if_pos rfl,if_pos (by simp;omega),Mb (by simp),Mt,if_pos (by omega)]
 .rw[if_neg e];by_cases c:i<j
  .rw[Mb (by simpa using c),Mb (by simp;omega),Mt,Mt,if_pos c,if_pos (by omega)]
  .rw[Mg (by simp;omega),Mg (by simp;omega),Mt,Mt,Mw,Mw];by_cases c2:i<n
   .rw[if_pos (by omega),if_pos (by omega)]
   .rw[if_neg (by omega),if_neg (by omega)]
theorem BH{n:Nat}:RowsOk (LY n (none:Option Nat)) (ia n 0):=by
 refine⟨by simp[ia],λj r a hr ha=>?_⟩;unfold ia at hr;rw[List.replicate_zero,OO,Mt] at hr;rw[Mt] at ha;split at hr
 .split at ha
  .cases hr;cases ha;simp
  .cases ha
 .cases hr
theorem xw{A:List (Option Nat)}{R:List (List Nat)}(ok:RowsOk A R){j g v:Nat}:RowsOk (A.set j (some g)) (R.set j [v]):=by
 refine⟨by rw[Nj,Nj];exact ok.len,λi r a hr ha=>?_⟩;rw[Mp] at hr ha;by_cases e:j=i
 .rw[if_pos e] at hr ha;split at hr
  .split at ha
   .cases hr;cases ha;simp
   .cases ha
  .cases hr
 .rw[if_neg e] at hr ha;exact ok.nil i r a hr ha
theorem lW{A:List (Option Nat)}{R:List (List Nat)}{j:Nat}{a:Option Nat}{r:List Nat}(hl:A.length=R.length):aP 1 n64 (A.set j a) (R.set j r)=(aP 1 n64 A R).set j (ak 1 a (r.map n64)):=by
 unfold aP;apply MH;intro i;rw[Ol,Mp,Mp,Mp,Ol,PD];by_cases e:j=i
 .subst e;rw[if_pos rfl,if_pos rfl,if_pos rfl];by_cases h1:j<A.length
  .rw[if_pos h1,if_pos (by omega),if_pos (by omega)]
  .rw[if_neg h1,if_neg (by omega),if_neg (by omega)]
 .rw[if_neg e,if_neg e,if_neg e]
set_option maxHeartbeats 8000000
theorem DM{h0 h:Heap}{S:List Slot}{A:List (Option Nat)}{R:List (List Nat)}{g9 gi go n j v w:Nat}(ok:RowsOk A R)(hR:R[j]?=some [w])(hn:n=R.length)(m9:(some g9,.cells [.slice (some ⟨go,0,none⟩) n n] false)∈S)(mi:(some gi,.cells [(i64 0)] false)∈S)(mo:(some go,.cells (aP 1 n64 A R) false)∈S)
  (O:Own vars h0 (S++aS n64 A R) h):∃u h',al Tryz.prog NG 100 ⟨[i64 j,n64 v,.pointer (some ⟨g9,0,none⟩),.pointer (some ⟨gi,0,none⟩)]⟩ h u h'/\∃_u:Unit,u=.tuple ⟨[]⟩/\RowsOk A (R.set j [v])/\Own vars h0 (S++aS n64 A (R.set j [v])) h':=by
 obtain⟨a,ha,hnil,O1⟩:=Own.focus ok O hR
 have hj:j<n:=by rw[hn];exact ai hR
 obtain⟨gr,rfl⟩:∃g,a=some g:=by
  cases a with
  |none=>have:=hnil.1 rfl;cases this
  |some g=>exact⟨g,rfl⟩
 refine fg Tryz.func100 ?_;conv=>whnf
 refine CodeS.sc ?_;refine gH ?_;refine ldO (O1.at (.tail _ (MA _ m9))) ?_;refine gH ?_;refine⟨.inr (.inr (bw rfl (O1.at (.tail _ (MA _ m9))) rfl rfl)),?_⟩;refine gH ?_;refine cb (s:=1) (j:=j) rfl rfl rfl rfl hj ?_;refine gH ?_;refine⟨_,vm (O1.at (.tail _ (MA _ mo))) ha hR rfl rfl,?_⟩;refine gH ?_;refine⟨.inr (.inr (vm (O1.at (.tail _ (MA _ mo))) ha hR rfl rfl)),?_⟩;refine gH ?_;refine ldO (O1.at (.tail _ (MA _ mi))) ?_;refine gH ?_;refine Ff (a:=0) (b:=64) (W:=True) ⟨by decide,by decide,trivial⟩ λ_=>?_;refine gH ?_;refine cb (s:=1) (j:=0/64) (g:=gr) (off:=0) (n:=1) (cap:=1) (sp:=some 1) rfl rfl rfl rfl (by decide) ?_;refine gH ?_;refine O1.stE 1 (.head _) (j:=0/64) (l:=[w]) (enc:=n64) (y:=w) rfl v λh O2=>?_
 conv=>whnf
 refine⟨.inl (by kernel_rfl),?_⟩;refine gH ?_;have O3:=O2.uW (r':=[v]) hR ok
 have hA:A.set j (some gr)=A:=by
  apply MH;intro i;rw[Mp];by_cases e:j=i
  .subst e;rw[if_pos rfl,ha,if_pos (ai ha)]
  .rw[if_neg e]
 have ok3:=xw ok (j:=j) (g:=gr) (v:=v);rw[hA] at O3 ok3;exact⟨(),rfl,ok3,O3⟩
theorem Ae{A:List (Option Nat)}{R:List (List Nat)}{j v w:Nat}(hR:R[j]?=some [w]):aP 1 n64 A (R.set j [v])=aP 1 n64 A R:=by
 unfold aP;apply MH;intro i;rw[Ol,Ol,Mp];by_cases e:j=i
 .subst e;rw[if_pos rfl,if_pos (ai hR),hR]
  cases A[j]? <;> rfl
 .rw[if_neg e]
end Go.Proofs.YtglgdkineobbeaaGreatDoor

namespace Go.Abs
section
variable {P:Program} {ρ:Operand->Value} {d:Option Tmp} {ty:TypeId} {pos:String} {af:Array Edge} {gd:Option (Nat×Bool)} {t yt:TypeId} {x y:Operand} {K:Value->Prop}
theorem KD{a b:Nat}(hb:b<=a)(ha:a<2^64)(k:K (.int .u64 (LQ (a-b))))(hx:ρ x=.int .u64 (LQ a):=by exact rfl)(hy:ρ y=.int .u64 (LQ b):=by exact rfl) :
  ∃v,aC P ρ { dst:=d,op:=.binOp .sub t x y yt,type:=ty,pos:=pos,after:=af,guard:=gd }=some v/\K v:=by
 refine⟨_,zO hx hy ?_,k⟩;simp only[fF,LR,N5,true_and]
 have e:LQ a-LQ b=LQ (a-b):=by simp only[L4];omega
 rw[e];exact pA (by omega)
end
theorem GJ{k i:Nat}(hk:k<64):(cH 1 k-1).testBit i=decide (i<k):=by
 have e:cH 1 k=2^k:=by
  unfold cH;rw[Oh];exact Om (Qk (by decide) hk)
 rw[e,Qz]
theorem Bl{k:Nat}(hk:k<64):1<=cH 1 k/\cH 1 k<2^64:=by
 have e:cH 1 k=2^k:=by
  unfold cH;rw[Oh];exact Om (Qk (by decide) hk)
 rw[e];exact⟨Nat.one_le_two_pow,Qk (by decide) hk⟩
end Go.Abs

namespace Go.Proofs.YtglgdkineobbeaaGreatDoor
open Go.Abs
set_option maxRecDepth 100000
theorem jB{kd:TypeDesc}(hk:gK kd=false)(a b:LnZ):fo Tryz.prog 68 kd (av a) (av b)=some (decide (a=b)):=by
 have he:nW Tryz.prog 68 (av a) (av b)=some ((LQ a.node==LQ b.node)&&((a.pin==b.pin)&&true)):=by kernel_rfl
 have hd:decide (a=b)=((LQ a.node==LQ b.node)&&((a.pin==b.pin)&&true)):=by
  rw[MW];simp only[decide_eq_true_eq,L9,beq_iff_eq,PG]
  cases a;cases b
  simp
  try omega
 rw[hd];refine Ch hk he rfl rfl λh=>?_
 have:a=b:=by rw[<- hd] at h;exact of_decide_eq_true h
 subst this;simp[tw,Gp,i64,z64]
set_option maxHeartbeats 8000000
abbrev NM:=List (Nat×Option Nat×List Nat)
abbrev PM:=List (LnZ×Option Nat×List Nat)
structure FiledOk (l:List Flt) (i:Nat) (mN:NM) (mP:PM):Prop where
 net:∀n,bS mN n=(Ma i).filter λt=>match l[t]? with|some f=>decide (f.line.pin<0/\f.line.node=n) | none=>false
 pin:∀q,bS mP q=(Ma i).filter λt=>match l[t]? with|some f=>decide (0<=f.line.pin/\f.line=q) | none=>false
 nn:∀e∈mN,e.2.1≠none
 pn:∀e∈mP,e.2.1≠none
def fI(gN gP:Nat)(mN:NM)(mP:PM)(R:List Slot):List Slot :=
 (some gN,.map (aY i64 ixV mN))::(mN.map bl++((some gP,.map (aY av ixV mP))::(mP.map bl++R)))
theorem eB{gN gP:Nat}{mN:NM}{mP:PM}{R:List Slot}{p:Slot}(h:p∈R):p∈fI gN gP mN mP R :=
 .tail _ (Nd _ (.tail _ (Nd _ h)))
theorem JH{a b p:Slot}{X Z R:List Slot}(h:p∈R):p∈a::(X++(b::(Z++R))):=.tail _ (Nd _ (.tail _ (Nd _ h)))
theorem pF{gN gP:Nat}{mN:NM}{mP:PM}{R:List Slot}(p:Slot):(p::fI gN gP mN mP R).Perm (fI gN gP mN mP (p::R)):=by
 unfold fI
 have h1:(some gN,AObj.map (aY i64 ixV mN))::(mN.map bl++((some gP,.map (aY av ixV mP))::(mP.map bl++(p::R))))=((some gN,AObj.map (aY i64 ixV mN))::(mN.map bl++((some gP,.map (aY av ixV mP))::mP.map bl)))++p::R:=by simp
 have h2:p::((some gN,AObj.map (aY i64 ixV mN))::(mN.map bl++((some gP,.map (aY av ixV mP))::(mP.map bl++R))))=p::(((some gN,AObj.map (aY i64 ixV mN))::(mN.map bl++((some gP,.map (aY av ixV mP))::mP.map bl)))++R):=by simp
 rw[h1,h2];exact OE.symm
def Cc(gN gP:Nat)(mN:NM)(mP:PM)(R:List Slot):List Slot :=
 (some gP,.map (aY av ixV mP))::(mP.map bl++((some gN,.map (aY i64 ixV mN))::(mN.map bl++R)))
theorem vS{gN gP:Nat}{mN:NM}{mP:PM}{R:List Slot}:(fI gN gP mN mP R).Perm (Cc gN gP mN mP R):=FR _ _ _ _ _
theorem rH{gN gP:Nat}{mN:NM}{mP:PM}{R:List Slot}{p:Slot}(h:p∈R):p∈Cc gN gP mN mP R :=
 .tail _ (Nd _ (.tail _ (Nd _ h)))
theorem zw{κ:Type}{m:List (κ×Option Nat×List Nat)}{e:κ×Option Nat×List Nat}{x:Slot}{R:List Slot}:(bl e::x::(m.map bl++R)).Perm (x::((m++[e]).map bl++R)):=by
 have h1:x::((m++[e]).map bl++R)=(x::m.map bl)++bl e::R:=by simp
 rw[h1]
 show (bl e::((x::m.map bl)++R)).Perm _
 exact OE.symm
theorem KZ{p:Nat->Bool}{i:Nat}:(Ma (i+1)).filter p=(Ma i).filter p++(if p i=true then [i] else []):=by
 rw[N6,Ns];congr 1;by_cases c:p i=true
 .simp[c]
 .simp[c]
theorem mG{l:List Flt}{i:Nat}{p:Flt->Bool}{f:Flt}(hf:l[i]?=some f):((Ma (i+1)).filter λt=>match l[t]? with|some f=>p f|none=>false)=((Ma i).filter λt=>match l[t]? with|some f=>p f|none=>false)++if p f=true then [i] else []:=by
 rw[KZ,hf]
theorem Cq{κ:Type}[DecidableEq κ]{m:List (κ×Option Nat×List Nat)}{k:κ}{p:Nat->Bool}{i j:Nat}{a:Option Nat}{r:List Nat}(h:bS m k=(Ma i).filter p)(hj:bU m k 0=some (j,(a,r))):r.length<=i:=by
 have e:bS m k=r:=by
  unfold bS;rw[<- iP k m 0,hj];rfl
 rw[<- e,h];exact Mf (Nf _ _) (by rw[M4];exact LV _)
theorem xz{κ:Type}[DecidableEq κ]{m:List (κ×Option Nat×List Nat)}{k:κ}{j i:Nat}{a a':Option Nat}{r:List Nat}(hj:bU m k 0=some (j,(a,r)))(q:κ):bS (m.set j (k,a',r++[i])) q=bS m q++if q=k then [i] else []:=by
 have:=qY (w:=(a',r++[i])) hj q;rw[Ou] at this;unfold bS;rw[this];by_cases c:q=k
 .subst c;rw[if_pos rfl,if_pos rfl,<- iP q m 0,hj];rfl
 .rw[if_neg c,if_neg c,MZ]
theorem CK{κ:Type}[DecidableEq κ]{m:List (κ×Option Nat×List Nat)}{k:κ}{i:Nat}{a':Option Nat}(hj:bU m k 0=none)(q:κ):bS (m++[(k,a',[i])]) q=bS m q++if q=k then [i] else []:=by
 have hn:=kz.1 hj;unfold bS;rw[sY hn q];by_cases c:q=k
 .subst c;rw[if_pos rfl,if_pos rfl,hn];rfl
 .rw[if_neg c,if_neg c,MZ]
theorem FiledOk.LK{l:List Flt}{i:Nat}{mN:NM}{mP mP':PM}{f:Flt}(F:FiledOk l i mN mP)(hf:l[i]?=some f)(hp:0<=f.line.pin)(h:∀q,bS mP' q=bS mP q++if q=f.line then [i] else [])(hn:∀e∈mP',e.2.1≠none):FiledOk l (i+1) mN mP':=by
 refine⟨λn=>?_,λq=>?_,F.nn,hn⟩
 .rw[F.net,mG (p:=λf=>decide (f.line.pin<0/\f.line.node=n)) hf,if_neg (by simp;omega),MZ]
 .rw[h,F.pin,mG (p:=λf=>decide (0<=f.line.pin/\f.line=q)) hf];congr 1;by_cases c:q=f.line
  .rw[if_pos c,if_pos (by simp[hp,c])]
  .rw[if_neg c,if_neg (by simp;exact λ_ e=>c e.symm)]
theorem FiledOk.Lu{l:List Flt}{i:Nat}{mN mN':NM}{mP:PM}{f:Flt}(F:FiledOk l i mN mP)(hf:l[i]?=some f)(hp:f.line.pin<0)(h:∀q,bS mN' q=bS mN q++if q=f.line.node then [i] else [])(hn:∀e∈mN',e.2.1≠none):FiledOk l (i+1) mN' mP:=by
 refine⟨λn=>?_,λq=>?_,hn,F.pn⟩
 .rw[h,F.net,mG (p:=λf=>decide (f.line.pin<0/\f.line.node=n)) hf];congr 1;by_cases c:n=f.line.node
  .rw[if_pos c,if_pos (by simp[hp,c])]
  .rw[if_neg c,if_neg (by simp;exact λ_ e=>c e.symm)]
 .rw[F.pin,mG (p:=λf=>decide (0<=f.line.pin/\f.line=q)) hf,if_neg (by simp;omega),MZ]
theorem sF{gN gP:Nat}{mN:NM}{mP:PM}{R:List Slot}:fI gN gP mN mP R=fI gN gP mN mP []++R:=by
 unfold fI;simp
theorem G0{x:Eng}{l:List Flt}{good:List Wd}(hl:l.length<=64)(hst:∀f∈l,f.model=0){h0 h:Heap}{S:List Slot}(O:Own vars h0 S h) :
  ∃u h',al Tryz.prog NG 24 ⟨[eg x,ae 5 ay l,ae 2 an good]⟩ h u h'/\∃(gN gP g7 g8 g11:Nat) (mN:NM) (mP:PM),u=.agg ⟨cl (az x.circ)++[ae 1 i64 x.order,ae 1 i64 x.ins,ae 1 i64 x.state,.func (.func 66) ⟨[]⟩ ⟨[.pointer (some ⟨g11,0,none⟩),.pointer (some ⟨g7,0,none⟩)]⟩,.func (.func 67) ⟨[]⟩ ⟨[.pointer (some ⟨g11,0,none⟩),.pointer (some ⟨g8,0,none⟩)]⟩]⟩ /\
   FiledOk l l.length mN mP/\Own vars h0 (fI gN gP mN mP ((some g7,.cells [.map (some gN)] false)::(some g8,.cells [.map (some gP)] false)::(some g11,.cells [.func (.func 62) ⟨[]⟩ ⟨[FP (ae 5 ay l),FP (ae 2 an good)]⟩] false)::S)) h':=by
 refine fg Tryz.func24 ?_;conv=>whnf
 apply Cs;conv=>whnf
 apply Cs;refine gH ?_;refine O.new (sh rfl) λg3 h O=>?_;refine gH ?_;refine fz ?_;refine gH ?_;refine fz ?_;refine gH ?_;refine O.new (aj (l:=[.slice none 0 0,.slice none 0 0,.slice none 0 0,.slice none 0 0,.slice none 0 0,.slice none 0 0,.slice none 0 0,.nilFunc,.nilFunc]) rfl rfl rfl) λg6 h O=>?_;refine gH ?_;refine gX ?_;refine O.new ((rfl:ew _ _ _=some (.map (aY i64 ixV ([]:NM)),λg=>.map (some g)))) λgN h O=>?_;refine gH ?_;refine O.new ((rfl:ew _ _ _=some (.map (aY av ixV ([]:PM)),λg=>.map (some g)))) λgP h O=>?_;refine gH ?_;refine O.new (aj (l:=[.map none]) rfl rfl rfl) λg7 h O=>?_;refine gH ?_;refine O.new (aj (l:=[.map none]) rfl rfl rfl) λg8 h O=>?_;refine gH ?_;refine O.stC 1 (.tail _ (.head _)) [.map (some gN)] λh O=>?_;refine gH ?_;refine O.stC 1 (.head _) [.map (some gP)] λh O=>?_;refine gX ?_;have O:=O.Gc [_,_,_,_,_,_] [3,2,1,0,5,4] (by decide);refine lM hM (nn:=66) (by kernel_rfl) (σ:=Nat×NM×PM) (λs h=>s.1<=l.length/\FiledOk l s.1 s.2.1 s.2.2/\Own vars h0 (fI gN gP s.2.1 s.2.2 ((some g7,.cells [.map (some gN)] false)::(some g8,.cells [.map (some gP)] false)::(some g3,.cells (cl (eg x)) false)::(some g6,.cells [.slice none 0 0,.slice none 0 0,.slice none 0 0,.slice none 0 0,.slice none 0 0,.slice none 0 0,.slice none 0 0,.nilFunc,.nilFunc] false)::S)) h)
  (λs=>[(3,.pointer (some ⟨g3,0,none⟩)),(4,FP (ae 5 ay l)),(5,FP (ae 2 an good)),(6,.pointer (some ⟨g6,0,none⟩)),(7,.pointer (some ⟨g7,0,none⟩)),(8,.pointer (some ⟨g8,0,none⟩)),(14,ae 5 ay l),(15,i64 l.length),(16,i64 s.1)]) (λs=>l.length-s.1) rfl ⟨(0,[],[]),⟨L1 _,⟨λn=>rfl,λq=>rfl,(λ_ m=>by cases m),(λ_ m=>by cases m)⟩,O⟩,rfl,rfl,rfl,rfl,rfl,rfl,rfl,rfl,rfl,trivial⟩ ?_
 clear O;rintro⟨i,mN,mP⟩ base h ⟨hi,F,O⟩;dsimp only at hi F O;refine gX ?_;by_cases hlt:i<l.length
 .refine bt ?_ (congrArg L0 (by show ltN i l.length=true;rw[bj];simp;omega));refine gX ?_;obtain⟨f,hf⟩:∃f,l[i]?=some f:=⟨_,LU hlt⟩;refine atF (W:=λ_=>True) ⟨f,hf,trivial⟩ λf' hf' _=>?_;rw[hf] at hf';cases hf';refine gH ?_;refine O.new (aj (l:=[n8 0,i64 0,i64 0,n8 0,i64 0]) rfl rfl rfl) λg10 h O=>?_;refine gH ?_;refine O.stC 5 (.head _) (cl (ay f)) λh O=>?_;refine gX ?_;by_cases hpin:0<=f.line.pin
  .refine bt ?_ (congrArg L0 (by show (!ltI f.line.pin (LQ 0))=true;rw[fG];simp;omega));refine gX ?_;have O:=O.perm ((pF _).trans vS);refine ldO (O.at (rH (.tail _ (.tail _ (.head _))))) ?_;refine gH ?_;refine ldA (l:=[i64 f.line.node,z64 f.line.pin]) (O.at (rH (.head _))) ?_;refine gH ?_;refine fz ?_;refine gH ?_
   have step:∀(mP':PM) (h:Heap),(∀q,bS mP' q=bS mP q++if q=f.line then [i] else [])->(∀e∈mP',e.2.1≠none)->Own vars h0 (Cc gN gP mN mP' ((some g10,.cells (cl (ay f)) false)::((some g7,.cells [.map (some gN)] false)::(some g8,.cells [.map (some gP)] false)::(some g3,.cells (cl (eg x)) false)::(some g6,.cells [.slice none 0 0,.slice none 0 0,.slice none 0 0,.slice none 0 0,.slice none 0 0,.slice none 0 0,.slice none 0 0,.nilFunc,.nilFunc] false)::S))) h->FiledOk l (i+1) mN mP'/\Own vars h0 (fI gN gP mN mP' ((some g7,.cells [.map (some gN)] false)::(some g8,.cells [.map (some gP)] false)::(some g3,.cells (cl (eg x)) false)::(some g6,.cells [.slice none 0 0,.slice none 0 0,.slice none 0 0,.slice none 0 0,.slice none 0 0,.slice none 0 0,.slice none 0 0,.nilFunc,.nilFunc] false)::S)) h:=λmP' h e1 e2 O =>
    ⟨F.LK hf hpin e1 e2,(O.perm ((vS.symm).trans (pF _).symm)).tail⟩
   cases hj:bU mP f.line 0 with
   |some q =>
    obtain⟨j,a,r⟩:=q;have hjm:=(dW hj).2;rw[Ou] at hjm;have hne:=F.pn _ (LS hjm);refine O.KV (ek:=av) (ev:=ixV) (.head _) hj rfl rfl rfl (by kernel_rfl) (by kernel_rfl) (jB rfl) rfl rfl λh O=>?_;refine gH ?_;have hrl:=Cq (F.pin f.line) hj;obtain⟨fA,A,hfA⟩:=Hc (S:=(some gN,.map (aY i64 ixV mN))::(mN.map bl++((some g10,.cells (cl (ay f)) false)::((some g7,.cells [.map (some gN)] false)::(some g8,.cells [.map (some gP)] false)::(some g3,.cells (cl (eg x)) false)::(some g6,.cells [.slice none 0 0,.slice none 0 0,.slice none 0 0,.slice none 0 0,.slice none 0 0,.slice none 0 0,.slice none 0 0,.nilFunc,.nilFunc] false)::S)))) hjm;refine O.apL (enc:=i64) (b:=8) (l:=r) (new:=([i]:List Nat)) (W:=True) 1 (.tail _ A) (λe=>absurd e hne) ⟨by rw[L6];omega,trivial⟩ λa' h ha' O _=>?_;refine gH ?_;have O:Own vars h0 ((some gP,.map (aY av ixV mP))::fA (bl (f.line,a',r++[i]))) h:=O;rw[hfA] at O;refine O.IX (i:=j) (kv:=av f.line) (old:=ixV (a,r)) (.head _) (by unfold aY;rw[L7,hjm];rfl) rfl rfl rfl λh O=>?_;refine gX ?_
    have em:(aY av ixV mP).set j (av f.line,ak 1 a' ((r++[i]).map i64))=aY av ixV (mP.set j (f.line,a',r++[i])):=by unfold aY;rw[Qy];rfl
    have O:Own vars h0 ((some gP,.map ((aY av ixV mP).set j (av f.line,ak 1 a' ((r++[i]).map i64))))::((mP.set j (f.line,a',r++[i])).map bl++((some gN,.map (aY i64 ixV mN))::(mN.map bl++((some g10,.cells (cl (ay f)) false)::((some g7,.cells [.map (some gN)] false)::(some g8,.cells [.map (some gP)] false)::(some g3,.cells (cl (eg x)) false)::(some g6,.cells [.slice none 0 0,.slice none 0 0,.slice none 0 0,.slice none 0 0,.slice none 0 0,.slice none 0 0,.slice none 0 0,.nilFunc,.nilFunc] false)::S)))))) h:=O;rw[em] at O;refine aJ (a:=i) (b:=1) (W:=True) ⟨by omega,trivial⟩ λ_=>?_;refine gX ?_
    have hne':∀e∈mP.set j (f.line,a',r++[i]),e.2.1≠none:=λe m=>by
     rcases OM m with m|rfl
     .exact F.pn e m
     .exact λq=>by have:=ha' q;simp at this
    obtain⟨F2,O2⟩:=step _ _ (λq=>xz hj q) hne' O;exact⟨(i+1,mN,mP.set j (f.line,a',r++[i])),by show l.length-(i+1)<l.length-i;omega,⟨hlt,F2,O2⟩,rfl,rfl,rfl,rfl,rfl,rfl,rfl,rfl,rfl,trivial⟩
   |none =>
    refine O.KN (ek:=av) (ev:=ixV) (.head _) hj rfl rfl rfl (by kernel_rfl) (by kernel_rfl) (jB rfl) rfl rfl λh O=>?_;refine gH ?_;have O:=O.aZ (.cells (ah (([]:List Nat).map i64)) false);refine O.apL (enc:=i64) (b:=8) (l:=([]:List Nat)) (new:=([i]:List Nat)) (W:=True) 1 (.head _) (λ_=>rfl) ⟨by simp,trivial⟩ λa' h ha' O _=>?_;refine gH ?_;refine O.IX (i:=mP.length) (kv:=av f.line) (old:=.slice none 0 0) (.tail _ (.head _)) (by rw[Mg (by unfold aY;rw[LZ];exact LV _)];unfold aY;rw[LZ,Nx];rfl) rfl rfl rfl λh O=>?_;refine gX ?_
    have em:(aY av ixV mP++[(av f.line,Pu none 0 0)]).set mP.length (av f.line,ak 1 a' (([]++[i]).map i64))=aY av ixV (mP++[(f.line,a',[i])]):=by
     have e2:aY av ixV (mP++[(f.line,a',[i])])=aY av ixV mP++[(av f.line,ixV (a',[i]))]:=MT;rw[e2,Rm _ _ (by unfold aY;rw[LZ];exact LV _)]
     have e3:(aY av ixV mP).length=mP.length:=by unfold aY;rw[LZ]
     rw[e3,Nx];rfl
    have O:Own vars h0 (bl (f.line,a',[i])::(some gP,.map ((aY av ixV mP++[(av f.line,Pu none 0 0)]).set mP.length (av f.line,ak 1 a' (([]++[i]).map i64))))::(mP.map bl++((some gN,.map (aY i64 ixV mN))::(mN.map bl++((some g10,.cells (cl (ay f)) false)::((some g7,.cells [.map (some gN)] false)::(some g8,.cells [.map (some gP)] false)::(some g3,.cells (cl (eg x)) false)::(some g6,.cells [.slice none 0 0,.slice none 0 0,.slice none 0 0,.slice none 0 0,.slice none 0 0,.slice none 0 0,.slice none 0 0,.nilFunc,.nilFunc] false)::S)))))) h:=O;rw[em] at O;have O:=O.perm zw;refine aJ (a:=i) (b:=1) (W:=True) ⟨by omega,trivial⟩ λ_=>?_;refine gX ?_
    have hne':∀e∈mP++[(f.line,a',[i])],e.2.1≠none:=λe m=>by
     rcases MB.1 m with m|m
     .exact F.pn e m
     .rw[Mm.1 m]
      exact λq=>by have:=ha' q;simp at this
    obtain⟨F2,O2⟩:=step _ _ (λq=>CK hj q) hne' O;exact⟨(i+1,mN,mP++[(f.line,a',[i])]),by show l.length-(i+1)<l.length-i;omega,⟨hlt,F2,O2⟩,rfl,rfl,rfl,rfl,rfl,rfl,rfl,rfl,rfl,trivial⟩
  .refine bf ?_ (congrArg L0 (by show (!ltI f.line.pin (LQ 0))=false;rw[fG];simp;omega));conv=>whnf
   apply Cs;conv=>whnf
   apply Cs;conv=>whnf
   have O:=O.perm (pF _);refine CodeS.sc ?_;refine gH ?_;refine ldO (O.at (eB (.tail _ (.head _)))) ?_;refine gH ?_;refine⟨.inr (.inr (bw rfl (O.at (eB (.tail _ (.head _)))) rfl rfl)),?_⟩;refine gH ?_;refine ldO (O.at (eB (.head _))) ?_;refine gH ?_;refine ldO (O.at (eB (.tail _ (.head _)))) ?_;refine gH ?_;refine⟨.inr (.inr (bw rfl (O.at (eB (.tail _ (.head _)))) rfl rfl)),?_⟩;refine gH ?_;refine ldO (O.at (eB (.head _))) ?_;refine gH ?_;have hmod:f.model=0:=hst f (LS hf)
   have hpin:f.line.pin<0:=by omega
   have step:∀(mN':NM) (h:Heap),(∀q,bS mN' q=bS mN q++if q=f.line.node then [i] else [])->(∀e∈mN',e.2.1≠none)->Own vars h0 (fI gN gP mN' mP ((some g10,.cells (cl (ay f)) false)::((some g7,.cells [.map (some gN)] false)::(some g8,.cells [.map (some gP)] false)::(some g3,.cells (cl (eg x)) false)::(some g6,.cells [.slice none 0 0,.slice none 0 0,.slice none 0 0,.slice none 0 0,.slice none 0 0,.slice none 0 0,.slice none 0 0,.nilFunc,.nilFunc] false)::S))) h->FiledOk l (i+1) mN' mP/\Own vars h0 (fI gN gP mN' mP ((some g7,.cells [.map (some gN)] false)::(some g8,.cells [.map (some gP)] false)::(some g3,.cells (cl (eg x)) false)::(some g6,.cells [.slice none 0 0,.slice none 0 0,.slice none 0 0,.slice none 0 0,.slice none 0 0,.slice none 0 0,.slice none 0 0,.nilFunc,.nilFunc] false)::S)) h:=λmN' h e1 e2 O =>
    ⟨F.Lu hf hpin e1 e2,(O.perm (pF _).symm).tail⟩
   cases hj:bU mN f.line.node 0 with
   |some q =>
    obtain⟨j,a,r⟩:=q;have hjm:=(dW hj).2;rw[Ou] at hjm;have hne:=F.nn _ (LS hjm);have hrl:=Cq (F.net f.line.node) hj
    have hmg:(bY mN f.line.node).getD (none,[])=(a,r):=by rw[<- iP _ mN 0,hj];rfl
    refine⟨ixV (a,r),by rw[<- hmg];exact iD (ek:=i64) (ev:=ixV) (m:=mN) (k:=f.line.node) (z:=(none,[])) rfl rfl rfl (by kernel_rfl) (by kernel_rfl) gT O.i0 rfl rfl,?_⟩;refine gH ?_;refine⟨.inr (.inr (by rw[<- hmg];exact iD (ek:=i64) (ev:=ixV) (m:=mN) (k:=f.line.node) (z:=(none,[])) rfl rfl rfl (by kernel_rfl) (by kernel_rfl) gT O.i0 rfl rfl)),?_⟩;refine gH ?_;refine O.eA (l:=([i]:List Nat)) (enc:=i64) (s:=1) (z:=i64 0) rfl rfl (by kernel_rfl) (by kernel_rfl) rfl rfl rfl rfl (λ_=>rfl) λgb h O=>?_;refine gH ?_;have O0:=O;obtain⟨fA,A,hfA⟩:=Hc (S:=(some gP,.map (aY av ixV mP))::(mP.map bl++((some g10,.cells (cl (ay f)) false)::((some g7,.cells [.map (some gN)] false)::(some g8,.cells [.map (some gP)] false)::(some g3,.cells (cl (eg x)) false)::(some g6,.cells [.slice none 0 0,.slice none 0 0,.slice none 0 0,.slice none 0 0,.slice none 0 0,.slice none 0 0,.slice none 0 0,.nilFunc,.nilFunc] false)::S)))) hjm;refine O.fb (enc:=i64) (s:=1) (b:=8) (l:=r) (new:=([i]:List Nat)) (.tail _ (.tail _ A)) (λe=>absurd e hne) rfl rfl rfl rfl rfl rfl rfl rfl (YOk.own O.i0 rfl (λ_=>rfl) rfl) (λ_=>rfl) (λ_=>rfl) (by decide) (by rw[L6];omega) λa' h ha' O=>?_;refine gH ?_;have O:Own vars h0 ((some gb,.cells (ah (([i]:List Nat).map i64)) false)::(some gN,.map (aY i64 ixV mN))::fA (bl (f.line.node,a',r++[i]))) _:=O;rw[hfA] at O;refine⟨.inr (.inr (JC (i:=0) (j:=3) (by kernel_rfl) rfl rfl (O0.at (.tail _ (eB (.tail _ (.head _))))) (O.at (.tail _ (JH (.tail _ (.head _))))) rfl rfl (O0.at (.tail _ (eB (.head _)))) (O.at (.tail _ (JH (.head _)))))),?_⟩;refine gH ?_;refine O.nv (ek:=i64) (ev:=ixV) (m:=mN) (k:=f.line.node) (v:=(a',r++[i])) (.tail _ (.head _)) rfl rfl (by kernel_rfl) gT rfl rfl rfl λh O=>?_;refine gX ?_
    have em:gQ mN f.line.node (a',r++[i])=mN.set j (f.line.node,a',r++[i]):=by
     have:=lq (w:=(a',r++[i])) hj;rw[Ou] at this;exact this
    rw[em] at O;have O:=O.tail;refine ldO (O.at (eB (.head _))) ?_;refine gX ?_;refine bf ?_ (congrArg L0 (by show eqN f.model 2=false;rw[hmod];rfl));refine gX ?_;refine aJ (a:=i) (b:=1) (W:=True) ⟨by omega,trivial⟩ λ_=>?_;refine gX ?_
    have hne':∀e∈mN.set j (f.line.node,a',r++[i]),e.2.1≠none:=λe m=>by
     rcases OM m with m|rfl
     .exact F.nn e m
     .exact λq=>by have:=ha' q;simp at this
    obtain⟨F2,O2⟩:=step _ _ (λq=>xz hj q) hne' O;exact⟨(i+1,mN.set j (f.line.node,a',r++[i]),mP),by show l.length-(i+1)<l.length-i;omega,⟨hlt,F2,O2⟩,rfl,rfl,rfl,rfl,rfl,rfl,rfl,rfl,rfl,trivial⟩
   |none =>
    have hmg:(bY mN f.line.node).getD (none,[])=((none,[]):Option Nat×List Nat):=by rw[kz.1 hj];rfl
    refine⟨ixV (none,[]),by rw[<- hmg];exact iD (ek:=i64) (ev:=ixV) (m:=mN) (k:=f.line.node) (z:=(none,[])) rfl rfl rfl (by kernel_rfl) (by kernel_rfl) gT O.i0 rfl rfl,?_⟩;refine gH ?_;refine O.eA (l:=([i]:List Nat)) (enc:=i64) (s:=1) (z:=i64 0) rfl rfl (by kernel_rfl) (by kernel_rfl) rfl rfl rfl rfl (λ_=>rfl) λgb h O=>?_;refine gH ?_;have O0:=O;have O:=O.aZ (.cells (ah (([]:List Nat).map i64)) false);refine O.fb (enc:=i64) (s:=1) (b:=8) (l:=([]:List Nat)) (new:=([i]:List Nat)) (.head _) (λ_=>rfl) rfl rfl rfl rfl rfl rfl rfl rfl (YOk.own O.i1 rfl (λ_=>rfl) rfl) (λ_=>rfl) (λ_=>rfl) (by decide) (by simp) λa' h ha' O=>?_;refine gH ?_;refine⟨.inr (.inr (JC (i:=0) (j:=3) (by kernel_rfl) rfl rfl (O0.at (.tail _ (eB (.tail _ (.head _))))) (O.at (.tail _ (.tail _ (eB (.tail _ (.head _)))))) rfl rfl (O0.at (.tail _ (eB (.head _)))) (O.at (.tail _ (.tail _ (eB (.head _))))))),?_⟩;refine gH ?_;refine O.nv (ek:=i64) (ev:=ixV) (m:=mN) (k:=f.line.node) (v:=(a',[i])) (.tail _ (.tail _ (.head _))) rfl rfl (by kernel_rfl) gT rfl rfl rfl λh O=>?_;refine gX ?_;have em:gQ mN f.line.node (a',[i])=mN++[(f.line.node,a',[i])]:=lI hj;rw[em] at O;have O:Own vars h0 (bl (f.line.node,a',[i])::(some gb,.cells (ah (([i]:List Nat).map i64)) false)::(some gN,.map (aY i64 ixV (mN++[(f.line.node,a',[i])])))::(mN.map bl++((some gP,.map (aY av ixV mP))::(mP.map bl++((some g10,.cells (cl (ay f)) false)::((some g7,.cells [.map (some gN)] false)::(some g8,.cells [.map (some gP)] false)::(some g3,.cells (cl (eg x)) false)::(some g6,.cells [.slice none 0 0,.slice none 0 0,.slice none 0 0,.slice none 0 0,.slice none 0 0,.slice none 0 0,.slice none 0 0,.nilFunc,.nilFunc] false)::S)))))) h:=O;have O:=(O.perm (Ry _ _ _)).tail.perm zw;refine ldO (O.at (eB (.head _))) ?_;refine gX ?_;refine bf ?_ (congrArg L0 (by show eqN f.model 2=false;rw[hmod];rfl));refine gX ?_;refine aJ (a:=i) (b:=1) (W:=True) ⟨by omega,trivial⟩ λ_=>?_;refine gX ?_
    have hne':∀e∈mN++[(f.line.node,a',[i])],e.2.1≠none:=λe m=>by
     rcases MB.1 m with m|m
     .exact F.nn e m
     .rw[Mm.1 m]
      exact λq=>by have:=ha' q;simp at this
    obtain⟨F2,O2⟩:=step _ _ (λq=>CK hj q) hne' O;exact⟨(i+1,mN++[(f.line.node,a',[i])],mP),by show l.length-(i+1)<l.length-i;omega,⟨hlt,F2,O2⟩,rfl,rfl,rfl,rfl,rfl,rfl,rfl,rfl,rfl,trivial⟩
 .refine bf ?_ (congrArg L0 (by show ltN i l.length=false;rw[bj];simp;omega));refine gX ?_
  have:i=l.length:=by omega
  subst this;refine O.new (aj (l:=[.nilFunc]) rfl rfl rfl) λg11 h O=>?_;refine gH ?_;refine O.stC 1 (.head _) [.func (.func 62) ⟨[]⟩ ⟨[FP (ae 5 ay l),FP (ae 2 an good)]⟩] λh O=>?_;refine gX ?_;rw[sF] at O;have O:=O.perm ((Qa).cons _);refine O.stC 1 (.tail _ (.tail _ (.tail _ (.head _)))) [((ae 4 au) x.circ.nodes),((ae 1 L5) x.circ.names),((ae 3 bc) x.circ.mems),((ae 1 i64) x.circ.outs),((ae 1 i64) x.order),((ae 1 i64) x.ins),((ae 1 i64) x.state),.func (.func 66) ⟨[]⟩ ⟨[.pointer (some ⟨g11,0,none⟩),.pointer (some ⟨g7,0,none⟩)]⟩,(ff x.pin)] λh O=>?_;refine gX ?_;refine O.stC 1 (.tail _ (.tail _ (.tail _ (.head _)))) [((ae 4 au) x.circ.nodes),((ae 1 L5) x.circ.names),((ae 3 bc) x.circ.mems),((ae 1 i64) x.circ.outs),((ae 1 i64) x.order),((ae 1 i64) x.ins),((ae 1 i64) x.state),.func (.func 66) ⟨[]⟩ ⟨[.pointer (some ⟨g11,0,none⟩),.pointer (some ⟨g7,0,none⟩)]⟩,.func (.func 67) ⟨[]⟩ ⟨[.pointer (some ⟨g11,0,none⟩),.pointer (some ⟨g8,0,none⟩)]⟩] λh O=>?_;refine gX ?_;refine ldA O.i3 ?_;refine gH ?_;refine O.stC 9 (.tail _ (.tail _ (.tail _ (.tail _ (.head _))))) [((ae 4 au) x.circ.nodes),((ae 1 L5) x.circ.names),((ae 3 bc) x.circ.mems),((ae 1 i64) x.circ.outs),((ae 1 i64) x.order),((ae 1 i64) x.ins),((ae 1 i64) x.state),.func (.func 66) ⟨[]⟩ ⟨[.pointer (some ⟨g11,0,none⟩),.pointer (some ⟨g7,0,none⟩)]⟩,.func (.func 67) ⟨[]⟩ ⟨[.pointer (some ⟨g11,0,none⟩),.pointer (some ⟨g8,0,none⟩)]⟩] λh O=>?_;refine gX ?_
  refine⟨_,aI rfl rfl O.i4 rfl rfl (lbE rfl) rfl,?_⟩;conv=>whnf
  have O:=(O.Gc [_,_,_,_,_] [1,2,0] (by decide)).perm (L':=fI gN gP mN mP ((some g7,.cells [.map (some gN)] false)::(some g8,.cells [.map (some gP)] false)::(some g11,.cells [.func (.func 62) ⟨[]⟩ ⟨[FP (ae 5 ay l),FP (ae 2 an good)]⟩] false)::S)) (by
   rw[sF (R:=_::_)]
   exact Qa (l₁:=[_,_,_]++S) (l₂:=fI gN gP mN mP []))
  exact⟨gN,gP,g7,g8,g11,mN,mP,rfl,F,O⟩
structure GK (ks:List Nat) (x:Node):Prop where
 kind1:1<=x.kind
 kind:x.kind<=13
 arity:eL x.kind x.ins.length
 ins:∀k∈x.ins,k<ks.length
 bus:x.kind=13->∀k∈x.ins,ks.getD k 0=12
 mem:x.mem=0
 bit:x.bit=0
theorem pO(ks:List Nat):∀(i:Nat) (t:Nat),t∈dH ks i->t<i/\ks.getD t 0=12
 |0,t,h=>by unfold dH at h;cases h
 |i+1,t,h=>by
  unfold dH at h;split at h
  .rename_i e
   rcases MB.1 h with h|h
   .have:=pO ks i t h;exact⟨by omega,this.2⟩
   .rw[Mm] at h;subst h;exact⟨by omega,e⟩
  .have:=pO ks i t h;exact⟨by omega,this.2⟩
theorem iu{l:List Nat}{i:Nat}(h:i<l.length):l.getD i 0∈l:=by
 rw[Mh,LU h];exact Nw h
theorem wL:∀kk,kk<6->eL (5+kk) 2/\eL (5+kk) 3:=by decide
theorem vG(bus:Bool)(g:GData){ks:List Nat}(hn:0<ks.length):GK ks (jh bus g ks):=by
 have ha:=NV g.a hn;have hb:=NV g.b hn;have hd:=NV g.d hn
 have hkk:(if bus then g.kind%13 else g.kind%9)<13:=by
  split
  .exact NV _ (by decide)
  .exact RX (NV _ (by decide)) (by decide)
 unfold jh;generalize (if bus then g.kind%13 else g.kind%9)=kk at hkk;by_cases c1:kk<6
 .rw[if_pos c1];by_cases c2:128<=g.kind
  .rw[if_pos c2];refine⟨by dsimp only;omega,by dsimp only;omega,?_,?_,λe=>by dsimp only at e;omega,rfl,rfl⟩
   .exact (wL kk c1).2
   .intro k m;simp only[MF,Np,or_false] at m
    rcases m with rfl|rfl|rfl <;> assumption
  .rw[if_neg c2];refine⟨by dsimp only;omega,by dsimp only;omega,?_,?_,λe=>by dsimp only at e;omega,rfl,rfl⟩
   .exact (wL kk c1).1
   .intro k m;simp only[MF,Np,or_false] at m
    rcases m with rfl|rfl <;> assumption
 rw[if_neg c1];by_cases c2:kk=6
 .rw[if_pos c2];exact⟨(by decide:1<=4),(by decide:4<=13),(by decide:eL 4 1),λk m=>by simp only[MF,Np,or_false] at m;subst m;exact ha,(λe=>by cases e),rfl,rfl⟩
 rw[if_neg c2];by_cases c3:kk=7
 .rw[if_pos c3];refine⟨(by decide:1<=11),(by decide:11<=13),(by decide:eL 11 3),λk m=>?_,(λe=>by cases e),rfl,rfl⟩;simp only[MF,Np,or_false] at m
  rcases m with rfl|rfl|rfl <;> assumption
 rw[if_neg c3];by_cases c4:kk=9\/kk=10
 .rw[if_pos c4];refine⟨(by decide:1<=12),(by decide:12<=13),(by decide:eL 12 2),λk m=>?_,(λe=>by cases e),rfl,rfl⟩;simp only[MF,Np,or_false] at m
  rcases m with rfl|rfl <;> assumption
 rw[if_neg c4];by_cases c5:10<kk/\0<(dH ks ks.length).length
 .rw[if_pos c5];have h1:=pO ks ks.length _ (iu (NV g.a c5.2));have h2:=pO ks ks.length _ (iu (NV (g.a%(dH ks ks.length).length+1) c5.2));by_cases c6:1<(dH ks ks.length).length
  .rw[if_pos c6]
   refine⟨(by decide:1<=13),(by decide:13<=13),(by decide:eL 13 2),λk m=>?_,λ_ k m=>?_,rfl,rfl⟩ <;>
   .simp only[MF,Np,or_false] at m
    rcases m with rfl|rfl
    .first|exact h1.1|exact h1.2
    .first|exact h2.1|exact h2.2
  .rw[if_neg c6]
   refine⟨(by decide:1<=13),(by decide:13<=13),(by decide:eL 13 1),λk m=>?_,λ_ k m=>?_,rfl,rfl⟩ <;>
   .simp only[MF,Np,or_false] at m;subst m
    first|exact h1.1|exact h1.2
 rw[if_neg c5];by_cases c7:240<g.kind
 .rw[if_pos c7]
  have:g.a%2=0\/g.a%2=1:=by omega
  rcases this with e|e <;> rw[e]
  .exact⟨(by decide:1<=1),(by decide:1<=13),(by decide:eL 1 0),(λk m=>by cases m),(λ_ k m=>by cases m),rfl,rfl⟩
  .exact⟨(by decide:1<=2),(by decide:2<=13),(by decide:eL 2 0),(λk m=>by cases m),(λ_ k m=>by cases m),rfl,rfl⟩
 .rw[if_neg c7];exact⟨(by decide:1<=3),(by decide:3<=13),(by decide:eL 3 1),λk m=>by simp only[MF,Np,or_false] at m;subst m;exact ha,(λe=>by cases e),rfl,rfl⟩
theorem ui(g:GData)(ks:List Nat):(jh false g ks).kind≠12/\(jh false g ks).kind≠13:=by
 have hkk:=NV g.kind (show 0<9 by decide);unfold jh;simp only[Nr,if_false];generalize g.kind%9=kk at hkk;by_cases c1:kk<6
 .rw[if_pos c1];dsimp only;omega
 rw[if_neg c1];by_cases c2:kk=6
 .rw[if_pos c2];exact (by decide:4≠12/\4≠13)
 rw[if_neg c2];by_cases c3:kk=7
 .rw[if_pos c3];exact (by decide:11≠12/\11≠13)
 rw[if_neg c3,if_neg (by omega),if_neg (by omega)];by_cases c7:240<g.kind
 .rw[if_pos c7];dsimp only;omega
 .rw[if_neg c7];exact (by decide:3≠12/\3≠13)
theorem uy(bus:Bool)(gs:List GData)(base:List Node)(hb:0<base.length):∀m,m<=gs.length->∀(i:Nat) (y:Node),(fX bus gs base m)[i]?=some y ->
  (i<base.length/\base[i]?=some y)\/(base.length<=i/\∃g,y=jh bus g (((fX bus gs base m).take i).map Node.kind))
 |0,_,i,y,h=>.inl ⟨ai h,h⟩
 |m+1,hm,i,y,h=>by
  have hg:gs[m]?=some gs[m]:=LU (by omega);have hl:=iv bus gs base m (by omega);rw[ov hg] at h ⊢;by_cases c:i<(fX bus gs base m).length
  .rw[Mb c] at h
   rcases uy bus gs base hb m (by omega) i y h with q|⟨q1,g,q2⟩
   .exact .inl q
   .refine .inr ⟨q1,g,?_⟩;rw[N0 (by omega)];exact q2
  .have hi:i=(fX bus gs base m).length:=by
    have:=ai h;rw[Ml,L6] at this;omega
   subst hi;rw[Mg (LV _),Nx] at h
   cases h
   refine .inr ⟨by omega,gs[m],?_⟩;rw[Qo];rfl
theorem DH{first:Nat}{d:Nat->Nat}{ns:List Node}{j:Nat}:∀{m},j<m->first+m<=ns.length->(rh first d m ns)[first+j]?=some (sA (d j))
 |m+1,h,hl=>by
  rw[rh,Mp];by_cases c:m=j
  .subst c;rw[if_pos rfl,if_pos (by rw[je];omega)]
  .rw[if_neg (by omega)];exact DH (by omega) (by omega)
theorem B2{first:Nat}{d:Nat->Nat}{ns:List Node}{j:Nat}(h:j<first):∀m,(rh first d m ns)[j]?=ns[j]?
 |0=>rfl
 |m+1=>by rw[rh,Pv (by omega)];exact B2 h m
def Ku(x:CData)(_i:Nat)(y:Node):Prop:=x.mem=true/\(y=Iw 0\/y=Iw 1)
theorem Ck{x:CData}{i:Nat}{y:Node}(h:(iW x).nodes[i]?=some y) :
  (i<x.inp%4+1/\y=kF)\/(x.inp%4+1<=i/\i<x.inp%4+1+x.dffs%3/\∃d,d<(dr x).length/\y=sA d)\/Ku x i y \/
  (x.inp%4+1+x.dffs%3<=i/\(dr x)[i]?=some y/\∃g,y=jh x.bus g (((dr x).take i).map Node.kind)):=by
 have h:(rh (x.inp%4+1) (rm x (dr x).length) (x.dffs%3) (dr x))[i]?=some y:=h;have hbl:=jr x.inp x.dffs x.mem;have hrl:=mg x
 have hbase:∀i,i<x.inp%4+1->(kI x.inp x.dffs x.mem)[i]?=some kF:=λi hi=>by
  unfold kI;rw[MC,Mb (by rw[Mw];exact hi),Mt,if_pos hi]
 by_cases c1:i<x.inp%4+1
 .rw[B2 c1] at h;unfold dr at h;rw[qM _ _ _ (by omega) _ (NW _ _),hbase i c1] at h
  cases h
  exact .inl ⟨c1,rfl⟩
 .by_cases c2:i<x.inp%4+1+x.dffs%3
  .have e:i=x.inp%4+1+(i-(x.inp%4+1)):=by omega
   rw[e,DH (by omega) (by omega)] at h
   cases h
   exact .inr (.inl ⟨by omega,c2,_,NV _ (sK x),rfl⟩)
  .rw[wB (by omega)] at h
   rcases uy x.bus x.gates (kI x.inp x.dffs x.mem) (by omega) _ (NW _ 8) i y h with⟨q,e⟩|⟨_,g,q⟩
   .refine .inr (.inr (.inl ?_));unfold kI at e;rw[Mg (by simp only[Ml,Mw];omega)] at e
    cases hm:x.mem
    .rw[hm] at e;simp at e
    .rw[hm] at e;simp only[if_true] at e;refine⟨hm,?_⟩;have hme:=LS e;simpa using hme
   .exact .inr (.inr (.inr ⟨by omega,h,g,q⟩))
theorem tG{x:CData}(hm:x.mem=false){i:Nat}{y:Node}(h:(iW x).nodes[i]?=some y) :
  (i<x.inp%4+1/\y=kF)\/(x.inp%4+1<=i/\i<x.inp%4+1+x.dffs%3/\∃d,d<(dr x).length/\y=sA d) \/
  (x.inp%4+1+x.dffs%3<=i/\(dr x)[i]?=some y/\∃g,y=jh x.bus g (((dr x).take i).map Node.kind)):=by
 rcases Ck h with q|q|q|q
 .exact .inl q
 .exact .inr (.inl q)
 .have:=q.1;rw[hm] at this;cases this
 .exact .inr (.inr q)
theorem yv(x:CData):(iW x).mems=if x.mem then [⟨[x.port0%(dr x).length],[x.port1%(dr x).length,x.port2%(dr x).length],x.port3%(dr x).length⟩] else []:=rfl
theorem D7{x:CData}(hm:x.mem=false)(hb:x.bus=false):Good (iW x):=by
 have hle:=Dg x;have hpos:=sK x;have hn:(iW x).nodes.length=(dr x).length:=je _
 have node:∀(i:Nat) (y:Node),(iW x).nodes[i]?=some y->GoodN (iW x) i y:=by
  intro i y h;have hi:=ai h;rw[hn] at hi
  rcases tG hm h with⟨_,rfl⟩|⟨_,_,d,hd,rfl⟩|⟨h1,h2,g,hg⟩
  .exact⟨(by decide:0<=14),(by decide:eL 0 0),(λk m=>by cases m),(by decide:0≠12/\0≠13),⟨rfl,rfl⟩,λe=>absurd e (by decide:¬ 1<=0)⟩
  .refine⟨(by decide:14<=14),(by decide:eL 14 1),λk m=>?_,(by decide:14≠12/\14≠13),⟨rfl,rfl⟩,λ_ e=>absurd e (by decide:¬ 14<=13)⟩
   have:k=d:=by simpa[sA] using m
   rw[hn,this];exact hd
  .have hks:(((dr x).take i).map Node.kind).length=i:=by rw[LZ,L8];omega
   have G:=vG x.bus g (ks:=((dr x).take i).map Node.kind) (by omega);have Pk:=ui g (((dr x).take i).map Node.kind);rw[<- hb] at Pk;rw[<- hg] at G Pk
   have lt:∀k∈y.ins,k<i:=λk m=>by have:=G.ins k m;omega
   exact⟨by have:=G.kind;omega,G.arity,λk m=>by have:=lt k m;omega,Pk,⟨G.mem,G.bit⟩,λ_ _=>lt⟩
 refine⟨by omega,by show ((Ma (dr x).length).map nc).length=_;rw[hn];simp,GW (n:=(dr x).length) (by omega) rfl,HD ⟨by omega,λi y h=>⟨(node i y h).ins,(node i y h).few⟩⟩,by rw[yv,hm];rfl,?_,?_,node,by rw[hn];exact hpos⟩
 .intro o m;have m:o∈(x.outs.take 3).map (· % (dr x).length)++[(dr x).length-1]:=m;rw[hn]
  rcases MB.1 m with m|m
  .obtain⟨q,_,rfl⟩:=MP.1 m;exact NV _ hpos
  .rw[Mm] at m;omega
 .show ((x.outs.take 3).map (· % (dr x).length)++[(dr x).length-1]).length<=16
  rw[Ml,LZ,L8,L6];omega
theorem wE{x:CData}(hm:x.mem=false)(hb:x.bus=false):∀(i:Nat) (y:Node),(iW x).nodes[i]?=some y->y.kind≠12/\y.kind≠13/\y.kind≠15:=by
 intro i y h
 rcases tG hm h with⟨_,rfl⟩|⟨_,_,d,hd,rfl⟩|⟨h1,_,g,hg⟩
 .decide
 .exact⟨by show (14:Nat)≠12;decide,by show (14:Nat)≠13;decide,by show (14:Nat)≠15;decide⟩
 .rw[hb] at hg;have:=ui g (((dr x).take i).map Node.kind);have hi:=ai h;have hn:(iW x).nodes.length=(dr x).length:=je _;have q:=vG false g (ks:=((dr x).take i).map Node.kind) (by rw[LZ,L8];omega);rw[<- hg] at this q;exact⟨this.1,this.2,by have:=q.kind;omega⟩
theorem kY{c:Circ}{K:List Nat->Prop}(hc:c.nodes.length<2^40)(h:K (ofN c [0])):bV c K:=AW hc (by decide) h
theorem iU{c:Circ}{K:List Nat->Prop}(hc:c.nodes.length<2^40)(h:K (ofN c [14])):bA c K:=AW hc (by decide) h
theorem bK{c:Circ}{k f:Nat}:f∈ofN c [k]↔f<c.nodes.length/\kd c f=k:=by
 unfold ofN kd;rw[Nc,Mx];simp only[List.contains_cons,List.contains_nil,RK,beq_iff_eq]
theorem cD(c:Circ)(ks:List Nat):(ofN c ks).length<=c.nodes.length:=by
 unfold ofN;exact Mf (Nf _ _) (by simp)
theorem iQ(c:Circ)(ks:List Nat):(ofN c ks).Nodup:=Ql _ Oq
structure Cir (c:Circ):Prop where
 good:Good c
 mems:c.mems=[]
 kinds:∀(i:Nat) (x:Node),c.nodes[i]?=some x->x.kind<=14
theorem Cir.len{c:Circ}(C:Cir c):c.nodes.length<=16:=C.good.len
theorem Dq{c:Circ}{o:List Nat}(h:OrdOk c o){a b m:Nat}(h1:o[a]?=some m)(h2:o[b]?=some m):a=b:=by
 have hn:o.Nodup:=h.perm.nodup_iff.2 Oq;obtain⟨q1,q2⟩:=LX.1 h1;obtain⟨q3,q4⟩:=LX.1 h2
 rcases OT a b with q|q|q
 .exact absurd (q2.trans q4.symm) (Nv.1 hn a b q1 q3 q)
 .exact q
 .exact absurd (q4.trans q2.symm) (Nv.1 hn b a q3 q1 q)
structure PatOk (c:Circ) (p:Pat):Prop where
 inp:p.inp.length=(ofN c [0]).length
 state:p.state.length=(ofN c [14]).length
 inpv:∀v∈p.inp,v<=3
 statev:∀v∈p.state,v<=3
theorem rS{l:List Nat}{K:Bool->Prop}(hl:l.length<2^60)(hv:∀v∈l,v<=3)(h:K false):dO l K:=by
 unfold dO gO;refine mj (l:=l) ?_ ?_ h
 .intro k i nx x hx hi hn;have hv:=hv x (LS hx);refine⟨λ_=>⟨x,hx,λq=>?_,λ_=>⟨by omega,hn⟩⟩,λq=>?_⟩
  .have:=aX.1 q;omega
  .have:=bC.1 q;omega
 .intro k i nx hi hk;refine⟨λq=>?_,λ_=>hk⟩;have:=aX.1 q;omega
theorem Cir.uk{c:Circ}(C:Cir c):ofN c [15]=[]:=by
 refine Qf.2 λi m=>?_;obtain⟨h1,h2⟩:=bK.1 m;obtain⟨y,hy⟩:=aA h1;rw[dk hy] at h2;have:=C.kinds i y hy;omega
theorem DF{c:Circ}(C:Cir c){pt:Pat}(hp:PatOk c pt){K:Nat->Prop}(h:K 0):gJ c pt K:=by
 have hlen:=C.len;have l1:=cD c [0];have l2:=cD c [14];have h1:=hp.inp;have h2:=hp.state;unfold gJ;refine cQ (a:=false) (λF=>⟨λq=>?_,λ_=>AW (by omega) (by decide) ?_⟩) ⟨(λe=>by cases e),λ_=>?_⟩
 .rw[C.mems] at q;exact absurd (aX.1 q) (by simp)
 .rw[C.uk];exact F
 refine cQ (a:=false) (λF=>kY (by omega) ⟨λq=>absurd h1 (dm.1 q),λ_=>iU (by omega) ?_⟩) ⟨(λe=>by cases e),λ_=>?_⟩
 .rw[qS.2 h2];exact F
 refine cQ (a:=false) (λF=>rS (by omega) hp.inpv ⟨(λe=>by cases e),λ_=>rS (by omega) hp.statev F⟩) ⟨(λe=>by cases e),λ_=>h⟩
def cw(k:Nat):Bool:=decide (1<=k/\k<=13)
def cO(pn:Nat->Nat->Nat->Nat)(t:List Nat)(m:Nat)(x:Node):List Nat:=x.ins.mapIdx λj k=>pn m j (t.getD k 0)
def zx(c:Circ)(p:Pat)(i:Nat):Nat:=if kd c i=0 then p.inp.getD ((ofN c [0]).idxOf i) 0 else if kd c i=14 then p.state.getD ((ofN c [14]).idxOf i) 0 else 0
def dD(c:Circ)(p:Pat)(pn:Nat->Nat->Nat->Nat)(t:List Nat)(m:Nat)(x:Node):Nat:=if cw x.kind=true then fN x.kind (cO pn t m x) else zx c p m
structure Sol (c:Circ) (p:Pat) (nt:Nat->Nat->Nat) (pn:Nat->Nat->Nat->Nat) (t:List Nat):Prop where
 len:t.length=c.nodes.length
 val:∀i x,c.nodes[i]?=some x->t.getD i 0=nt i (dD c p pn t i x)
 le:∀i,t.getD i 0<=3
theorem lf{pn:Nat->Nat->Nat->Nat}{t:List Nat}{m:Nat}{x:Node}:(cO pn t m x).length=x.ins.length:=by unfold cO;simp
theorem pI{pn:Nat->Nat->Nat->Nat}{t:List Nat}{m j y:Nat}{x:Node}(h:x.ins[j]?=some y):(cO pn t m x)[j]?=some (pn m j (t.getD y 0)):=by
 unfold cO;rw[Nz,h];rfl
theorem iR{pn:Nat->Nat->Nat->Nat}{t u:List Nat}{m:Nat}{x:Node}(h:∀k∈x.ins,t.getD k 0=u.getD k 0):cO pn t m x=cO pn u m x:=by
 unfold cO;refine NY (by simp) λi a b=>?_;simp only[OB];rw[h _ (Nw _)]
theorem Ay{pn:Nat->Nat->Nat->Nat}(hp:∀m j v,v<=3->pn m j v<=3){t:List Nat}(ht:∀i,t.getD i 0<=3){m:Nat}{x:Node}:∀v∈cO pn t m x,v<=3:=by
 intro v h;unfold cO at h;rw[Qp] at h;obtain⟨i,hi,rfl⟩:=h;exact hp _ _ _ (ht _)
theorem Sol.eq{c:Circ}(C:Cir c){p:Pat}{nt:Nat->Nat->Nat}{pn:Nat->Nat->Nat->Nat}{t u:List Nat}(T:Sol c p nt pn t)(U:Sol c p nt pn u):t=u:=by
 have key:∀n i,i<n->t.getD i 0=u.getD i 0:=by
  intro n
  induction n with
  |zero=>intro i h;omega
  |succ n ih =>
   intro i hi;by_cases q:i<c.nodes.length
   .obtain⟨x,hx⟩:=aA q;rw[T.val i x hx,U.val i x hx];congr 1;unfold dD;split
    .rename_i hc;have hc:=of_decide_eq_true hc;rw[iR λk m=>ih k ?_];have:=(C.good.node i x hx).acyc hc.1 hc.2 k m;omega
    .rfl
   .rw[Mh,Mh,Mk (by rw[T.len];omega),Mk (by rw[U.len];omega)]
 refine NY (T.len.trans U.len.symm) λi a b=>?_;have:=key (i+1) i (by omega);rw[Mh,LU a,Mh,LU b] at this;exact this
theorem vg{n:Nat}{ixs vs:List Nat}(_hn:n<=16)(_hix:ixs.length<=n)(hl:vs.length=ixs.length)(_hb:∀f∈ixs,f<n)(nd:ixs.Nodup){t0:List Nat}(ht0:t0.length=n){rest:List Nat->Prop}{body:List Nat×Nat->(List Nat×Nat->Prop)->Prop}
  (hbody:∀t i nx,t.length=n->(∀f v,i<ixs.length->ixs[i]?=some f->vs[i]?=some v->f<n->nx (t.set f v,i+1))->(ixs.length<=i->rest t)->body (t,i) nx)
  (h:∀t,t.length=n->(∀j f,ixs[j]?=some f->t.getD f 0=vs.getD j 0)->(∀f,f ∉ ixs->t.getD f 0=t0.getD f 0)->rest t):aF body (t0,0):=by
 refine bM (λs=>s.2<=ixs.length/\s.1.length=n/\(∀j f,j<s.2->ixs[j]?=some f->s.1.getD f 0=vs.getD j 0)/\∀f,f ∉ ixs.take s.2->s.1.getD f 0=t0.getD f 0) (λs=>ixs.length-s.2) ?_ ⟨L1 _,ht0,(λj f hj=>absurd hj (Mu _)),λ_ _=>rfl⟩;rintro⟨t,i⟩ nx ⟨hi,h1,h2,h3⟩ hnx;dsimp only at hi h1 h2 h3;refine hbody t i nx h1 (λf v q hf hv hfn=>?_) (λq=>?_)
 .obtain⟨e1,e2⟩:=LX.1 hf
  have ev:v=vs.getD i 0:=by rw[Mh,hv];rfl
  subst ev;refine hnx _ ⟨q,by simp[h1],λj g hj hg=>?_,λg hg=>?_⟩ (by dsimp only;omega)
  .dsimp only at hj ⊢;rw[bm (by omega)];by_cases e:f=g
   .subst e
    have:j=i:=by
     obtain⟨e3,e4⟩:=LX.1 hg
     rcases OT j i with w|w|w
     .exact absurd (e4.trans e2.symm) (Nv.1 nd j i e3 e1 w)
     .exact w
     .omega
    subst this;rw[if_pos rfl]
   .rw[if_neg e];refine h2 j g ?_ hg;by_cases e3:j=i
    .subst e3;rw[hf] at hg;cases hg;exact absurd rfl e
    .omega
  .dsimp only at hg ⊢;rw[MK e1,MB,Mm,e2] at hg;rw[bm (by omega),if_neg (λe=>hg (.inr e.symm))];exact h3 g λm=>hg (.inl m)
 .rw[Mc q] at h3;exact h t h1 (λj f hj=>h2 j f (by have:=ai hj;omega) hj) h3
theorem rL{n:Nat}{ixs vs t:List Nat}{i:Nat}{rest:Prop}{nx:List Nat×Nat->Prop}(hn:n<=16)(hix:ixs.length<=n)(hl:vs.length=ixs.length)(hb:∀f∈ixs,f<n)(ht:t.length=n)(h1:∀f v,i<ixs.length->ixs[i]?=some f->vs[i]?=some v->f<n->nx (t.set f v,i+1))(h2:ixs.length<=i->rest) :
  ((ltN i ixs.length)=true->∃x35,ixs[i]?=some x35/\∃x36,vs[i]?=some x36/\x35<n/\∃x37,t[x35]?=some x37/\i+1<2^63/\nx ((t.set x35 x36),(i+1)))/\((ltN i ixs.length)=false->rest):=by
 refine⟨λq=>?_,λq=>h2 (bC.1 q)⟩;have q:i<ixs.length:=aX.1 q;obtain⟨f,hf⟩:=aA q;have hfn:=hb f (LS hf);have hv:=getD_some (l:=vs) (i:=i) (by omega);exact⟨f,hf,_,hv,hfn,_,kG ht hfn,by omega,h1 f _ q hf hv hfn⟩
theorem zN{l:List Nat}(nd:l.Nodup){j f:Nat}(h:l[j]?=some f):l.idxOf f=j:=by
 obtain⟨h1,rfl⟩:=LX.1 h;exact nd.idxOf_getElem j h1
theorem Ai{c:Circ}(C:Cir c){p:Pat}(hp:PatOk c p){t1 t2:List Nat}(_l2:t2.length=c.nodes.length)(h1:∀j f,(ofN c [0])[j]?=some f->t1.getD f 0=p.inp.getD j 0)(h2:∀j f,(ofN c [14])[j]?=some f->t2.getD f 0=p.state.getD j 0)(h3:∀f,f ∉ ofN c [14]->t2.getD f 0=t1.getD f 0) :
  ∀i x,c.nodes[i]?=some x->cw x.kind=false->t2.getD i 0=zx c p i/\t2.getD i 0<=3:=by
 intro i x hx hc;have hc:=of_decide_eq_false hc;have hk:=C.kinds i x hx;have hi:=ai hx;have e:=dk hx;unfold zx;by_cases k0:x.kind=0
 .have m:i∈ofN c [0]:=bK.2 ⟨hi,by rw[e];exact k0⟩;obtain⟨j,hj,ej⟩:=NH m
  have hj':(ofN c [0])[j]?=some i:=by rw[LU hj,ej]
  have hn:i ∉ ofN c [14]:=λq=>by have:=(bK.1 q).2;omega
  rw[h3 i hn,h1 j i hj',if_pos (by rw[e];exact k0),zN (iQ c [0]) hj'];exact⟨rfl,hp.inpv _ (iu (by rw[hp.inp];exact hj))⟩
 .have k14:x.kind=14:=by omega
  have m:i∈ofN c [14]:=bK.2 ⟨hi,by rw[e];exact k14⟩;obtain⟨j,hj,ej⟩:=NH m
  have hj':(ofN c [14])[j]?=some i:=by rw[LU hj,ej]
  rw[h2 j i hj',if_neg (by rw[e];exact k0),if_pos (by rw[e];exact k14),zN (iQ c [14]) hj'];exact⟨rfl,hp.statev _ (iu (by rw[hp.state];exact hj))⟩
structure RunS (c:Circ) (p:Pat) (nt:Nat->Nat->Nat) (pn:Nat->Nat->Nat->Nat) (o t:List Nat) (i:Nat):Prop where
 len:t.length=c.nodes.length
 done:∀j m x,j<i->o[j]?=some m->c.nodes[m]?=some x->t.getD m 0=nt m (dD c p pn t m x)
 todo:∀j m x,i<=j->o[j]?=some m->c.nodes[m]?=some x->cw x.kind=false->t.getD m 0=zx c p m
 le:∀i,t.getD i 0<=3
theorem RunS.step{c:Circ}{p:Pat}{nt:Nat->Nat->Nat}{pn:Nat->Nat->Nat->Nat}{o t:List Nat}(ho:OrdOk c o){i m:Nat}{x:Node}(T:RunS c p nt pn o t i)(hm:o[i]?=some m)(hx:c.nodes[m]?=some x)(hle:nt m (dD c p pn t m x)<=3):RunS c p nt pn o (t.set m (nt m (dD c p pn t m x))) (i+1):=by
 have hml:m<t.length:=by rw[T.len];exact ai hx
 have same:∀(j m':Nat) (x':Node),j<=i->o[j]?=some m'->c.nodes[m']?=some x'->dD c p pn (t.set m (nt m (dD c p pn t m x))) m' x'=dD c p pn t m' x':=by
  intro j m' x' hj h1 h2;unfold dD;split
  .rename_i hc;have hc:=of_decide_eq_true hc;rw[iR λk hk=>?_];rw[bm hml,if_neg];rintro rfl;obtain⟨b',hb,hb2⟩:=ho.before j m' x' m h1 h2 hc hk;have:=Dq ho hb2 hm;omega
  .rfl
 refine⟨by rw[Nj];exact T.len,λj m' x' hj h1 h2=>?_,λj m' x' hj h1 h2 h3=>?_,λk=>?_⟩
 .rw[same j m' x' (by omega) h1 h2,bm hml];by_cases e:m=m'
  .subst e;rw[if_pos rfl];rw[hx] at h2;cases h2;rfl
  .rw[if_neg e];refine T.done j m' x' ?_ h1 h2;by_cases e2:j=i
   .subst e2;rw[hm] at h1;cases h1;exact absurd rfl e
   .omega
 .rw[bm hml,if_neg]
  .exact T.todo j m' x' (by omega) h1 h2 h3
  .rintro rfl;have:=Dq ho hm h1;omega
 .rw[bm hml];split
  .exact hle
  .exact T.le k
theorem RunS.skip{c:Circ}{p:Pat}{nt:Nat->Nat->Nat}{pn:Nat->Nat->Nat->Nat}{o t:List Nat}{i m:Nat}{x:Node}(T:RunS c p nt pn o t i)(hm:o[i]?=some m)(hx:c.nodes[m]?=some x)(he:t.getD m 0=nt m (dD c p pn t m x)):RunS c p nt pn o t (i+1):=by
 refine⟨T.len,λj m' x' hj h1 h2=>?_,λj m' x' hj=>T.todo j m' x' (by omega),T.le⟩;by_cases e:j=i
 .subst e;rw[hm] at h1;cases h1;rw[hx] at h2;cases h2;exact he
 .exact T.done j m' x' (by omega) h1 h2
theorem RunS.sol{c:Circ}{p:Pat}{nt:Nat->Nat->Nat}{pn:Nat->Nat->Nat->Nat}{o t:List Nat}(ho:OrdOk c o)(T:RunS c p nt pn o t o.length):Sol c p nt pn t:=by
 refine⟨T.len,λi x hx=>?_,T.le⟩;have hm:i∈o:=ho.perm.mem_iff.2 (Mx.2 (ai hx));obtain⟨j,hj,e⟩:=NH hm;exact T.done j i x hj (by rw[LU hj,e]) hx
def oj(c:Circ)(pn:Nat->Nat->Nat->Nat)(t:List Nat):Rsp:=⟨c.outs.map λo=>t.getD o 0,(ofN c [14]).map λs=>min (pn s 0 (t.getD ((ct c s).getD 0 0) 0)) 2⟩
def idN:Nat->Nat->Nat:=λ_ v=>v
def idP:Nat->Nat->Nat->Nat:=λ_ _ v=>v
theorem Au{r:SRun}{n:Nat}(hn:n<r.nets.length)(hv:r.nets.getD n 0<=3){K:Nat->Prop}(h:K (r.nets.getD n 0)):hZ r n K:=by
 unfold hZ;refine cQ (a:=false) (λF=>⟨λq=>absurd (aX.1 q) (Mu _),λ_=>?_⟩) ⟨(λe=>by cases e),λ_=>⟨_,getD_some hn,FT ?_⟩⟩
 .rw[show (!ltN n r.nets.length)=false from yG.2 hn];exact F
 .unfold zo;rw[if_neg (by omega)];exact h
theorem bk{c:Circ}{i:Nat}{x:Node}(h:c.nodes[i]?=some x):ct c i=x.ins:=by unfold ct;rw[Mh,L7,h];rfl
theorem CZ{c:Circ}(C:Cir c){t:List Nat}(ht:t.length=c.nodes.length)(hle:∀i,t.getD i 0<=3){K:Rsp->Prop}(h:K (oj c idP t)):gu ⟨c,t⟩ K:=by
 have hlen:=C.len;have hol:=C.good.outsLen;have l2:=cD c [14];unfold gu;refine aB (λs=>s.2<=c.outs.length/\s.1=(c.outs.take s.2).map λo=>t.getD o 0) (λs=>c.outs.length-s.2) (λa=>a=c.outs.map λo=>t.getD o 0) ?_ ⟨L1 _,rfl⟩ ?_
 .rintro k ⟨l,i⟩ nx ⟨hi,hl⟩ hnx hk;dsimp only at hi hl;refine⟨λq=>?_,λq=>hk _ ?_⟩
  .have q:i<c.outs.length:=aX.1 q;obtain⟨o,ho⟩:=aA q;obtain⟨e1,e2⟩:=LX.1 ho
   have hon:o<t.length:=by rw[ht];exact C.good.outs o (LS ho)
   refine⟨o,ho,Au (r:=⟨c,t⟩) hon (hle o) ⟨by rw[hl];simp only[LZ,L8,L6];omega,by omega,hnx _ ⟨q,?_⟩ (by dsimp only;omega)⟩⟩;dsimp only;rw[hl,MK e1,MT,e2];rfl
  .have q:c.outs.length<=i:=bC.1 q;rw[hl,Mc q]
 rintro _ rfl;refine iV (iU (show c.nodes.length<2^40 by omega) ?_);refine bM (λs=>s.2<=(ofN c [14]).length/\s.1=((ofN c [14]).take s.2).map λs=>min (t.getD ((ct c s).getD 0 0) 0) 2) (λs=>(ofN c [14]).length-s.2) ?_ ⟨L1 _,rfl⟩;rintro⟨l,i⟩ nx ⟨hi,hl⟩ hnx;dsimp only at hi hl;refine⟨λq=>?_,λq=>?_⟩
 .have q:i<(ofN c [14]).length:=aX.1 q;obtain⟨f,hf⟩:=aA q;obtain⟨e1,e2⟩:=LX.1 hf;obtain⟨hfn,hfk⟩:=bK.1 (LS hf);obtain⟨x,hx⟩:=aA hfn;rw[dk hx] at hfk;have hg:=C.good.node f x hx
  have ha:x.ins.length=1:=by have:=hg.arity;rw[hfk] at this;exact pJ this
  have hd:=hg.ins (x.ins.getD 0 0) (iu (by omega));refine⟨f,hf,iV ⟨x,hx,λ_=>⟨_,getD_some (by omega),Au (r:=⟨c,t⟩) (by rw[ht];exact hd) (hle _) ?_⟩,λe=>absurd ha (cF.1 e)⟩⟩;unfold db;refine⟨by rw[hl];simp only[LZ,L8,L6];omega,by omega,hnx _ ⟨q,?_⟩ (by dsimp only;omega)⟩;dsimp only;rw[hl,MK e1,MT,e2];simp only[MM,ND,bk hx]
 .have q:(ofN c [14]).length<=i:=bC.1 q;rw[hl,Mc q];exact h
def tZ:Bool->Bool->Nat
 |false,true=>0
 |true,false=>1
 |false,false=>2
 |true,true=>3
def aD(w:Wd)(i:Nat):Nat:=tZ (w.one.testBit i) (w.zero.testBit i)
theorem Fv(a b:Bool):tZ a b<=3:=by cases a <;> cases b <;> decide
theorem oY(w:Wd)(i:Nat):aD w i<=3:=Fv _ _
theorem hU{v i:Nat}(hv:v<=3)(hi:i<64):aD (ja v) i=v:=by
 have h1:po.testBit i=true:=by
  unfold po;rw[Qz];exact decide_eq_true hi
 have h0:(0:Nat).testBit i=false:=Nat.zero_testBit i
 have:v=0\/v=1\/v=2\/v=3:=by omega
 unfold aD ja
 rcases this with rfl|rfl|rfl|rfl
 .show tZ ((0:Nat).testBit i) (po.testBit i)=0
  rw[h0,h1];rfl
 .show tZ (po.testBit i) ((0:Nat).testBit i)=1
  rw[h0,h1];rfl
 .show tZ ((0:Nat).testBit i) ((0:Nat).testBit i)=2
  rw[h0];rfl
 .show tZ (po.testBit i) (po.testBit i)=3
  rw[h1];rfl
def qj(w:Wd):Wd:=⟨bF w.one (aK w.one w.zero),bF w.zero (aK w.one w.zero)⟩
theorem eM{w:Wd}{i:Nat}(hi:i<64):aD (qj w) i=min (aD w i) 2:=by
 unfold aD qj;rw[gB hi,gB hi,dz hi]
 cases w.one.testBit i <;> cases w.zero.testBit i <;> rfl
theorem rW{w:Wd}{i:Nat}(h:aD w i<=2):aD (⟨w.zero,w.one⟩:Wd) i=gz (aD w i):=by
 unfold aD at h ⊢;revert h
 show tZ (w.one.testBit i) (w.zero.testBit i)<=2->tZ (w.zero.testBit i) (w.one.testBit i)=_
 cases w.one.testBit i <;> cases w.zero.testBit i <;> intro h <;> first|rfl | (exact absurd h (by decide))
def xI(a b:Nat):Nat:=if a=0\/b=0 then 0 else if a=1/\b=1 then 1 else 2
def or2(a b:Nat):Nat:=if a=1\/b=1 then 1 else if a=0/\b=0 then 0 else 2
def uS(a b:Nat):Nat:=if a<=1/\b<=1 then a ^^^ b else 2
theorem E8{x y:Wd}{i:Nat}(hi:i<64)(hx:aD x i<=2)(hy:aD y i<=2):aD (⟨aK x.one y.one,dK x.zero y.zero⟩:Wd) i=xI (aD x i) (aD y i):=by
 unfold aD at *;rw[dz hi,jz hi];revert hx hy
 cases x.one.testBit i <;> cases x.zero.testBit i <;> cases y.one.testBit i <;> cases y.zero.testBit i <;> decide
theorem HI{x y:Wd}{i:Nat}(hi:i<64)(hx:aD x i<=2)(hy:aD y i<=2):aD (⟨dK x.one y.one,aK x.zero y.zero⟩:Wd) i=or2 (aD x i) (aD y i):=by
 unfold aD at *;rw[dz hi,jz hi];revert hx hy
 cases x.one.testBit i <;> cases x.zero.testBit i <;> cases y.one.testBit i <;> cases y.zero.testBit i <;> decide
theorem Fi{x y:Wd}{i:Nat}(hi:i<64)(hx:aD x i<=2)(hy:aD y i<=2):aD (⟨dK (aK x.one y.zero) (aK x.zero y.one),dK (aK x.one y.one) (aK x.zero y.zero)⟩:Wd) i=uS (aD x i) (aD y i):=by
 unfold aD at *;rw[jz hi,jz hi,dz hi,dz hi,dz hi,dz hi];revert hx hy
 cases x.one.testBit i <;> cases x.zero.testBit i <;> cases y.one.testBit i <;> cases y.zero.testBit i <;> decide
theorem Fm(l:List Nat):l.foldl xI 0=0:=by
 induction l with
 |nil=>rfl
 |cons a l ih=>exact ih
theorem vB:∀(l:List Nat) (o:Nat),(∀v∈l,v<=2)->o=1\/o=2->l.foldl xI o=jH 0 1 l o
 |[],o,_,_=>rfl
 |v::l,o,hl,ho=>by
  have hv:=hl v (.head _);have ih:=λo'=>vB l o' (λx m=>hl x (.tail _ m));rw[N3,jH];by_cases e0:v=0
  .subst e0;rw[if_pos rfl]
   have:xI o 0=0:=by unfold xI;rw[if_pos (.inr rfl)]
   rw[this,Fm]
  .rw[if_neg e0]
   have e:xI o v=if v=1 then o else 2:=by
    unfold xI
    rcases ho with rfl|rfl
    .rw[if_neg (by omega)];by_cases e1:v=1
     .rw[if_pos ⟨rfl,e1⟩,if_pos e1]
     .rw[if_neg (λq=>e1 q.2),if_neg e1]
    .rw[if_neg (by omega),if_neg (by omega)]
     split <;> rfl
   rw[e];refine ih _ ?_;split
   .exact ho
   .exact .inr rfl
theorem Je(l:List Nat):l.foldl or2 1=1:=by
 induction l with
 |nil=>rfl
 |cons a l ih=>exact ih
theorem zB:∀(l:List Nat) (o:Nat),(∀v∈l,v<=2)->o=0\/o=2->l.foldl or2 o=jH 1 0 l o
 |[],o,_,_=>rfl
 |v::l,o,hl,ho=>by
  have hv:=hl v (.head _);have ih:=λo'=>zB l o' (λx m=>hl x (.tail _ m));rw[N3,jH];by_cases e0:v=1
  .subst e0;rw[if_pos rfl]
   have:or2 o 1=1:=by unfold or2;rw[if_pos (.inr rfl)]
   rw[this,Je]
  .rw[if_neg e0]
   have e:or2 o v=if v=0 then o else 2:=by
    unfold or2
    rcases ho with rfl|rfl
    .rw[if_neg (by omega)];by_cases e1:v=0
     .rw[if_pos ⟨rfl,e1⟩,if_pos e1]
     .rw[if_neg (λq=>e1 q.2),if_neg e1]
    .rw[if_neg (by omega),if_neg (by omega)]
     split <;> rfl
   rw[e];refine ih _ ?_;split
   .exact ho
   .exact .inr rfl
theorem F1(l:List Nat):l.foldl uS 2=2:=by
 induction l with
 |nil=>rfl
 |cons a l ih =>
  rw[N3]
  have:uS 2 a=2:=by unfold uS;rw[if_neg (by omega)]
  rw[this];exact ih
theorem wU:∀(l:List Nat) (o:Nat),o<=1->l.foldl uS o=mD l o
 |[],_,_=>rfl
 |v::l,o,ho=>by
  rw[N3,mD];by_cases e:v<=1
  .rw[if_pos e]
   have:uS o v=o ^^^ v:=by unfold uS;rw[if_pos ⟨ho,e⟩]
   rw[this];refine wU l _ ?_
   have h1:o=0\/o=1:=by omega
   have h2:v=0\/v=1:=by omega
   rcases h1 with rfl|rfl <;> rcases h2 with rfl|rfl <;> decide
  .rw[if_neg e]
   have:uS o v=2:=by unfold uS;rw[if_neg (λq=>e q.2)]
   rw[this,F1]
theorem Dn(a b:Nat):xI a b<=2:=by unfold xI;split <;> (try split) <;> omega
theorem GL(a b:Nat):or2 a b<=2:=by unfold or2;split <;> (try split) <;> omega
theorem DI(a b:Nat):uS a b<=2:=by
 unfold uS;split
 .rename_i h
  have h1:a=0\/a=1:=by omega
  have h2:b=0\/b=1:=by omega
  rcases h1 with rfl|rfl <;> rcases h2 with rfl|rfl <;> decide
 .exact LV _
theorem ni{f:Nat->Nat->Nat}(hf:∀a b,f a b<=2):∀(l:List Nat) (o:Nat),o<=2->l.foldl f o<=2
 |[],_,h=>h
 |v::l,o,_=>by rw[N3];exact ni hf l _ (hf _ _)
def RdW(l:List Wd):Prop:=∀w∈l,∀i,i<64->aD w i<=2
theorem zv{l:List Wd}(h:RdW l){i:Nat}(hi:i<64):∀v∈l.map (aD · i),v<=2:=by
 intro v m;obtain⟨w,hw,rfl⟩:=MP.1 m;exact h w hw i hi
section
variable {l:List Wd} {K:Wd->Prop}
theorem DB(hl:l.length<2^60)(hr:RdW l)(h:∀r:Wd,(∀i,i<64->aD r i=jH 0 1 (l.map (aD · i)) 1)->K r):jl l K:=by
 refine⟨by decide,aB (λs=>s.2.2<=l.length/\∀i,i<64->aD ⟨s.1,s.2.1⟩ i=((l.take s.2.2).map (aD · i)).foldl xI 1) (λs=>l.length-s.2.2) (λa=>∀i,i<64->aD ⟨a.1,a.2⟩ i=jH 0 1 (l.map (aD · i)) 1) ?_ ⟨L1 _,λi hi=>hU (v:=1) (by decide) hi⟩ λa ha=>h _ ha⟩;rintro k ⟨o,z,j⟩ nx ⟨hj,hI⟩ hnx hk;dsimp only at hj hI;refine⟨λq=>?_,λq=>hk _ λi hi=>?_⟩
 .have q:j<l.length:=aX.1 q;obtain⟨x,hx⟩:=aA q;refine⟨x,hx,by omega,hnx _ ⟨q,λi hi=>?_⟩ (by dsimp only;omega)⟩;dsimp only
  have h2:aD ⟨o,z⟩ i<=2:=by rw[hI i hi];exact ni Dn _ _ (by decide)
  have:=E8 (x:=⟨o,z⟩) (y:=x) hi h2 (hr x (LS hx) i hi);rw[this,hI i hi,NA,hx,QK,MT,P4];rfl
 .have q:l.length<=j:=bC.1 q;dsimp only;rw[hI i hi,Mc q,vB _ _ (zv hr hi) (.inl rfl)]
theorem G6(hl:l.length<2^60)(hr:RdW l)(h:∀r:Wd,(∀i,i<64->aD r i=jH 1 0 (l.map (aD · i)) 0)->K r):ku l K:=by
 refine⟨by decide,aB (λs=>s.2.2<=l.length/\∀i,i<64->aD ⟨s.1,s.2.1⟩ i=((l.take s.2.2).map (aD · i)).foldl or2 0) (λs=>l.length-s.2.2) (λa=>∀i,i<64->aD ⟨a.1,a.2⟩ i=jH 1 0 (l.map (aD · i)) 0) ?_ ⟨L1 _,λi hi=>hU (v:=0) (by decide) hi⟩ λa ha=>h _ ha⟩;rintro k ⟨o,z,j⟩ nx ⟨hj,hI⟩ hnx hk;dsimp only at hj hI;refine⟨λq=>?_,λq=>hk _ λi hi=>?_⟩
 .have q:j<l.length:=aX.1 q;obtain⟨x,hx⟩:=aA q;refine⟨x,hx,by omega,hnx _ ⟨q,λi hi=>?_⟩ (by dsimp only;omega)⟩;dsimp only
  have h2:aD ⟨o,z⟩ i<=2:=by rw[hI i hi];exact ni GL _ _ (by decide)
  have:=HI (x:=⟨o,z⟩) (y:=x) hi h2 (hr x (LS hx) i hi);rw[this,hI i hi,NA,hx,QK,MT,P4];rfl
 .have q:l.length<=j:=bC.1 q;dsimp only;rw[hI i hi,Mc q,zB _ _ (zv hr hi) (.inl rfl)]
theorem DQ(hl:l.length<2^60)(hr:RdW l)(h:∀r:Wd,(∀i,i<64->aD r i=mD (l.map (aD · i)) 0)->K r):jA l K:=by
 refine⟨by decide,aB (λs=>s.2.2<=l.length/\∀i,i<64->aD ⟨s.1,s.2.1⟩ i=((l.take s.2.2).map (aD · i)).foldl uS 0) (λs=>l.length-s.2.2) (λa=>∀i,i<64->aD ⟨a.1,a.2⟩ i=mD (l.map (aD · i)) 0) ?_ ⟨L1 _,λi hi=>hU (v:=0) (by decide) hi⟩ λa ha=>h _ ha⟩;rintro k ⟨o,z,j⟩ nx ⟨hj,hI⟩ hnx hk;dsimp only at hj hI;refine⟨λq=>?_,λq=>hk _ λi hi=>?_⟩
 .have q:j<l.length:=aX.1 q;obtain⟨x,hx⟩:=aA q;refine⟨x,hx,by omega,hnx _ ⟨q,λi hi=>?_⟩ (by dsimp only;omega)⟩;dsimp only
  have h2:aD ⟨o,z⟩ i<=2:=by rw[hI i hi];exact ni DI _ _ (by decide)
  have:=Fi (x:=⟨o,z⟩) (y:=x) hi h2 (hr x (LS hx) i hi);rw[this,hI i hi,NA,hx,QK,MT,P4];rfl
 .have q:l.length<=j:=bC.1 q;dsimp only;rw[hI i hi,Mc q,wU _ _ (by decide)]
end
theorem GI{s a b:Wd}{i:Nat}(hi:i<64)(hs:aD s i<=2)(ha:aD a i<=2)(hb:aD b i<=2) :
  aD (⟨dK (dK (aK s.zero a.one) (aK s.one b.one)) (aK a.one b.one),dK (dK (aK s.zero a.zero) (aK s.one b.zero)) (aK a.zero b.zero)⟩:Wd) i=vU (aD s i) (aD a i) (aD b i):=by
 unfold aD at *;simp only[jz hi,dz hi];revert hs ha hb
 cases s.one.testBit i <;> cases s.zero.testBit i <;> cases a.one.testBit i <;> cases a.zero.testBit i <;> cases b.one.testBit i <;> cases b.zero.testBit i <;> decide
theorem oQ(low high:Nat)(hl:low<=1)(hh:high<=1):∀(l:List Nat) (o:Nat),jH low high (l.map λv=>min v 2) o=jH low high l o
 |[],_=>rfl
 |v::l,o=>by
  rw[MM,jH,jH,oQ low high hl hh l];by_cases h:v<=2
  .rw[Nb h]
  .rw[Nat.min_eq_right (by omega),if_neg (by omega),if_neg (by omega),if_neg (by omega),if_neg (by omega)]
theorem vA:∀(l:List Nat) (o:Nat),mD (l.map λv=>min v 2) o=mD l o
 |[],_=>rfl
 |v::l,o=>by
  rw[MM,mD,mD];by_cases h:v<=1
  .rw[Nb (by omega),if_pos h,if_pos h,vA l]
  .rw[if_neg (by omega),if_neg h]
theorem HC(v:Nat):gz (min v 2)=gz v:=by
 unfold gz;by_cases h:v<=1
 .rw[Nb (by omega)]
 .rw[if_neg (by omega),if_neg h]
theorem HX{s a b:Nat}(hs:s<=3)(ha:a<=3)(hb:b<=3):vU (min s 2) (min a 2) (min b 2)=vU s a b:=by
 have key:∀s,s<=3->∀a,a<=3->∀b,b<=3->vU (min s 2) (min a 2) (min b 2)=vU s a b:=by decide
 exact key s hs a ha b hb
theorem Ir(l:List Wd):RdW (l.map qj):=by
 intro w m i hi;obtain⟨x,_,rfl⟩:=MP.1 m;rw[eM hi];omega
theorem mR(l:List Wd){i:Nat}(hi:i<64):(l.map qj).map (aD · i)=(l.map (aD · i)).map λv=>min v 2:=by
 rw[NT,NT];refine Og λx _=>?_;exact eM hi
theorem mE(l:List Wd)(i:Nat){j:Nat}{x:Wd}(h:l[j]?=some x):(l.map (aD · i)).getD j 0=aD x i:=by
 rw[Mh,L7,h];rfl
theorem Ct{n:Nat}(h:eL 11 n):n=3:=by
 obtain⟨h1,h2⟩:=h;have h1:3<=n:=h1;have h2:LQ n<=3:=h2;simp only[L4] at h2;omega
theorem Gn{k:Nat}{l:List Wd}{K:Wd->Prop}(hk0:1<=k)(hk:k<12)(ha:eL k l.length)(hl:l.length<=1024)(h:∀r:Wd,(∀i,i<64->aD r i=fN k (l.map (aD · i)))->K r):ir k l K:=by
 unfold ir;refine wj (by omega) ?_;refine fK (λb=>b=false) (λk1 hk1=>⟨λq=>?_,λq=>hk1 _ (xm.2 ha.2)⟩) λb hb=>⟨λq=>(by rw[hb] at q;cases q),λ_=>⟨λq=>?_,λq13=>⟨by omega,by omega,?_⟩⟩⟩
 .have:=aX.1 q;have:=ha.1;simp only at *;omega
 .exact absurd (cJ.1 q) (by omega)
 have q13:=cF.1 q13;refine aB (λs=>s.2<=l.length/\s.1.length=l.length/\∀q,q<s.2->s.1[q]?=(l.map qj)[q]?) (λs=>l.length-s.2) (λv=>v=l.map qj) ?_ ⟨L1 _,by simp,λq hq=>absurd hq (Mu _)⟩ ?_
 .rintro k2 ⟨v,j⟩ nx ⟨hj,hvl,hv⟩ hnx hk2;dsimp only at hj hvl hv;refine⟨λq=>?_,λq=>hk2 _ ?_⟩
  .have q:j<l.length:=aX.1 q;obtain⟨x,hx⟩:=aA q;obtain⟨y,hy⟩:=aA (show j<v.length by omega);refine⟨x,hx,?_⟩
   show j<l.length/\_
   refine⟨q,y,hy,by omega,hnx (v.set j (qj x),j+1) ⟨q,by simp[hvl],λp hp=>?_⟩ (by dsimp only;omega)⟩;dsimp only at hp ⊢;rw[Mp];by_cases e:j=p
   .subst e;rw[if_pos rfl,if_pos (by omega),L7,hx];rfl
   .rw[if_neg e];exact hv p (by omega)
  .have q:l.length<=j:=bC.1 q;apply MH;intro p;by_cases hp:p<l.length
   .exact hv p (by omega)
   .rw[Mk (by omega),Mk (by simp;omega)]
 .rintro v rfl;have R:=Ir l
  have hll:(l.map qj).length<2^60:=by rw[LZ];omega
  have gx:∀j,j<l.length->∃x,l[j]?=some x/\(l.map qj)[j]?=some (qj x):=λj hj=>by
   obtain⟨x,hx⟩:=aA hj;exact⟨x,hx,by rw[L7,hx];rfl⟩
  have ev:∀i,fN k (l.map (aD · i))=uC k (l.map (aD · i)):=λi=>by
   unfold fN;rw[if_neg (show ¬ k=12 by omega),if_neg (show ¬ k=13 from q13)]
  refine⟨λq=>?_,λn1=>⟨λq=>?_,λn2=>⟨λq=>?_,λn3=>⟨λq=>?_,λn4=>⟨λq=>?_,λn5=>⟨λq=>?_,λn6=>⟨λq=>?_,λn7=>⟨λq=>?_,λn8=>⟨λq=>?_,λn9=>⟨λq=>?_,λn10=>⟨λq=>?_,λn11=>⟨λq=>?_,λn12=>?_⟩⟩⟩⟩⟩⟩⟩⟩⟩⟩⟩⟩
  .have q:=cJ.1 q;subst q;exact⟨by decide,h _ λi hi=>(hU (by decide) hi).trans rfl⟩
  .have q:=cJ.1 q;subst q;exact⟨by decide,h _ λi hi=>(hU (by decide) hi).trans rfl⟩
  .have q:=cJ.1 q;subst q;have hn:=yk ha;obtain⟨x,hx,hr⟩:=gx 0 (by omega);refine⟨by omega,_,hr,h _ λi hi=>?_⟩;rw[eM hi,ev i]
   show _=min ((l.map (aD · i)).getD 0 0) 2
   rw[mE l i hx]
  .have q:=cJ.1 q;subst q;have hn:=yy ha;obtain⟨x,hx,hr⟩:=gx 0 (by omega);refine⟨by omega,_,hr,h _ λi hi=>?_⟩;rw[rW (by rw[eM hi];omega),eM hi,HC,ev i]
   show _=gz ((l.map (aD · i)).getD 0 0)
   rw[mE l i hx]
  .have q:=cJ.1 q;subst q;refine⟨by simp,DB hll R λr hr=>h r λi hi=>?_⟩;rw[hr i hi,mR l hi,oQ 0 1 (by decide) (by decide)];rfl
  .have q:=cJ.1 q;subst q;refine⟨by simp,DB hll R λr hr=>h _ λi hi=>?_⟩
   have hle:aD r i<=2:=by rw[hr i hi,<- vB _ _ (zv R hi) (.inl rfl)];exact ni Dn _ _ (by decide)
   rw[rW hle,hr i hi,mR l hi,oQ 0 1 (by decide) (by decide)];rfl
  .have q:=cJ.1 q;subst q;refine⟨by simp,G6 hll R λr hr=>h r λi hi=>?_⟩;rw[hr i hi,mR l hi,oQ 1 0 (by decide) (by decide)];rfl
  .have q:=cJ.1 q;subst q;refine⟨by simp,G6 hll R λr hr=>h _ λi hi=>?_⟩
   have hle:aD r i<=2:=by rw[hr i hi,<- zB _ _ (zv R hi) (.inl rfl)];exact ni GL _ _ (by decide)
   rw[rW hle,hr i hi,mR l hi,oQ 1 0 (by decide) (by decide)];rfl
  .have q:=cJ.1 q;subst q;refine⟨by simp,DQ hll R λr hr=>h r λi hi=>?_⟩;rw[hr i hi,mR l hi,vA];rfl
  .have q:=cJ.1 q;subst q;refine⟨by simp,DQ hll R λr hr=>h _ λi hi=>?_⟩
   have hle:aD r i<=2:=by rw[hr i hi,<- wU _ _ (by decide)];exact ni DI _ _ (by decide)
   rw[rW hle,hr i hi,mR l hi,vA];rfl
  .have q:=cJ.1 q;subst q;have hn:=Ct ha;obtain⟨s,hs,hr0⟩:=gx 0 (by omega);obtain⟨a,haa,hr1⟩:=gx 1 (by omega);obtain⟨b,hbb,hr2⟩:=gx 2 (by omega);refine⟨by omega,_,hr0,by omega,_,hr1,by omega,_,hr2,h _ λi hi=>?_⟩;rw[GI hi (by rw[eM hi];omega) (by rw[eM hi];omega) (by rw[eM hi];omega),eM hi,eM hi,eM hi,HX (oY _ _) (oY _ _) (oY _ _),ev i]
   show _=vU ((l.map (aD · i)).getD 0 0) ((l.map (aD · i)).getD 1 0) ((l.map (aD · i)).getD 2 0)
   rw[mE l i hs,mE l i haa,mE l i hbb]
  .exact absurd (cJ.1 q) (by omega)
  .have a1:=cF.1 n1;have a2:=cF.1 n2;have a3:=cF.1 n3;have a4:=cF.1 n4;have a5:=cF.1 n5;have a6:=cF.1 n6;have a7:=cF.1 n7;have a8:=cF.1 n8;have a9:=cF.1 n9;have a10:=cF.1 n10;have a11:=cF.1 n11;have a12:=cF.1 n12;omega
def qz(c:Circ)(p:Pat)(nt:Nat->Nat->Nat)(pn:Nat->Nat->Nat->Nat):Nat->List Nat
 |0=>[]
 |i+1=>qz c p nt pn i++[match c.nodes[i]? with|some x=>nt i (dD c p pn (qz c p nt pn i) i x) | none=>0]
def sol(c:Circ)(p:Pat)(nt:Nat->Nat->Nat)(pn:Nat->Nat->Nat->Nat):List Nat:=qz c p nt pn c.nodes.length
theorem ji{c:Circ}{p:Pat}{nt:Nat->Nat->Nat}{pn:Nat->Nat->Nat->Nat}:∀n,(qz c p nt pn n).length=n
 |0=>rfl
 |n+1=>by rw[qz,Ml,ji n];rfl
theorem vD{c:Circ}{p:Pat}{nt:Nat->Nat->Nat}{pn:Nat->Nat->Nat->Nat}{i:Nat}:∀{n},i<n->(qz c p nt pn n).getD i 0=(qz c p nt pn (i+1)).getD i 0:=by
 intro n
 induction n with
 |zero=>intro h;omega
 |succ n ih =>
  intro h;by_cases e:i=n
  .subst e;rfl
  .rw[<- ih (by omega)];rw[qz,Mh,Mh,Mb (by rw[ji];omega)]
theorem ya{c:Circ}{p:Pat}{nt:Nat->Nat->Nat}{pn:Nat->Nat->Nat->Nat}{i:Nat}{x:Node}(hx:c.nodes[i]?=some x):(qz c p nt pn (i+1)).getD i 0=nt i (dD c p pn (qz c p nt pn i) i x):=by
 rw[qz,Mh,Mg (by rw[ji];omega),ji,Nx,hx];rfl
theorem It{c:Circ}{p:Pat}(hp:PatOk c p)(i:Nat):zx c p i<=3:=by
 unfold zx
 have key:∀(l:List Nat) (j:Nat),(∀v∈l,v<=3)->l.getD j 0<=3:=by
  intro l j h;by_cases q:j<l.length
  .exact h _ (iu q)
  .rw[Mh,Mk (by omega)];exact L1 _
 split
 .exact key _ _ hp.inpv
 split
 .exact key _ _ hp.statev
 .omega
theorem wW{c:Circ}{p:Pat}(hp:PatOk c p){pn:Nat->Nat->Nat->Nat}(h2:∀m j v,v<=3->pn m j v<=3){t:List Nat}(ht:∀i,t.getD i 0<=3)(i:Nat)(x:Node):dD c p pn t i x<=3:=by
 unfold dD;split
 .exact Ba _ (Ay h2 ht)
 .exact It hp i
theorem zD{c:Circ}{p:Pat}(hp:PatOk c p){nt:Nat->Nat->Nat}{pn:Nat->Nat->Nat->Nat}(h1:∀i v,v<=3->nt i v<=3)(h2:∀m j v,v<=3->pn m j v<=3):∀n i,(qz c p nt pn n).getD i 0<=3
 |0,i=>by rw[qz];simp
 |n+1,i=>by
  by_cases q:i<n
  .rw[qz,Mh,Mb (by rw[ji];omega)];exact zD hp h1 h2 n i
  by_cases e:i=n
  .subst e
   cases hx:c.nodes[i]? with
   |none =>
    rw[qz,Mh,Mg (by rw[ji];omega),ji,Nx,hx];exact L1 _
   |some x =>
    rw[ya hx];exact h1 _ _ (wW hp h2 (zD hp h1 h2 i) _ _)
  .rw[Mh,Mk (by rw[ji];omega)];exact L1 _
theorem nK{c:Circ}(C:Cir c){p:Pat}(hp:PatOk c p){nt:Nat->Nat->Nat}{pn:Nat->Nat->Nat->Nat}(h1:∀i v,v<=3->nt i v<=3)(h2:∀m j v,v<=3->pn m j v<=3):Sol c p nt pn (sol c p nt pn):=by
 refine⟨ji _,λi x hx=>?_,zD hp h1 h2 _⟩;have hi:=ai hx;unfold sol;rw[vD hi,ya hx];congr 1;unfold dD;split
 .rename_i hc;have hc:=of_decide_eq_true hc;congr 1;refine iR λk hk=>?_;have:=(C.good.node i x hx).acyc hc.1 hc.2 k hk;rw[vD this,<- vD (n:=c.nodes.length) (by omega)]
 .rfl
theorem Sol.is{c:Circ}(C:Cir c){p:Pat}(hp:PatOk c p){nt:Nat->Nat->Nat}{pn:Nat->Nat->Nat->Nat}(h1:∀i v,v<=3->nt i v<=3)(h2:∀m j v,v<=3->pn m j v<=3){t:List Nat}(T:Sol c p nt pn t):t=sol c p nt pn:=T.eq C (nK C hp h1 h2)
theorem evalNode{c:Circ}(C:Cir c){m:Nat}{x:Node}(hx:c.nodes[m]?=some x)(hc:cw x.kind=true){l:List Nat}(hl:l.length=x.ins.length){K:Nat->Prop}(h:K (fN x.kind l)):bL x.kind l K:=by
 have hc:=of_decide_eq_true hc;have g:=C.good.node m x hx;have:=g.few;exact FI hc.1 (by have:=g.plain;omega) (by rw[hl];exact g.arity) (by omega) h
theorem BW{c:Circ}(C:Cir c){p:Pat}{t1 t2:List Nat}(hp:PatOk c p)(l2:t2.length=c.nodes.length)(h1:∀j f,(ofN c [0])[j]?=some f->t1.getD f 0=p.inp.getD j 0)(h0:∀f,f ∉ ofN c [0]->t1.getD f 0=(LY c.nodes.length 0).getD f 0)
  (h2:∀j f,(ofN c [14])[j]?=some f->t2.getD f 0=p.state.getD j 0) (h3:∀f,f ∉ ofN c [14]->t2.getD f 0=t1.getD f 0) (nt:Nat->Nat->Nat) (pn:Nat->Nat->Nat->Nat) (o:List Nat):RunS c p nt pn o t2 0:=by
 have key:=Ai C hp l2 h1 h2 h3;refine⟨l2,λj m x hj=>absurd hj (Mu _),λj m x _ _ hx hc=>(key m x hx hc).1,λi=>?_⟩;by_cases q:i<c.nodes.length
 .obtain⟨x,hx⟩:=aA q
  cases hc:cw x.kind with
  |false=>exact (key i x hx hc).2
  |true =>
   have hc:=of_decide_eq_true hc;have e:=dk hx;rw[h3 i (λm=>by have:=(bK.1 m).2;omega),h0 i (λm=>by have:=(bK.1 m).2;omega)];rw[Mh,Mt]
   split <;> decide
 .rw[Mh,Mk (by omega)];exact L1 _
theorem da{c:Circ}{p:Pat}{pn:Nat->Nat->Nat->Nat}{t:List Nat}{m:Nat}{x:Node}(hc:cw x.kind=false):dD c p pn t m x=zx c p m:=by unfold dD;rw[hc];rfl
theorem eJ{c:Circ}{p:Pat}{pn:Nat->Nat->Nat->Nat}{t:List Nat}{m:Nat}{x:Node}(hc:cw x.kind=true):dD c p pn t m x=fN x.kind (cO pn t m x):=by unfold dD;rw[hc];rfl
theorem Kw{c:Circ}(C:Cir c){p:Pat}(hp:PatOk c p){K:Rsp×List Nat×Nat->Prop}(h:K (oj c idP (sol c p idN idP),sol c p idN idP,0)):dw c p K:=by
 have hlen:=C.len;have l0:=cD c [0];have l2:=cD c [14];have hid1:∀i v,v<=3->idN i v<=3:=λ_ _ h=>h;have hid2:∀m j v,v<=3->idP m j v<=3:=λ_ _ _ h=>h;unfold dw;refine mS C.good λo ho=>?_;refine cQ (a:=0) (λF=>⟨λ_=>DF C hp F,λq=>by cases q⟩) ?_;refine⟨(λq=>by cases q),λ_=>⟨by omega,by omega,?_⟩⟩;refine iV (kY (by omega) (vg (n:=c.nodes.length) hlen l0 hp.inp (λf m=>(bK.1 m).1) (iQ c [0]) Mw (λt i nx ht h1 h2=>rL hlen l0 hp.inp (λf m=>(bK.1 m).1) ht h1 h2) ?_));intro t1 e1 h1 h0;refine iU (by omega) (vg (n:=c.nodes.length) hlen l2 hp.state (λf m=>(bK.1 m).1) (iQ c [14]) e1 (λt i nx ht h1 h2=>rL hlen l2 hp.state (λf m=>(bK.1 m).1) ht h1 h2) ?_);intro t2 e2 h2 h3
 have hol:o.length=c.nodes.length:=by have:=ho.perm.length_eq;simpa using this
 refine aB (λs=>s.2.2.2<=o.length/\s.2.1.length=16/\RunS c p idN idP o s.1 s.2.2.2) (λs=>o.length-s.2.2.2) (λt=>t=sol c p idN idP) ?_ ⟨L1 _,by simp,BW C hp e2 h1 h0 h2 h3 _ _ _⟩ ?_
 .rintro k ⟨t,b,n,i⟩ nx ⟨hi,hb,T⟩ hnx hk;dsimp only at hi hb T;refine⟨λq=>?_,λq=>hk t ?_⟩
  .have q:i<o.length:=aX.1 q;obtain⟨m,hm⟩:=aA q;have hmn:m<c.nodes.length:=Mx.1 (ho.perm.mem_iff.1 (LS hm));obtain⟨x,hx⟩:=aA hmn;have g:=C.good.node m x hx;have hfew:=g.few;refine fK (λs=>s.2.1.length=16/\RunS c p idN idP o s.1 (i+1)) (λk' hk'=>?_) ?_
   .refine⟨m,hm,x,hx,zR ?_⟩
    cases hc:cw x.kind with
    |false =>
     have hc':=of_decide_eq_false hc;rw[decide_eq_false hc'];refine⟨λ_=>hk' _ ⟨hb,T.skip hm hx ?_⟩,λe=>by cases e⟩;rw[da hc,T.todo i m x (LV _) hm hx hc];rfl
    |true =>
     have hc':=of_decide_eq_true hc;rw[decide_eq_true hc'];refine⟨(λe=>by cases e),λ_=>⟨by decide,?_⟩⟩;refine aB (λs=>s.2.2<=x.ins.length/\s.1.length=16/\s.2.1=s.2.2/\s.1.take s.2.2=(cO idP t m x).take s.2.2) (λs=>x.ins.length-s.2.2) (λs=>s.1.length=16/\s.2<=16/\s.1.take s.2=cO idP t m x) ?_ ⟨L1 _,hb,rfl,rfl⟩ ?_
     .rintro k2 ⟨b,n,j⟩ nx2 ⟨hj,hb,hn,ht⟩ hnx2 hk2;dsimp only at hj hb hn ht;subst hn;refine⟨λq=>?_,λq=>hk2 _ ?_⟩
      .have q:n<x.ins.length:=aX.1 q;obtain⟨y,hy⟩:=aA q;have hyn:=g.ins y (LS hy);refine⟨y,hy,hyn,_,kG T.len hyn,by omega,by omega,by omega,hnx2 _ ⟨q,?_,rfl,?_⟩ (by dsimp only;omega)⟩
       .simp only[Ml,L8,No,M8,N4];omega
       .dsimp only;have hv:=pI (pn:=idP) (t:=t) (m:=m) hy
        have hl:(b.take n).length=n:=by rw[L8];omega
        rw[Q3,hl,show n+1-n=1 from by omega,Mc (by omega),im hv,ht];rfl
      .have q:x.ins.length<=n:=bC.1 q;refine⟨hb,by dsimp only;omega,?_⟩;dsimp only;rw[ht,Mc (by rw[lf];exact q)]
     .rintro⟨b,n⟩ ⟨hb,hn,ht⟩;dsimp only at hb hn ht;refine⟨by omega,?_⟩;rw[ht];refine evalNode C hx hc lf ?_;refine⟨hmn,_,kG T.len hmn,hk' _ ⟨hb,?_⟩⟩;have:=T.step ho hm hx (by exact wW hp hid2 T.le _ _);rw[eJ hc] at this;exact this
   .rintro⟨t',b',n'⟩ ⟨hb',T'⟩;exact⟨by omega,hnx _ ⟨q,hb',T'⟩ (by dsimp only;omega)⟩
  .have q:o.length<=i:=bC.1 q
   have e:i=o.length:=by omega
   subst e;exact (T.sol ho).is C hp hid1 hid2
 .rintro _ rfl;have S:=nK C hp hid1 hid2;exact⟨S.len.symm,CZ C S.len S.le h⟩
theorem GU{c:Circ}(C:Cir c){p:Pat}(hp:PatOk c p){rest:List Nat->List Nat->List Nat×Nat->Prop}
  (h:∀t o,OrdOk c o->(∀nt pn,RunS c p nt pn o t 0)->rest (ofN c [14]) t (o,0)) :
  1*c.nodes.length<=2^48/\c.nodes.length<2^63/\bA c (λr414=>aw (α:=(List Nat)) (λk416=>bV c (λr417=>aF (S:=((List Nat)×Nat)) (λ(v418,v419) nx420=>((ltN v419 r417.length)=true->∃x421,r417[v419]?=some x421/\∃x422,p.inp[v419]?=some x422/\x421<c.nodes.length/\∃x423,v418[x421]?=some x423/\v419+1<2^63/\nx420 ((v418.set x421 x422),(v419+1)))/\((ltN v419 r417.length)=false->k416 v418)) ((LY c.nodes.length (0:Nat)),0))) (λv415=>aw (α:=(List Nat)) (λk425=>aF (S:=((List Nat)×Nat)) (λ(v426,v427) nx428=>((ltN v427 r414.length)=true->∃x429,r414[v427]?=some x429/\∃x430,p.state[v427]?=some x430/\x429<c.nodes.length/\∃x431,v426[x429]?=some x431/\v427+1<2^63/\nx428 ((v426.set x429 x430),(v427+1)))/\((ltN v427 r414.length)=false->k425 v426)) (v415,0)) (λv424=>bz c (λr432=>rest r414 v424 r432)))):=by
 have hlen:=C.len;have l0:=cD c [0];have l2:=cD c [14];refine⟨by omega,by omega,iU (by omega) (iV (kY (by omega) (vg (n:=c.nodes.length) hlen l0 hp.inp (λf m=>(bK.1 m).1) (iQ c [0]) Mw (λt i nx ht h1 h2=>rL hlen l0 hp.inp (λf m=>(bK.1 m).1) ht h1 h2) ?_)))⟩;intro t1 e1 h1 h0;refine iV (vg (n:=c.nodes.length) hlen l2 hp.state (λf m=>(bK.1 m).1) (iQ c [14]) e1 (λt i nx ht h1 h2=>rL hlen l2 hp.state (λf m=>(bK.1 m).1) ht h1 h2) ?_);intro t2 e2 h2 h3;exact mS C.good λo ho=>h t2 o ho λnt pn=>BW C hp e2 h1 h0 h2 h3 nt pn o
theorem Ja{c:Circ}(C:Cir c){p:Pat}{nt:Nat->Nat->Nat}{pn:Nat->Nat->Nat->Nat}{o t:List Nat}{i m:Nat}{x:Node}(T:RunS c p nt pn o t i)(hm:o[i]?=some m)(hx:c.nodes[m]?=some x){RD:(List Nat->Prop)->Prop}(hrd:∀k,k (cO pn t m x)->RD k){rest:List Nat->Prop}
  (h:∀t1,t1.length=c.nodes.length->t1.getD m 0=dD c p pn t m x->(∀v,t1.set m v=t.set m v)->rest t1) :
  aw (α:=(List Nat)) (λk440=>∃x441,c.nodes[m]?=some x441/\aw (α:=Bool) (λk443=>((neN x441.kind 0)=true->k443 (neN x441.kind 14))/\((neN x441.kind 0)=false->k443 false)) (λv442=>(v442=true->∃x444,c.nodes[m]?=some x444/\aw (α:=(List Nat)) RD (λv448=>bL x444.kind v448 (λr463=>m<c.nodes.length/\∃x464,t[m]?=some x464/\k440 (t.set m r463))))/\(v442=false->k440 t))) rest:=by
 have hmn:=ai hx;have hk:=C.kinds m x hx
 have e:(neN x.kind 0&&neN x.kind 14)=cw x.kind:=by
  rw[zt,zt];unfold cw;rw[MW];simp only[L9,decide_eq_true_eq,Ox,decide_eq_false_iff_not];omega
 refine iV ⟨x,hx,cQ (a:=cw x.kind) (λF=>⟨λq=>?_,λq=>?_⟩) ⟨λq=>⟨x,hx,iV (hrd _ (evalNode C hx q lf ⟨hmn,_,kG T.len hmn,?_⟩))⟩,λq=>?_⟩⟩
 .rw[q,OX] at e;rw[e];exact F
 .rw[q,QL] at e;rw[<- e] at F;exact F
 .refine h _ (by rw[Nj];exact T.len) ?_ λv=>by rw[Rf]
  rw[bm (by rw[T.len];exact hmn),if_pos rfl,eJ q]
 .refine h t T.len ?_ λ_=>rfl;rw[da q];exact T.todo i m x (LV _) hm hx q
theorem rdA{c:Circ}(C:Cir c){t:List Nat}(ht:t.length=c.nodes.length){m:Nat}{x:Node}(hx:c.nodes[m]?=some x)(k:List Nat->Prop)(h:k (cO idP t m x)) :
  ∃x451,c.nodes[m]?=some x451/\aF (S:=((List Nat)×Nat)) (λ(v453,v454) nx456=>((ltN v454 x451.ins.length)=true->∃x457,x451.ins[v454]?=some x457/\x457<c.nodes.length/\∃x458,t[x457]?=some x458/\(v453.length+([x458]:(List Nat)).length)*1<=2^47/\v454+1<2^63/\nx456 ((v453++([x458]:(List Nat))),(v454+1)))/\((ltN v454 x451.ins.length)=false->k v453)) (([]:List Nat),0):=by
 have g:=C.good.node m x hx;have hfew:=g.few;refine⟨x,hx,bM (λs=>s.2<=x.ins.length/\s.1=(cO idP t m x).take s.2) (λs=>x.ins.length-s.2) ?_ ⟨L1 _,rfl⟩⟩;rintro⟨l,j⟩ nx ⟨hj,hl⟩ hnx;dsimp only at hj hl;refine⟨λq=>?_,λq=>?_⟩
 .have q:j<x.ins.length:=aX.1 q;obtain⟨y,hy⟩:=aA q;have hyn:=g.ins y (LS hy);refine⟨y,hy,hyn,_,kG ht hyn,?_,by omega,hnx _ ⟨q,?_⟩ (by dsimp only;omega)⟩
  .rw[hl];simp only[L8,M8,N4,lf];omega
  .dsimp only;rw[hl,im (pI (pn:=idP) (t:=t) (m:=m) hy)];rfl
 .have q:x.ins.length<=j:=bC.1 q;rw[hl,Mc (by rw[lf];exact q)];exact h
def ij(a:Nat)(pin:Int)(w:Nat):Nat->Nat->Nat->Nat:=λm j v=>if m=a/\LQ j=pin then w else v
def jG(a w:Nat):Nat->Nat->Nat:=λm v=>if m=a then w else v
theorem IP{c:Circ}(C:Cir c){t:List Nat}(ht:t.length=c.nodes.length){rest:List Nat->Prop}(h:rest (c.outs.map λo=>t.getD o 0)) :
  aw (α:=(List Nat)) (λk475=>aF (S:=((List Nat)×Nat)) (λ(v477,v478) nx480=>((ltN v478 c.outs.length)=true->∃x481,c.outs[v478]?=some x481/\x481<c.nodes.length/\∃x482,t[x481]?=some x482/\(v477.length+([x482]:(List Nat)).length)*1<=2^47/\v478+1<2^63/\nx480 ((v477++([x482]:(List Nat))),(v478+1)))/\((ltN v478 c.outs.length)=false->k475 v477)) (([]:List Nat),0)) rest:=by
 have hol:=C.good.outsLen;refine aB (λs=>s.2<=c.outs.length/\s.1=(c.outs.take s.2).map λo=>t.getD o 0) (λs=>c.outs.length-s.2) (λa=>a=c.outs.map λo=>t.getD o 0) ?_ ⟨L1 _,rfl⟩ (λ_ e=>e ▸ h);rintro k ⟨l,i⟩ nx ⟨hi,hl⟩ hnx hk;dsimp only at hi hl;refine⟨λq=>?_,λq=>hk _ ?_⟩
 .have q:i<c.outs.length:=aX.1 q;obtain⟨o,ho⟩:=aA q;have hon:o<c.nodes.length:=C.good.outs o (LS ho);refine⟨o,ho,hon,_,kG ht hon,by rw[hl];simp only[LZ,L8,L6];omega,by omega,hnx _ ⟨q,?_⟩ (by dsimp only;omega)⟩;dsimp only;rw[hl,im ho,MT];rfl
 .have q:c.outs.length<=i:=bC.1 q;rw[hl,Mc q]
theorem FD{c:Circ}(C:Cir c){pn:Nat->Nat->Nat->Nat}(h2:∀m j v,v<=3->pn m j v<=3){t:List Nat}(hle:∀i,t.getD i 0<=3){RD:Nat->(List Nat->Prop)->Prop}(hrd:∀m x,c.nodes[m]?=some x->∀k,k (cO pn t m x)->RD m k){rest:List Nat->Prop}(h:rest ((ofN c [14]).map λs=>min (pn s 0 (t.getD ((ct c s).getD 0 0) 0)) 2)) :
  aw (α:=(List Nat)) (λk491=>aF (S:=((List Nat)×Nat)) (λ(v493,v494) nx497=>((ltN v494 (ofN c [14]).length)=true->∃x498,(ofN c [14])[v494]?=some x498/\aw (α:=(List Nat)) (RD x498) (λv502=>∃x521,v502[0]?=some x521/\aw (α:=Nat) (λk526=>((eqN x521 3)=true->k526 2)/\((eqN x521 3)=false->k526 x521)) (λv523=>(v493.length+([v523]:(List Nat)).length)*1<=2^47/\v494+1<2^63/\nx497 ((v493++([v523]:(List Nat))),(v494+1)))))/\((ltN v494 (ofN c [14]).length)=false->k491 v493)) (([]:List Nat),0)) rest:=by
 have hlen:=C.len;have l2:=cD c [14];refine aB (λs=>s.2<=(ofN c [14]).length/\s.1=((ofN c [14]).take s.2).map λs=>min (pn s 0 (t.getD ((ct c s).getD 0 0) 0)) 2) (λs=>(ofN c [14]).length-s.2) (λa=>a=(ofN c [14]).map λs=>min (pn s 0 (t.getD ((ct c s).getD 0 0) 0)) 2) ?_ ⟨L1 _,rfl⟩ (λ_ e=>e ▸ h);rintro k ⟨l,i⟩ nx ⟨hi,hl⟩ hnx hk;dsimp only at hi hl;refine⟨λq=>?_,λq=>hk _ ?_⟩
 .have q:i<(ofN c [14]).length:=aX.1 q;obtain⟨f,hf⟩:=aA q;obtain⟨hfn,hfk⟩:=bK.1 (LS hf);obtain⟨x,hx⟩:=aA hfn;rw[dk hx] at hfk;have hg:=C.good.node f x hx
  have ha:x.ins.length=1:=by have:=hg.arity;rw[hfk] at this;exact pJ this
  have hy:x.ins[0]?=some (x.ins.getD 0 0):=getD_some (by omega);have hv:=h2 f 0 _ (hle (x.ins.getD 0 0));refine⟨f,hf,iV (hrd f x hx _ ⟨_,pI hy,?_⟩)⟩;refine cQ (a:=min (pn f 0 (t.getD (x.ins.getD 0 0) 0)) 2) (λF=>⟨λq=>?_,λq=>?_⟩) ⟨by rw[hl];simp only[LZ,L8,L6];omega,by omega,hnx _ ⟨q,?_⟩ (by dsimp only;omega)⟩
  .rw[cJ.1 q] at F;exact F
  .have:=cF.1 q;rw[Nb (by omega)] at F;exact F
  .dsimp only;rw[hl,im hf,MT];simp only[MM,ND,bk hx]
 .have q:(ofN c [14]).length<=i:=bC.1 q;rw[hl,Mc q]
end Go.Proofs.YtglgdkineobbeaaGreatDoor
