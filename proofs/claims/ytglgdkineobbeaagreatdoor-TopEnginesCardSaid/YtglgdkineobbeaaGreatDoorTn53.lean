/- Parts of the proof. -/
import Derived.Test.YtglgdkineobbeaaGreatDoorTn52
import Derived.Test.YtglgdkineobbeaaGreatDoorTn48c
namespace Go.Proofs.YtglgdkineobbeaaGreatDoor
open Go.Abs
set_option maxRecDepth 100000
theorem AD(x:FailT):ag (cl (AU x)):=ag.cons (aq.flat rfl) (ag.cons (aq.flat rfl) (ag.cons (aq.flat rfl) ag.nil))
theorem BR{i:Nat}{x:Node}(h:qD.nodes[i]?=some x):(i=0/\x=⟨0,[],0,0⟩)\/(i=1/\x=⟨0,[],0,0⟩)\/(i=2/\x=⟨8,[0,1],0,0⟩):=by
 have hi:=ai h;have hi:i<3:=hi
 have:i=0\/i=1\/i=2:=by omega
 rcases this with rfl|rfl|rfl
 .cases h;exact .inl ⟨rfl,rfl⟩
 .cases h;exact .inr (.inl ⟨rfl,rfl⟩)
 .cases h;exact .inr (.inr ⟨rfl,rfl⟩)
theorem Jj:Cir qD:=by
 have node:∀i x,qD.nodes[i]?=some x->GoodN qD i x:=by
  intro i x h
  rcases BR h with⟨rfl,rfl⟩|⟨rfl,rfl⟩|⟨rfl,rfl⟩
  .exact⟨(by decide:0<=14),(by decide:eL 0 0),(λk m=>by cases m),(by decide:0≠12/\0≠13),⟨rfl,rfl⟩,λe=>absurd e (by decide:¬ 1<=0)⟩
  .exact⟨(by decide:0<=14),(by decide:eL 0 0),(λk m=>by cases m),(by decide:0≠12/\0≠13),⟨rfl,rfl⟩,λe=>absurd e (by decide:¬ 1<=0)⟩
  .exact⟨(by decide:8<=14),(by decide:eL 8 2),(by decide:∀k∈[0,1],k<3),(by decide:8≠12/\8≠13),⟨rfl,rfl⟩,λ_ _=>(by decide:∀k∈[0,1],k<2)⟩
 have F:xY qD:=HD ⟨by decide,λi x h=>⟨(node i x h).ins,(node i x h).few⟩⟩
 have N:rY qD:=by
  refine FnV.uV (enc:=i64) (aq.flat rfl) λh hB=>?_;exact oK (K:=λr=>r=0) (rP (λs m=>Gx m) (by decide) (by decide) rfl) hB
 refine⟨⟨by decide,rfl,N,F,rfl,by decide,by decide,node,by decide⟩,rfl,λi x h=>?_⟩
 rcases BR h with⟨rfl,rfl⟩|⟨rfl,rfl⟩|⟨rfl,rfl⟩ <;> decide
def Kb:List Flt:=we qD
theorem Bt:oW NG (zd (K8,0)) (km Tryz.prog [] (pe Tryz.prog) 60 12 ⟨[az qD,ae 5 ay Kb]⟩ (cj vars))=true:=by
 have e:Kb=kFl:=by kernel_rfl
 rw[e];exact kRun
theorem G5:ag [az qD,ae 5 ay Kb]:=ag.cons (mZ _) (ag.cons (cg pN) ag.nil)
theorem Gj:ag [az qD,ay J7,ae 2 aE J3]:=ag.cons (mZ _) (ag.cons (FZ _) (ag.cons (cg yF) ag.nil))
theorem BP:∀o∈vars,∃cs,o=.cells cs true/\cs.all plain=true:=λo m=>by
 obtain⟨i,hi⟩:=M1 m;exact qV hi
theorem H9(r:List (List Nat)×Nat):aq (zd r):=aq.tup (ag.cons (cg λ_=>ag.cons (cg λ_=>ag.cons (aq.flat rfl) ag.nil) ag.nil) (ag.cons (aq.flat rfl) ag.nil))
theorem Hu(r:List FailT×Nat):aq (zz r):=aq.tup (ag.cons (cg AD) (ag.cons (aq.flat rfl) ag.nil))
def ql(c:Circ)(l:List Flt)(K:List (List Nat)×Nat->Prop):Prop:=c=qD/\l=Kb/\K (K8,0)
theorem uJ{p0:Circ}{p1:List Flt}{K:List (List Nat)×Nat->Prop}(hm:ql p0 p1 K){h0:Heap}(hB:aH vars h0):∃r,K r/\al Tryz.prog NG 12 ⟨[az p0,ae 5 ay p1]⟩ h0 (zd r) h0:=by
 obtain⟨rfl,rfl,hk⟩:=hm;exact FnV.walk (enc:=zd) (FnV.closed hM rfl BP hP (λf vs h v e=>jy f vs h v e) Bt G5 (H9 _) (by kernel_rfl) (by decide)) hk hB
def yK(c:Circ)(f:Flt)(t:List Pat)(K:List FailT×Nat->Prop):Prop:=c=qD/\f=J7/\t=J3/\K ([⟨1,false,0⟩],0)
theorem BL{p0:Circ}{p1:Flt}{p2:List Pat}{K:List FailT×Nat->Prop}(hm:yK p0 p1 p2 K){h0:Heap}(hB:aH vars h0):∃r,K r/\al Tryz.prog NG 13 ⟨[az p0,ay p1,ae 2 aE p2]⟩ h0 (zz r) h0:=by
 obtain⟨rfl,rfl,rfl,hk⟩:=hm;exact FnV.walk (enc:=zz) (FnV.closed hM rfl BP hP (λf vs h v e=>jy f vs h v e) IZ Gj (Hu _) (by kernel_rfl) (by decide)) hk hB
end Go.Proofs.YtglgdkineobbeaaGreatDoor
open Go.Value renaming bool->L0,string->L5
open Int renaming negSucc->Mj,ofNat->LQ
open List renaming length_mapIdx->RS,range->Ma,replicate->LY
namespace Go.Proofs.YtglgdkineobbeaaGreatDoor
open Go.Abs
set_option maxRecDepth 100000
set_option maxHeartbeats 8000000
def bO  (K:Bool->Prop):Prop :=
 kb (⟨([(⟨0,([]:(List Nat)),0,0⟩:Node),(⟨0,([]:(List Nat)),0,0⟩:Node),(⟨8,([0,1]:(List Nat)),0,0⟩:Node)]:(List Node)),([(⟨#[97]⟩:ByteArray),(⟨#[98]⟩:ByteArray),(⟨#[121]⟩:ByteArray)]:(List ByteArray)),([]:(List Memo)),([2]:(List Nat))⟩:Circ) 0 (λr3=>ql (⟨([(⟨0,([]:(List Nat)),0,0⟩:Node),(⟨0,([]:(List Nat)),0,0⟩:Node),(⟨8,([0,1]:(List Nat)),0,0⟩:Node)]:(List Node)),([(⟨#[97]⟩:ByteArray),(⟨#[98]⟩:ByteArray),(⟨#[121]⟩:ByteArray)]:(List ByteArray)),([]:(List Memo)),([2]:(List Nat))⟩:Circ) r3.1 (λr4=>yK (⟨([(⟨0,([]:(List Nat)),0,0⟩:Node),(⟨0,([]:(List Nat)),0,0⟩:Node),(⟨8,([0,1]:(List Nat)),0,0⟩:Node)]:(List Node)),([(⟨#[97]⟩:ByteArray),(⟨#[98]⟩:ByteArray),(⟨#[121]⟩:ByteArray)]:(List ByteArray)),([]:(List Memo)),([2]:(List Nat))⟩:Circ) (⟨0,(⟨2,(Mj 0)⟩:LnZ),0,0⟩:Flt) ([(⟨([1,0]:(List Nat)),([]:(List Nat))⟩:Pat),(⟨([0,0]:(List Nat)),([]:(List Nat))⟩:Pat)]:(List Pat)) (λr5=>((eqN r3.2 0)=true->((eqN r4.2 0)=true->((eqN r5.2 0)=true->((eqN r3.1.length 10)=true->((eqN r4.1.length 4)=true->((eqN r5.1.length 1)=true->∃x6,r5.1[0]?=some x6/\K ((eqZ x6.test (LQ 1))&&((x6.next==false)&&((eqZ x6.index (LQ 0))&&true))))/\((eqN r5.1.length 1)=false->K false))/\((eqN r4.1.length 4)=false->K false))/\((eqN r3.1.length 10)=false->K false))/\((eqN r5.2 0)=false->K false))/\((eqN r4.2 0)=false->K false))/\((eqN r3.2 0)=false->K false))))
theorem jc  {K:Bool->Prop} (hm:bO  K) {h0:Heap} (hB:aH vars h0):∃r,K r/\al Tryz.prog NG 4 ⟨[]⟩ h0 (L0 r) h0:=by
 unfold bO at hm
 refine fw Tryz.func4 hB (enc:=L0) (λr=>aq.flat rfl) λO=>?_;conv=>whnf
 refine gX ?_;refine fz ?_;refine gH ?_;refine NewG.frzW rfl (VLe.els (s:=4) (es':=([(⟨0,([]:(List Nat)),0,0⟩:Node),(⟨0,([]:(List Nat)),0,0⟩:Node),(⟨8,([0,1]:(List Nat)),0,0⟩:Node)]).map au) rfl (bE (enc:=au) (s:=4) (λ_=>rfl) _) (LLe.cons (VLe.refl _ _) (LLe.cons (VLe.nil _ _) (LLe.cons (VLe.refl _ _) (LLe.cons (VLe.refl _ _) (LLe.cons (VLe.refl _ _) (LLe.cons (VLe.nil _ _) (LLe.cons (VLe.refl _ _) (LLe.cons (VLe.refl _ _) (LLe.cons (VLe.refl _ _) (LLe.cons (VLe.refl _ _) (LLe.cons (VLe.refl _ _) (LLe.cons (VLe.refl _ _) (LLe.nil _)))))))))))))) ?_;refine gH ?_;refine fz ?_;refine gH ?_;refine fz ?_;refine gH ?_;(first|refine O.new (aj (l:=[(.slice none 0 0),(.slice none 0 0),(.slice none 0 0),(.slice none 0 0)]) rfl rfl rfl) λg1 h O=>?_|refine O.oN (aj (l:=[(.slice none 0 0),(.slice none 0 0),(.slice none 0 0),(.slice none 0 0)]) rfl rfl rfl) λg1 h O=>?_);refine gH ?_;refine O.stC 4 (.head _) [((ae 4 au) ([(⟨0,([]:(List Nat)),0,0⟩:Node),(⟨0,([]:(List Nat)),0,0⟩:Node),(⟨8,([0,1]:(List Nat)),0,0⟩:Node)]:(List Node))),((ae 1 L5) ([(⟨#[97]⟩:ByteArray),(⟨#[98]⟩:ByteArray),(⟨#[121]⟩:ByteArray)]:(List ByteArray))),(.slice none 0 0),((ae 1 i64) ([2]:(List Nat)))] λh O=>?_;refine gX ?_;refine ldA O.i0 ?_;refine gH ?_;refine caW (nV hm O.has) (LLe.cons (VLe.agg (LLe.cons (VLe.refl _ _) (LLe.cons (VLe.refl _ _) (LLe.cons (VLe.nil _ _) (LLe.cons (VLe.refl _ _) (LLe.nil _)))))) (LLe.cons (VLe.refl _ _) (LLe.nil _))) λr3 hm=>?_;refine gX ?_;refine ldA O.i0 ?_;refine gH ?_;refine caW (uJ hm O.has) (LLe.cons (VLe.agg (LLe.cons (VLe.refl _ _) (LLe.cons (VLe.refl _ _) (LLe.cons (VLe.nil _ _) (LLe.cons (VLe.refl _ _) (LLe.nil _)))))) (LLe.cons (VLe.refl _ _) (LLe.nil _))) λr4 hm=>?_;refine gX ?_;refine ldA O.i0 ?_;refine gH ?_;refine fz ?_;refine gH ?_;refine fz ?_;refine gH ?_;refine NewG.frzW rfl (VLe.els (s:=2) (es':=([(⟨([1,0]:(List Nat)),([]:(List Nat))⟩:Pat),(⟨([0,0]:(List Nat)),([]:(List Nat))⟩:Pat)]).map aE) rfl (bE (enc:=aE) (s:=2) (λ_=>rfl) _) (LLe.cons (VLe.refl _ _) (LLe.cons (VLe.nil _ _) (LLe.cons (VLe.refl _ _) (LLe.cons (VLe.nil _ _) (LLe.nil _)))))) ?_;refine gH ?_;refine caW (BL hm O.has) (LLe.cons (VLe.agg (LLe.cons (VLe.refl _ _) (LLe.cons (VLe.refl _ _) (LLe.cons (VLe.nil _ _) (LLe.cons (VLe.refl _ _) (LLe.nil _)))))) (LLe.cons (VLe.refl _ _) (LLe.cons (VLe.refl _ _) (LLe.nil _)))) λr5 hm=>?_;refine gX ?_;refine br hm (λhm=>?_) λhm=>?_
 .refine gX ?_;refine br hm (λhm=>?_) λhm=>?_
  .refine gX ?_;refine br hm (λhm=>?_) λhm=>?_
   .refine gX ?_;refine br hm (λhm=>?_) λhm=>?_
    .refine gX ?_;refine br hm (λhm=>?_) λhm=>?_
     .refine gX ?_;refine br hm (λhm=>?_) λhm=>?_
      .refine gX ?_;refine atF hm λx6 hx6 hm=>?_;refine gH ?_;refine⟨.bool ((eqZ x6.test (LQ 1))&&((x6.next==false)&&((eqZ x6.index (LQ 0))&&true))),by kernel_rfl,?_⟩;refine gX ?_;exact fe hm O
      .refine gX ?_;exact fe hm O
     .refine gX ?_;refine bf ?_;refine gX ?_;exact fe hm O
    .refine gX ?_;refine bf ?_;refine gH ?_;refine bf ?_;refine gX ?_;exact fe hm O
   .refine gX ?_;refine bf ?_;refine gH ?_;refine bf ?_;refine gH ?_;refine bf ?_;refine gX ?_;exact fe hm O
  .refine gX ?_;refine bf ?_;refine gH ?_;refine bf ?_;refine gH ?_;refine bf ?_;refine gH ?_;refine bf ?_;refine gX ?_;exact fe hm O
 .refine gX ?_;refine bf ?_;refine gH ?_;refine bf ?_;refine gH ?_;refine bf ?_;refine gH ?_;refine bf ?_;refine gH ?_;refine bf ?_;refine gX ?_;exact fe hm O
theorem Jf:(we qD).length=10:=by decide +kernel
theorem EB{K:Bool->Prop}(h:K true):bO K:=by
 unfold bO;refine DC (c:=qD) Jj ⟨rfl,rfl,rfl,rfl,rfl,?_⟩;have e0:eqN 0 0=true:=cJ.2 rfl;refine⟨λ_=>⟨λ_=>⟨λ_=>⟨λ_=>⟨λ_=>⟨λ_=>⟨_,rfl,h⟩,λq=>absurd rfl (cF.1 q)⟩,λq=>absurd rfl (cF.1 q)⟩,λq=>absurd Jf (cF.1 q)⟩,λq=>absurd rfl (cF.1 q)⟩,λq=>absurd rfl (cF.1 q)⟩,λq=>absurd rfl (cF.1 q)⟩
set_option maxHeartbeats 8000000
def cC(p0:CData)(p1:(List Nat))(K:Bool->Prop):Prop :=
 ((ltN 12 p1.length)=true->bO  (λr1=>K r1))/\((ltN 12 p1.length)=false->dg p0 (λr2=>kb r2 0 (λr5=>aw (α:=(List Pat)) (λk10=>aF (S:=((List Pat)×Nat)) (λ(v12,v13) nx15=>((ltN v13 p1.length)=true->∃x16,p1[v13]?=some x16/\cA r2 x16 (λr17=>(v12.length+([r17]:(List Pat)).length)*48<=2^47/\v13+1<2^63/\nx15 ((v12++([r17]:(List Pat))),(v13+1))))/\((ltN v13 p1.length)=false->k10 v12)) (([]:List Pat),0)) (λv8=>iy r2 r5.1 v8 (λr22=>aw (α:=Bool) (λk27=>((neN r5.2 0)=true->k27 true)/\((neN r5.2 0)=false->((neN r22.2 0)=true->k27 true)/\((neN r22.2 0)=false->((neN r22.1.first.length r5.1.length)=true->k27 true)/\((neN r22.1.first.length r5.1.length)=false->k27 (neN r22.1.count.length r5.1.length))))) (λv25=>(v25=true->K false)/\(v25=false->8*r5.1.length<=2^48/\r5.1.length<2^63/\aw (α:=(List Nat)) (λk31=>aF (S:=((List Nat)×Nat)) (λ(v33,v34) nx36=>((ltN v34 v8.length)=true->∃x37,v8[v34]?=some x37/\dn r2 r5.1 x37 (λr39=>∃x40,v8[v34]?=some x40/\ju r2 r5.1 x40 (λr41=>∃x42,v8[v34]?=some x42/\cW r2 r5.1 x42 (λr43=>aw (α:=Bool) (λk45=>((neN r39.2 0)=true->k45 true)/\((neN r39.2 0)=false->((neN r41.2 0)=true->k45 true)/\((neN r41.2 0)=false->((neN r43.2 0)=true->k45 true)/\((neN r43.2 0)=false->((neN r39.1.length r5.1.length)=true->k45 true)/\((neN r39.1.length r5.1.length)=false->k45 (neN r43.1.length r5.1.length)))))) (λv44=>(v44=true->K false)/\(v44=false->aw (α:=((List Nat)×Nat)) (λk48=>aF (S:=((List Nat)×Nat×Nat)) (λ(v49,v50,v51) nx52=>((ltN v51 r5.1.length)=true->aw (α:=((List Nat)×Nat)) (λk55=>aw (α:=Bool) (λk57=>((ltN v50 r41.1.length)=true->∃x58,r41.1[v50]?=some x58/\k57 (eqN x58 v51))/\((ltN v50 r41.1.length)=false->k57 false)) (λv56=>aw (α:=Nat) (λk60=>(v56=true->v50+1<2^63/\k60 (v50+1))/\(v56=false->k60 v50)) (λv59=>aw (α:=Bool) (λk62=>∃x63,r39.1[v51]?=some x63/\((x63 != v56)=true->k62 true)/\((x63 != v56)=false->∃x64,r43.1[v51]?=some x64/\k62 (x64 != v56))) (λv61=>(v61=true->K false)/\(v61=false->aw (α:=Bool) (λk66=>(v56=true->v51<r5.1.length/\∃x67,v49[v51]?=some x67/\((eqN x67 0)=true->∃x68,r22.1.first[v51]?=some x68/\k66 (neZ x68 (LQ v34)))/\((eqN x67 0)=false->k66 false))/\(v56=false->k66 false)) (λv65=>(v65=true->K false)/\(v65=false->(v56=true->v51<r5.1.length/\∃x69,v49[v51]?=some x69/\x69+1<2^63/\v51<r5.1.length/\∃x70,v49[v51]?=some x70/\k55 ((v49.set v51 (x69+1)),v59))/\(v56=false->k55 (v49,v59))))))))) (λ(v53,v54)=>v51+1<2^63/\nx52 (v53,v54,(v51+1))))/\((ltN v51 r5.1.length)=false->k48 (v49,v50))) (v33,0,0)) (λ(v46,v47)=>((neN v47 r41.1.length)=true->K false)/\((neN v47 r41.1.length)=false->v34+1<2^63/\nx36 (v46,(v34+1))))))))))/\((ltN v34 v8.length)=false->k31 v33)) ((LY r5.1.length (0:Nat)),0)) (λv30=>aw (α:=Unit) (λk71=>aF (S:=Nat) (λv72 nx73=>((ltN v72 r5.1.length)=true->aw (α:=Bool) (λk75=>∃x76,r22.1.count[v72]?=some x76/\v72<r5.1.length/\∃x77,v30[v72]?=some x77/\((neN x76 x77)=true->k75 true)/\((neN x76 x77)=false->v72<r5.1.length/\∃x78,v30[v72]?=some x78/\((eqN x78 0)=true->∃x79,r22.1.first[v72]?=some x79/\k75 (neZ x79 (Mj 0)))/\((eqN x78 0)=false->k75 false))) (λv74=>(v74=true->K false)/\(v74=false->v72+1<2^63/\nx73 (v72+1))))/\((ltN v72 r5.1.length)=false->k71 ())) 0) (λ_=>bO  (λr80=>K r80))))))))))
theorem kE{p0:CData}{p1:(List Nat)}{K:Bool->Prop}(hm:cC p0 p1 K){h0:Heap}(hB:aH vars h0):∃r,K r/\al Tryz.prog NG 3 ⟨[Ac p0,(ae 1 n64) p1]⟩ h0 (L0 r) h0:=by
 unfold cC at hm
 refine fw Tryz.func3 hB (enc:=L0) (λr=>aq.flat rfl) λO=>?_;conv=>whnf
 refine gX ?_;refine fz ?_;refine gX ?_;refine br hm (λhm=>?_) λhm=>?_
 .refine gX ?_;refine ca (jc hm O.has) λr1 hm=>?_;refine gX ?_;exact fe hm O
 .refine gX ?_;refine ca (lP hm O.has) λr2 hm=>?_;refine gH ?_;refine O.new (aj (l:=[nS,nS,nS,nS]) rfl rfl rfl) λg3 h O=>?_;refine gH ?_;refine O.stC 4 (.head _) [((ae 4 au) r2.nodes),((ae 1 L5) r2.names),((ae 3 bc) r2.mems),((ae 1 i64) r2.outs)] λh O=>?_;refine gX ?_;refine ldA O.i0 ?_;refine gH ?_;refine ca (nV hm O.has) λr5 hm=>?_;refine gH ?_
  apply Cs;conv=>whnf
  apply Cs;refine gH ?_;have O:=O.aZ (.cells (ah ((([]:List Pat)).map aE)) false);refine jn (σ:=(List Pat)×Option Nat) hm 237 [5,6,7] (λs=>s.1) (λ(v8,a7) h=>(a7=none->v8=[])/\Own vars h0 [(sC g3 [((ae 4 au) r2.nodes),((ae 1 L5) r2.names),((ae 3 bc) r2.mems),((ae 1 i64) r2.outs)]),(sM a7 aE v8)] h) (λ(v8,a7)=>[(8,(ak 2 a7 (v8.map aE)))]) (λhm=>?_) ?_
  .refine gX ?_;refine lw 237 [1,5,6,7] (σ:=((List Pat)×Nat)×Option Nat) (λs=>s.1) (λ((v12,v13),a11) h=>(a11=none->v12=[])/\Own vars h0 [(sC g3 [((ae 4 au) r2.nodes),((ae 1 L5) r2.names),((ae 3 bc) r2.mems),((ae 1 i64) r2.outs)]),(sM a11 aE v12)] h) (λ((v12,v13),a11)=>[(8,(ak 2 a11 (v12.map aE))),(9,(i64 v13))]) ((([]:List Pat),0),none) hm ⟨(λ_=>rfl),(O.sel [1,0] (by decide))⟩ ?_;clear hm;rintro⟨⟨v12,v13⟩,a11⟩ nx15 base h hm ⟨ha14,O⟩;refine gX ?_;refine br hm (λhm=>?_) λhm=>?_
   .refine gX ?_;refine ldA O.i0 ?_;refine gH ?_
    first|refine⟨.inr (.inr (aM rfl O.i0 rfl rfl (lbE rfl) rfl)),?_⟩|refine⟨.inr (.inl (by kernel_rfl)),?_⟩
    refine gX ?_;refine atF hm λx16 hx16 hm=>?_;refine gH ?_;refine ca (mB hm O.has) λr17 hm=>?_;refine gH ?_;refine⟨.inl (Ext.refl _),?_⟩;refine gH ?_;refine O.eA (l:=([r17]:(List Pat))) (enc:=aE) (s:=2) (z:=(.agg ⟨[nS,nS]⟩)) rfl rfl (by kernel_rfl) (by kernel_rfl) rfl rfl rfl rfl (λ_=>rfl) λg18 h O=>?_;refine gH ?_;refine O.fb (enc:=aE) (l:=v12) (new:=([r17]:(List Pat))) (s:=2) (b:=48) (.tail _ (.tail _ (.head _))) ha14 rfl rfl rfl rfl rfl rfl rfl rfl (YOk.own O.i0 rfl (λ_=>rfl) rfl) (λ_=>rfl) (λ_=>rfl) (by decide) hm.1 λa20 h ha21 O=>?_;refine gH ?_;replace hm:=hm.2;refine gX ?_;refine aJ hm λhm=>?_;refine gH ?_;exact jx (((v12++([r17]:(List Pat))),(v13+1)),a20) hm ⟨ha21,(O.sel [1,2] (by decide))⟩
   .refine gX ?_;exact jx (v12,a11) hm ⟨ha14,O⟩
  .clear hm;rintro⟨v8,a7⟩ base h hm ⟨ha9,O⟩;refine gX ?_;refine ldA O.i0 ?_;refine gH ?_;refine O.Lh (λ_ hb=>uK hm hb) (.tail _ (.head _)) ha9 (λ_=>rfl) (i:=2) rfl (by kernel_rfl) (λh2 q=>(LLe.cons (VLe.refl _ _) (LLe.cons (VLe.refl _ _) (LLe.cons (q) (LLe.nil _))))) (λr22 h hm' O=>?_);replace hm:=hm';refine gH ?_;refine O.new (aj (l:=[nS,nS,(i64 0)]) rfl rfl rfl) λg23 h O=>?_;refine gH ?_;refine O.stC 3 (.head _) [((ae 1 z64) r22.1.first),((ae 1 i64) r22.1.count),(i64 r22.1.tests)] λh O=>?_;refine gH ?_
   apply Cs;conv=>whnf
   refine jn hm 237 [5,6,8,10] (λs=>s) (λv25 h=>(a7=none->v8=[])/\Own vars h0 [(sC g3 [((ae 4 au) r2.nodes),((ae 1 L5) r2.names),((ae 3 bc) r2.mems),((ae 1 i64) r2.outs)]),(a7,.cells (ah (v8.map aE)) true),(sC g23 [((ae 1 z64) r22.1.first),((ae 1 i64) r22.1.count),(i64 r22.1.tests)])] h) (λv25=>[(78,(.bool v25))]) (λhm=>?_) ?_
   .refine gX ?_;refine br hm (λhm=>?_) λhm=>?_
    .refine gX ?_;refine bt ?_;refine gH ?_;refine bt ?_;refine gH ?_;exact jx true hm ⟨ha9,(O.sel [1,2,0] (by decide))⟩
    .refine gX ?_;refine br hm (λhm=>?_) λhm=>?_
     .refine gX ?_;refine bt ?_;refine gH ?_;exact jx true hm ⟨ha9,(O.sel [1,2,0] (by decide))⟩
     .refine gX ?_;refine br hm (λhm=>?_) λhm=>?_
      .refine gX ?_;exact jx true hm ⟨ha9,(O.sel [1,2,0] (by decide))⟩
      .refine gX ?_;exact jx (neN r22.1.count.length r5.1.length) hm ⟨ha9,(O.sel [1,2,0] (by decide))⟩
   .clear hm;rintro v25 base h hm ⟨ha26,O⟩;refine gX ?_;refine br hm (λhm=>?_) λhm=>?_
    .refine gX ?_;exact fe hm O
    .refine gX ?_;refine O.mkL (enc:=i64) 8 1 0 hm λg28 h O hm=>?_;refine gH ?_;refine jn hm 237 [6,10,12] (λs=>s) (λv30 h=>Own vars h0 [(sC g23 [((ae 1 z64) r22.1.first),((ae 1 i64) r22.1.count),(i64 r22.1.tests)]),(sG g28 i64 v30)] h) (λv30=>[]) (λhm=>?_) ?_
     .refine gX ?_;refine lw 237 [5,6,10,12] (σ:=((List Nat)×Nat)×Option Nat) (λs=>s.1) (λ((v33,v34),a32) h=>(a32=none->v8=[])/\Own vars h0 [(sC g3 [((ae 4 au) r2.nodes),((ae 1 L5) r2.names),((ae 3 bc) r2.mems),((ae 1 i64) r2.outs)]),(a32,.cells (ah (v8.map aE)) true),(sC g23 [((ae 1 z64) r22.1.first),((ae 1 i64) r22.1.count),(i64 r22.1.tests)]),(sG g28 i64 v33)] h) (λ((v33,v34),a32)=>[(8,(ak 2 a32 (v8.map aE))),(13,(i64 v34))]) (((LY r5.1.length (0:Nat)),0),a7) hm ⟨ha26,(O.sel [1,2,3,0] (by decide))⟩ ?_;clear hm;rintro⟨⟨v33,v34⟩,a32⟩ nx36 base h hm ⟨ha35,O⟩;refine gX ?_;refine br hm (λhm=>?_) λhm=>?_
      .refine gX ?_;refine ldA O.i0 ?_;refine gH ?_
       first|refine⟨.inr (.inr (aM rfl O.i0 rfl rfl (lbE rfl) rfl)),?_⟩|refine⟨.inr (.inl (by kernel_rfl)),?_⟩
       refine gX ?_;obtain⟨x37,hx37,hm⟩:=hm;have h9:=hm;obtain⟨g38,rfl⟩:=lb ha35 hx37;replace hm:=h9;refine cb (s:=2) (j:=v34) rfl rfl rfl rfl (by rw[LZ];exact ai hx37) ?_;refine gH ?_;refine⟨_,aM (l:=cl (aE x37)) rfl O.i1 rfl rfl (dR (enc:=aE) (s:=2) (k:=0) (λ_=>rfl) (ai hx37) (LV _)) (de (enc:=aE) (s:=2) (λ_=>rfl) hx37),?_⟩;refine gH ?_
       first|refine⟨.inr (.inr (aM (l:=cl (aE x37)) rfl O.i1 rfl rfl (dR (enc:=aE) (s:=2) (k:=0) (λ_=>rfl) (ai hx37) (LV _)) (de (enc:=aE) (s:=2) (λ_=>rfl) hx37))),?_⟩|refine⟨.inr (.inl (by kernel_rfl)),?_⟩
       refine gX ?_;refine ca (oh hm O.has) λr39 hm=>?_;refine gH ?_;refine⟨.inl (Ext.refl _),?_⟩;refine gH ?_;refine gX ?_;refine ldA O.i0 ?_;refine gH ?_
       first|refine⟨.inr (.inr (aM rfl O.i0 rfl rfl (lbE rfl) rfl)),?_⟩|refine⟨.inr (.inl (by kernel_rfl)),?_⟩
       refine gX ?_;obtain⟨x40,hx40,hm⟩:=hm;refine cb (s:=2) (j:=v34) rfl rfl rfl rfl (by rw[LZ];exact ai hx40) ?_;refine gH ?_;refine⟨_,aM (l:=cl (aE x40)) rfl O.i1 rfl rfl (dR (enc:=aE) (s:=2) (k:=0) (λ_=>rfl) (ai hx40) (LV _)) (de (enc:=aE) (s:=2) (λ_=>rfl) hx40),?_⟩;refine gH ?_
       first|refine⟨.inr (.inr (aM (l:=cl (aE x40)) rfl O.i1 rfl rfl (dR (enc:=aE) (s:=2) (k:=0) (λ_=>rfl) (ai hx40) (LV _)) (de (enc:=aE) (s:=2) (λ_=>rfl) hx40))),?_⟩|refine⟨.inr (.inl (by kernel_rfl)),?_⟩
       refine gX ?_;refine ca (mn hm O.has) λr41 hm=>?_;refine gH ?_;refine⟨.inl (Ext.refl _),?_⟩;refine gH ?_;refine gX ?_;refine ldA O.i0 ?_;refine gH ?_
       first|refine⟨.inr (.inr (aM rfl O.i0 rfl rfl (lbE rfl) rfl)),?_⟩|refine⟨.inr (.inl (by kernel_rfl)),?_⟩
       refine gX ?_;obtain⟨x42,hx42,hm⟩:=hm;refine cb (s:=2) (j:=v34) rfl rfl rfl rfl (by rw[LZ];exact ai hx42) ?_;refine gH ?_;refine⟨_,aM (l:=cl (aE x42)) rfl O.i1 rfl rfl (dR (enc:=aE) (s:=2) (k:=0) (λ_=>rfl) (ai hx42) (LV _)) (de (enc:=aE) (s:=2) (λ_=>rfl) hx42),?_⟩;refine gH ?_
       first|refine⟨.inr (.inr (aM (l:=cl (aE x42)) rfl O.i1 rfl rfl (dR (enc:=aE) (s:=2) (k:=0) (λ_=>rfl) (ai hx42) (LV _)) (de (enc:=aE) (s:=2) (λ_=>rfl) hx42))),?_⟩|refine⟨.inr (.inl (by kernel_rfl)),?_⟩
       refine gX ?_;refine ca (oM hm O.has) λr43 hm=>?_;refine gH ?_;refine⟨.inl (Ext.refl _),?_⟩;refine gH ?_
       apply Cs;conv=>whnf
       refine jn hm 237 [5,6,8,10,12,13,14,16,18] (λs=>s) (λv44 h=>Own vars h0 [(sC g3 [((ae 4 au) r2.nodes),((ae 1 L5) r2.names),((ae 3 bc) r2.mems),((ae 1 i64) r2.outs)]),(sR g38 (ah (v8.map aE))),(sC g23 [((ae 1 z64) r22.1.first),((ae 1 i64) r22.1.count),(i64 r22.1.tests)]),(sG g28 i64 v33)] h) (λv44=>[(141,(.bool v44))]) (λhm=>?_) ?_
       .refine gX ?_;refine br hm (λhm=>?_) λhm=>?_
        .refine gX ?_;refine bt ?_;refine gH ?_;refine bt ?_;refine gH ?_;refine bt ?_;refine gH ?_;exact jx true hm O
        .refine gX ?_;refine br hm (λhm=>?_) λhm=>?_
         .refine gX ?_;refine bt ?_;refine gH ?_;refine bt ?_;refine gH ?_;exact jx true hm O
         .refine gX ?_;refine br hm (λhm=>?_) λhm=>?_
          .refine gX ?_;refine bt ?_;refine gH ?_;exact jx true hm O
          .refine gX ?_;refine br hm (λhm=>?_) λhm=>?_
           .refine gX ?_;exact jx true hm O
           .refine gX ?_;exact jx (neN r43.1.length r5.1.length) hm O
       .clear hm;rintro v44 base h hm O;refine gX ?_;refine br hm (λhm=>?_) λhm=>?_
        .refine gX ?_;exact fe hm O
        .apply Cs;conv=>whnf
         apply Cs;conv=>whnf
         apply Cs;refine gH ?_;refine jn hm 237 [5,6,8,10,12,13,16] (λs=>s) (λ(v46,v47) h=>Own vars h0 [(sC g3 [((ae 4 au) r2.nodes),((ae 1 L5) r2.names),((ae 3 bc) r2.mems),((ae 1 i64) r2.outs)]),(sR g38 (ah (v8.map aE))),(sC g23 [((ae 1 z64) r22.1.first),((ae 1 i64) r22.1.count),(i64 r22.1.tests)]),(sG g28 i64 v46)] h) (λ(v46,v47)=>[(20,(i64 v47))]) (λhm=>?_) ?_
         .refine gX ?_;refine lw 237 [5,6,8,10,12,13,14,16,18] (σ:=((List Nat)×Nat×Nat)) (λs=>s) (λ(v49,v50,v51) h=>Own vars h0 [(sC g3 [((ae 4 au) r2.nodes),((ae 1 L5) r2.names),((ae 3 bc) r2.mems),((ae 1 i64) r2.outs)]),(sR g38 (ah (v8.map aE))),(sC g23 [((ae 1 z64) r22.1.first),((ae 1 i64) r22.1.count),(i64 r22.1.tests)]),(sG g28 i64 v49)] h) (λ(v49,v50,v51)=>[(20,(i64 v50)),(21,(i64 v51))]) (v33,0,0) hm O ?_;clear hm;rintro⟨v49,v50,v51⟩ nx52 base h hm O;refine gX ?_;refine br hm (λhm=>?_) λhm=>?_
          .apply Cs;conv=>whnf
           refine jn hm 237 [5,6,8,10,12,13,14,16,18,21] (λs=>s) (λ(v53,v54) h=>Own vars h0 [(sC g3 [((ae 4 au) r2.nodes),((ae 1 L5) r2.names),((ae 3 bc) r2.mems),((ae 1 i64) r2.outs)]),(sR g38 (ah (v8.map aE))),(sC g23 [((ae 1 z64) r22.1.first),((ae 1 i64) r22.1.count),(i64 r22.1.tests)]),(sG g28 i64 v53)] h) (λ(v53,v54)=>[(20,(i64 v54))]) (λhm=>?_) ?_
           .apply Cs;conv=>whnf
            refine jn hm 237 [5,6,8,10,12,13,14,16,18,20,21] (λs=>s) (λv56 h=>Own vars h0 [(sC g3 [((ae 4 au) r2.nodes),((ae 1 L5) r2.names),((ae 3 bc) r2.mems),((ae 1 i64) r2.outs)]),(sR g38 (ah (v8.map aE))),(sC g23 [((ae 1 z64) r22.1.first),((ae 1 i64) r22.1.count),(i64 r22.1.tests)]),(sG g28 i64 v49)] h) (λv56=>[(22,(.bool v56))]) (λhm=>?_) ?_
            .refine gX ?_;refine br hm (λhm=>?_) λhm=>?_
             .refine gX ?_;refine atF hm λx58 hx58 hm=>?_;refine gH ?_;exact jx (eqN x58 v51) hm O
             .refine gX ?_;exact jx false hm O
            .clear hm;rintro v56 base h hm O
             conv=>whnf
             refine jn hm 237 [5,6,8,10,12,13,14,16,18,21,22] (λs=>s) (λv59 h=>Own vars h0 [(sC g3 [((ae 4 au) r2.nodes),((ae 1 L5) r2.names),((ae 3 bc) r2.mems),((ae 1 i64) r2.outs)]),(sR g38 (ah (v8.map aE))),(sC g23 [((ae 1 z64) r22.1.first),((ae 1 i64) r22.1.count),(i64 r22.1.tests)]),(sG g28 i64 v49)] h) (λv59=>[(20,(i64 v59))]) (λhm=>?_) ?_
             .refine gX ?_;refine br hm (λhm=>?_) λhm=>?_
              .refine gX ?_;refine aJ hm λhm=>?_;refine gH ?_;exact jx (v50+1) hm O
              .refine gX ?_;exact jx v50 hm O
             .clear hm;rintro v59 base h hm O
              conv=>whnf
              apply Cs;conv=>whnf
              refine jn hm 237 [5,6,8,10,12,13,14,16,18,20,21,22] (λs=>s) (λv61 h=>Own vars h0 [(sC g3 [((ae 4 au) r2.nodes),((ae 1 L5) r2.names),((ae 3 bc) r2.mems),((ae 1 i64) r2.outs)]),(sR g38 (ah (v8.map aE))),(sC g23 [((ae 1 z64) r22.1.first),((ae 1 i64) r22.1.count),(i64 r22.1.tests)]),(sG g28 i64 v49)] h) (λv61=>[(176,(.bool v61))]) (λhm=>?_) ?_
              .refine gX ?_;refine atF hm λx63 hx63 hm=>?_;refine gH ?_;refine br hm (λhm=>?_) λhm=>?_
               .refine gX ?_;exact jx true hm O
               .refine gX ?_;refine atF hm λx64 hx64 hm=>?_;refine gH ?_;exact jx (x64 != v56) hm O
              .clear hm;rintro v61 base h hm O;refine gX ?_;refine br hm (λhm=>?_) λhm=>?_
               .refine gX ?_;exact fe hm O
               .apply Cs;conv=>whnf
                apply Cs;conv=>whnf
                refine jn hm 237 [5,6,8,10,12,13,14,16,18,20,21,22] (λs=>s) (λv65 h=>Own vars h0 [(sC g3 [((ae 4 au) r2.nodes),((ae 1 L5) r2.names),((ae 3 bc) r2.mems),((ae 1 i64) r2.outs)]),(sR g38 (ah (v8.map aE))),(sC g23 [((ae 1 z64) r22.1.first),((ae 1 i64) r22.1.count),(i64 r22.1.tests)]),(sG g28 i64 v49)] h) (λv65=>[(193,(.bool v65))]) (λhm=>?_) ?_
                .refine gX ?_;refine br hm (λhm=>?_) λhm=>?_
                 .refine gX ?_;refine ix 1 hm λx67 hx67 hm=>?_;refine gH ?_;refine ldE (s:=1) (i:=0) O.i3 hx67 ?_;refine gH ?_;refine br hm (λhm=>?_) λhm=>?_
                  .refine gX ?_;refine atF hm λx68 hx68 hm=>?_;refine gH ?_;exact jx (neZ x68 (LQ v34)) hm O
                  .refine gX ?_;exact jx false hm O
                 .refine gX ?_;refine bf ?_;refine gH ?_;exact jx false hm O
                .clear hm;rintro v65 base h hm O;refine gX ?_;refine br hm (λhm=>?_) λhm=>?_
                 .refine gX ?_;exact fe hm O
                 .refine gX ?_;refine br hm (λhm=>?_) λhm=>?_
                  .refine gX ?_;refine ix 1 hm λx69 hx69 hm=>?_;refine gH ?_;refine ldE (s:=1) (i:=0) O.i3 hx69 ?_;refine gH ?_;refine aJ hm λhm=>?_;refine gH ?_;refine ix 1 hm λx70 hx70 hm=>?_;refine gH ?_;refine O.stE 1 (.tail _ (.tail _ (.tail _ (.head _)))) hx70 (x69+1) λh O=>?_;refine gH ?_;exact jx ((v49.set v51 (x69+1)),v59) hm O
                  .refine gX ?_;exact jx (v49,v59) hm O
           .clear hm;rintro⟨v53,v54⟩ base h hm O;refine gX ?_;refine aJ hm λhm=>?_;refine gH ?_;exact jx (v53,v54,(v51+1)) hm O
          .refine gX ?_;exact jx (v49,v50) hm O
         .clear hm;rintro⟨v46,v47⟩ base h hm O;refine gX ?_;refine br hm (λhm=>?_) λhm=>?_
          .refine gX ?_;exact fe hm O
          .refine gX ?_;refine aJ hm λhm=>?_;refine gH ?_;exact jx ((v46,(v34+1)),(some g38)) hm ⟨jo,O⟩
      .refine gX ?_;exact jx v33 hm (O.sel [2,3] (by decide))
     .clear hm;rintro v30 base h hm O
      conv=>whnf
      refine jn hm 237 [] (λs=>s) (λ_ h=>Own vars h0 [] h) (λ_=>[]) (λhm=>?_) ?_
      .refine gX ?_;refine lw 237 [6,10,12] (σ:=Nat) (λs=>s) (λv72 h=>Own vars h0 [(sC g23 [((ae 1 z64) r22.1.first),((ae 1 i64) r22.1.count),(i64 r22.1.tests)]),(sG g28 i64 v30)] h) (λv72=>[(23,(i64 v72))]) 0 hm O ?_;clear hm;rintro v72 nx73 base h hm O;refine gX ?_;refine br hm (λhm=>?_) λhm=>?_
       .apply Cs;conv=>whnf
        apply Cs;conv=>whnf
        apply Cs;conv=>whnf
        refine jn hm 237 [6,10,12,23] (λs=>s) (λv74 h=>Own vars h0 [(sC g23 [((ae 1 z64) r22.1.first),((ae 1 i64) r22.1.count),(i64 r22.1.tests)]),(sG g28 i64 v30)] h) (λv74=>[(235,(.bool v74))]) (λhm=>?_) ?_
        .refine gX ?_
         first|refine⟨.inr (.inr (bw rfl O.i0 rfl rfl)),?_⟩|refine⟨.inr (.inl (by kernel_rfl)),?_⟩
         refine gX ?_;refine atF hm λx76 hx76 hm=>?_;refine gH ?_;refine ix 1 hm λx77 hx77 hm=>?_;refine gH ?_;refine⟨_,bw rfl O.i1 rfl (eK (enc:=i64) (s:=1) (k:=0) (λ_=>rfl) hx77 rfl),?_⟩;refine gH ?_;refine br hm (λhm=>?_) λhm=>?_
         .refine gX ?_;exact jx true hm O
         .refine gX ?_;refine ix 1 hm λx78 hx78 hm=>?_;refine gH ?_;refine⟨_,bw rfl O.i1 rfl (eK (enc:=i64) (s:=1) (k:=0) (λ_=>rfl) hx78 rfl),?_⟩;refine gH ?_;refine br hm (λhm=>?_) λhm=>?_
          .refine gX ?_
           first|refine⟨.inr (.inr (bw rfl O.i0 rfl rfl)),?_⟩|refine⟨.inr (.inl (by kernel_rfl)),?_⟩
           refine gX ?_;refine atF hm λx79 hx79 hm=>?_;refine gH ?_;exact jx (neZ x79 (Mj 0)) hm O
          .refine gX ?_;exact jx false hm O
        .clear hm;rintro v74 base h hm O;refine gX ?_;refine br hm (λhm=>?_) λhm=>?_
         .refine gX ?_;exact fe hm O
         .refine gX ?_;refine aJ hm λhm=>?_;refine gH ?_;exact jx (v72+1) hm O
       .refine gX ?_;exact jx () hm (O.sel [] (by decide))
      .clear hm;rintro _ base h hm O;refine gX ?_;refine ca (jc hm O.has) λr80 hm=>?_;refine gX ?_;exact fe hm O
theorem CC{c:Circ}(C:Cir c){t:List Nat}(ht:t.length=c.nodes.length){k:Nat}{x:Node}(hx:c.nodes[k]?=some x)(hc:cw x.kind=true)(j:Nat){K:Bool->Prop}(h:K (pP c t k j)):dP c t k j K:=by
 have g:=C.good.node k x hx;have hfew:=g.few;unfold dP;refine fK (λl=>l=tJ t x.ins j) (λk1 hk1=>⟨x,hx,?_⟩) ?_
 .refine bM (λs=>s.2<=x.ins.length/\s.1=(tJ t x.ins j).take s.2) (λs=>x.ins.length-s.2) ?_ ⟨L1 _,rfl⟩;rintro⟨l,i⟩ nx ⟨hi,hl⟩ hnx;dsimp only at hi hl;refine⟨λq=>?_,λq=>hk1 _ ?_⟩
  .have q:i<x.ins.length:=aX.1 q;obtain⟨y,hy⟩:=aA q;have hyn:=g.ins y (LS hy)
   have hv:(tJ t x.ins j)[i]?=some (if i=j then gz (t.getD y 0) else t.getD y 0):=by
    unfold tJ;rw[Nz,hy];rfl
   have hll:l.length<=16:=by rw[hl,L8];omega
   refine⟨y,hy,_,kG ht hyn,cQ (a:=if i=j then gz (t.getD y 0) else t.getD y 0) (λG=>⟨λq=>qB ?_,λq=>?_⟩) ⟨by simp only[M8,N4];omega,by omega,hnx _ ⟨q,?_⟩ (by dsimp only;omega)⟩⟩
   .rw[if_pos (cJ.1 q)] at G;exact G
   .rw[if_neg (cF.1 q)] at G;exact G
   .dsimp only;rw[hl,lS hv]
  .have q:x.ins.length<=i:=bC.1 q;rw[hl,Mc (by unfold tJ;rw[RS];exact q)]
 .rintro _ rfl;refine⟨x,hx,evalNode C hx hc (by unfold tJ;rw[RS]) ⟨_,kG ht (ai hx),?_⟩⟩;unfold pP at h;rw[dk hx,bk hx] at h;exact h
theorem mW{α:Type}[DecidableEq α]:∀{l m:List α},l.Nodup->(∀x∈l,x∈m)->l.length<=m.length
 |[],_,_,_=>L1 _
 |a::l,m,hn,hs=>by
  obtain⟨h1,h2⟩:=Rj.1 hn;have ha:a∈m:=hs a (.head _);have:=mW (m:=m.erase a) h2 λx hx=>(Ru (λe=>h1 (by rw[<- e];exact hx))).2 (hs x (.tail _ hx));rw[QW ha] at this;have:=NO ha;rw[M8];omega
theorem jN{α:Type}{l:List α}{a:α}:(l++[a]).Nodup↔l.Nodup/\a ∉ l:=by
 rw[Oy];constructor
 .rintro⟨h1,_,h3⟩;exact⟨h1,λm=>h3 a m a (.head _) rfl⟩
 .rintro⟨h1,h2⟩;refine⟨h1,Pc _ _,λx hx y hy e=>h2 ?_⟩;rw[Mm] at hy;rw[<- hy,<- e];exact hx
structure Wk (c:Circ) (t:List Nat) (s:Nat) (out:List LnZ) (st:List Nat) (k j:Nat):Prop where
 nd:out.Nodup
 sub:∀l∈out,InW c t s l
 snd:st.Nodup
 stn:∀q∈st,(⟨q,Mj 0⟩:LnZ)∈out/\∀i:Nat,(⟨q,LQ i⟩:LnZ) ∉ out
 root:(⟨s,Mj 0⟩:LnZ)∈out
 par:∀m,(⟨m,Mj 0⟩:LnZ)∈out->m=s\/∃a b,(ct c a)[b]?=some m/\(⟨a,LQ b⟩:LnZ)∈out
 cls:∀q,(⟨q,Mj 0⟩:LnZ)∈out->q ∉ st->∀i x y,(q=k->i<j)->c.nodes[q]?=some x->cw x.kind=true->x.ins[i]?=some y->pP c t q i=true->(⟨q,LQ i⟩:LnZ)∈out/\(manyN c y=1->(⟨y,Mj 0⟩:LnZ)∈out)
 free:∀i,j<=i->(⟨k,LQ i⟩:LnZ) ∉ out
 kst:k ∉ st
 own:∀q i,(⟨q,LQ i⟩:LnZ)∈out->(⟨q,Mj 0⟩:LnZ)∈out
theorem Wk.start{c:Circ}{t:List Nat}{s:Nat}(hs:s<c.nodes.length):Wk c t s [⟨s,Mj 0⟩] [s] c.nodes.length 0 where
 nd:=Pc _ _
 sub l h:=by rw[Mm] at h;subst h;exact⟨.base,.inl rfl⟩
 snd:=Pc _ _
 stn q h:=by rw[Mm] at h;subst h;exact⟨.head _,λi m=>by rw[Mm] at m;cases m⟩
 root:=.head _
 par m h:=by rw[Mm] at h;cases h;exact .inl rfl
 cls q h1 h2:=by rw[Mm] at h1;cases h1;exact absurd (.head _) h2
 free i _ m:=by rw[Mm] at m;cases m
 kst m:=by rw[Mm] at m;omega
 own q i m:=by rw[Mm] at m;cases m
theorem Wk.enter{c:Circ}{t:List Nat}{s k:Nat}{out:List LnZ}{st:List Nat}(W:Wk c t s out (st++[k]) c.nodes.length 0):Wk c t s out st k 0 where
 nd:=W.nd
 sub:=W.sub
 snd:=(jN.1 W.snd).1
 stn q h:=W.stn q (MB.2 (.inl h))
 root:=W.root
 par:=W.par
 cls q h1 h2 i x y h3 hx:=W.cls q h1 (λm=>by
  rcases MB.1 m with m|m
  .exact h2 m
  .rw[Mm] at m
   exact absurd (h3 m) (Mu _)) i x y (λe=>by have:=ai hx;omega) hx
 free i _:=(W.stn k (MB.2 (.inr (.head _)))).2 i
 kst:=(jN.1 W.snd).2
 own:=W.own
theorem Wk.leave{c:Circ}{t:List Nat}{s k j:Nat}{out:List LnZ}{st:List Nat}(hs:s<c.nodes.length)(C:Cir c)(W:Wk c t s out st k j)(hk:∀x,c.nodes[k]?=some x->cw x.kind=true->x.ins.length<=j):Wk c t s out st c.nodes.length 0 where
 nd:=W.nd
 sub:=W.sub
 snd:=W.snd
 stn:=W.stn
 root:=W.root
 par:=W.par
 cls q h1 h2 i x y _ hx hc hi:=W.cls q h1 h2 i x y (λe=>by subst e;have:=hk x hx hc;have:=ai hi;omega) hx hc hi
 free i _ m:=by
  have:=(W.sub _ m).1.lt C hs;dsimp only at this;omega
 kst m:=by
  have:=(W.sub _ (W.stn _ m).1).1.lt C hs;dsimp only at this;omega
 own:=W.own
theorem Wk.KT{c:Circ}{t:List Nat}{s k j:Nat}{out:List LnZ}{st:List Nat}(W:Wk c t s out st k j)(h:pP c t k j=false):Wk c t s out st k (j+1) where
 nd:=W.nd
 sub:=W.sub
 snd:=W.snd
 stn:=W.stn
 root:=W.root
 par:=W.par
 cls q h1 h2 i x y h3 hx hc hi hg:=W.cls q h1 h2 i x y (λe=>by
  have:=h3 e;by_cases q:i=j
  .subst q;rw[e,h] at hg;cases hg
  .omega) hx hc hi hg
 free i hi:=W.free i (by omega)
 kst:=W.kst
 own:=W.own
theorem Wk.Lg{c:Circ}{t:List Nat}{s k j y:Nat}{x:Node}{out:List LnZ}{st:List Nat}(W:Wk c t s out st k j)(hx:c.nodes[k]?=some x)(hc:cw x.kind=true)(hj:x.ins[j]?=some y)(hk:(⟨k,Mj 0⟩:LnZ)∈out)(h:pP c t k j=true)(hm:manyN c y≠1):Wk c t s (out++[⟨k,LQ j⟩]) st k (j+1) where
 nd:=jN.2 ⟨W.nd,W.free j (LV _)⟩
 sub l m:=by
  rcases aT.1 m with m|rfl
  .exact W.sub l m
  .exact⟨(W.sub _ hk).1,.inr ⟨j,x,rfl,hx,hc,ai hj,h⟩⟩
 snd:=W.snd
 stn q m:=by
  obtain⟨h1,h2⟩:=W.stn q m;refine⟨aT.2 (.inl h1),λi m2=>?_⟩
  rcases aT.1 m2 with m2|e
  .exact h2 i m2
  .cases e;exact W.kst m
 root:=aT.2 (.inl W.root)
 par m hm:=by
  rcases aT.1 hm with hm|e
  .rcases W.par m hm with e|⟨a,b,h1,h2⟩
   .exact .inl e
   .exact .inr ⟨a,b,h1,aT.2 (.inl h2)⟩
  .cases e
 cls q h1 h2 i x' y' h3 hx' hc' hi hg:=by
  have h1:(⟨q,Mj 0⟩:LnZ)∈out:=by
   rcases aT.1 h1 with m|e
   .exact m
   .cases e
  by_cases e:q=k/\i=j
  .obtain⟨rfl,rfl⟩:=e;rw[hx] at hx';cases hx';rw[hj] at hi;cases hi;exact⟨aT.2 (.inr rfl),λe=>absurd e hm⟩
  .obtain⟨a,b⟩:=W.cls q h1 h2 i x' y' (λe2=>by have:=h3 e2;have:i≠j:=λe3=>e ⟨e2,e3⟩;omega) hx' hc' hi hg;exact⟨aT.2 (.inl a),λe=>aT.2 (.inl (b e))⟩
 free i hi m:=by
  rcases aT.1 m with m|e
  .exact W.free i (by omega) m
  .have:=congrArg LnZ.pin e;have:i=j:=QX this;omega
 kst:=W.kst
 own q i m:=by
  rcases aT.1 m with m|e
  .exact aT.2 (.inl (W.own q i m))
  .have:=congrArg LnZ.node e;dsimp only at this;subst this;exact aT.2 (.inl hk)
theorem Wk.KY{c:Circ}(C:Cir c){t:List Nat}{s k j y:Nat}{x:Node}{out:List LnZ}{st:List Nat}(W:Wk c t s out st k j)(hx:c.nodes[k]?=some x)(hc:cw x.kind=true)(hj:x.ins[j]?=some y)(hk:(⟨k,Mj 0⟩:LnZ)∈out)(h:pP c t k j=true)(hm:manyN c y=1):Wk c t s ((out++[⟨k,LQ j⟩])++[⟨y,Mj 0⟩]) (st++[y]) k (j+1):=by
 have o:=wT hm (by rw[bk hx];exact hj);have hlt:=nQ C hx hc (LS hj);have hr:=(W.sub _ hk).1;have hle:=hr.le C;dsimp only at hle;have hpin:(⟨k,LQ j⟩:LnZ) ∉ out:=W.free j (LV _)
 have hnew:(⟨y,Mj 0⟩:LnZ) ∉ out:=by
  intro m
  rcases W.par y m with e|⟨a,b,h1,h2⟩
  .omega
  .obtain⟨rfl,rfl⟩:=o.only a b h1;exact hpin h2
 have up:∀{l},l∈out->l∈(out++[(⟨k,LQ j⟩:LnZ)])++[⟨y,Mj 0⟩]:=λm=>aT.2 (.inl (aT.2 (.inl m)))
 have net:∀q,(⟨q,Mj 0⟩:LnZ)∈(out++[(⟨k,LQ j⟩:LnZ)])++[⟨y,Mj 0⟩]->(⟨q,Mj 0⟩:LnZ)∈out\/q=y:=by
  intro q m
  rcases aT.1 m with m|e
  .rcases aT.1 m with m|e
   .exact .inl m
   .cases e
  .cases e;exact .inr rfl
 have pin:∀q i,(⟨q,LQ i⟩:LnZ)∈(out++[(⟨k,LQ j⟩:LnZ)])++[⟨y,Mj 0⟩]->(⟨q,LQ i⟩:LnZ)∈out\/(q=k/\i=j):=by
  intro q i m
  rcases aT.1 m with m|e
  .rcases aT.1 m with m|e
   .exact .inl m
   .cases e;exact .inr ⟨rfl,rfl⟩
  .cases e
 refine⟨jN.2 ⟨jN.2 ⟨W.nd,hpin⟩,λm=>?_⟩,λl m=>?_,jN.2 ⟨W.snd,λm=>hnew (W.stn y m).1⟩,λq m=>?_,up W.root,λm hm'=>?_,λq h1 h2 i x' y' h3 hx' hc' hi hg=>?_,λi hi m=>?_,λm=>?_,λq i m=>?_⟩
 .rcases aT.1 m with m|e
  .exact hnew m
  .cases e
 .rcases aT.1 m with m|rfl
  .rcases aT.1 m with m|rfl
   .exact W.sub l m
   .exact⟨hr,.inr ⟨j,x,rfl,hx,hc,ai hj,h⟩⟩
  .exact⟨hr.step hx hc hj h hm,.inl rfl⟩
 .rcases aT.1 m with m|rfl
  .obtain⟨h1,h2⟩:=W.stn q m;refine⟨up h1,λi m2=>?_⟩
   rcases pin q i m2 with m2|⟨rfl,rfl⟩
   .exact h2 i m2
   .exact W.kst m
  .refine⟨aT.2 (.inr rfl),λi m2=>?_⟩
   rcases pin q i m2 with m2|⟨rfl,rfl⟩
   .exact hnew (W.own q i m2)
   .omega
 .rcases net m hm' with hm' | rfl
  .rcases W.par m hm' with e|⟨a,b,h1,h2⟩
   .exact .inl e
   .exact .inr ⟨a,b,h1,up h2⟩
  .exact .inr ⟨k,j,o.pin,aT.2 (.inl (aT.2 (.inr rfl)))⟩
 .have h1:(⟨q,Mj 0⟩:LnZ)∈out:=by
   rcases net q h1 with m|rfl
   .exact m
   .exact absurd (aT.2 (.inr rfl)) h2
  by_cases e:q=k/\i=j
  .obtain⟨rfl,rfl⟩:=e;rw[hx] at hx';cases hx';rw[hj] at hi;cases hi;exact⟨aT.2 (.inl (aT.2 (.inr rfl))),λ_=>aT.2 (.inr rfl)⟩
  .obtain⟨a,b⟩:=W.cls q h1 (λm=>h2 (aT.2 (.inl m))) i x' y' (λe2=>by have:=h3 e2;have:i≠j:=λe3=>e ⟨e2,e3⟩;omega) hx' hc' hi hg;exact⟨up a,λe=>up (b e)⟩
 .rcases pin k i m with m|⟨_,e⟩
  .exact W.free i (by omega) m
  .omega
 .rcases aT.1 m with m|e
  .exact W.kst m
  .omega
 .rcases pin q i m with m|⟨rfl,rfl⟩
  .exact up (W.own q i m)
  .exact up hk
theorem Wk.fin{c:Circ}{t:List Nat}{s:Nat}{out:List LnZ}(W:Wk c t s out [] c.nodes.length 0)(l:LnZ):l∈out↔InW c t s l:=by
 refine⟨W.sub l,λh=>?_⟩
 have key:∀m,Rch c t s m->(⟨m,Mj 0⟩:LnZ)∈out:=by
  intro m h
  induction h with
  |base=>exact W.root
  |step _ hx hc hj hg h1 ih=>exact (W.cls _ ih (by simp) _ _ _ (λe=>by have:=ai hx;omega) hx hc hj hg).2 h1
 obtain⟨h1,h2⟩:=h;obtain⟨a,b⟩:=l;dsimp only at h1 h2
 rcases h2 with rfl|⟨j,x,rfl,hx,hc,hj,hg⟩
 .exact key a h1
 .obtain⟨y,hy⟩:=aA hj;exact (W.cls a (key a h1) (by simp) j x y (λe=>by have:=ai hx;omega) hx hc hy hg).1
theorem Dc{c:Circ}(C:Cir c){t:List Nat}{s:Nat}{l:LnZ}(hs:s<c.nodes.length)(h:InW c t s l):l∈fH c:=by
 obtain⟨h1,h2⟩:=h;refine iq.2 ⟨h1.lt C hs,?_⟩
 rcases h2 with h2|⟨j,x,h2,hx,_,hj,_⟩
 .exact .inl h2
 .exact .inr ⟨j,h2,by rw[bk hx];exact hj⟩
theorem Jh{c:Circ}(P:Plz c){t:List Nat}(ht:t.length=c.nodes.length){s:Nat}(hs:s<c.nodes.length){K:List LnZ->Prop}(h:∀r,r.Nodup->(∀l,l∈r↔InW c t s l)->K r):eQ c t (xy c) s K:=by
 have C:=P.cir;have hlen:=C.len;have hL:=lL C;have bound:∀{out:List LnZ} {st:List Nat} {k j:Nat},Wk c t s out st k j->out.length<=272:=λW=>Mf (mW W.nd λl m=>Dc C hs (W.sub l m)) hL
 have stb:∀{out:List LnZ} {st:List Nat} {k j:Nat},Wk c t s out st k j->st.length<=16:=by
  intro out st k j W
  have:=mW (m:=Ma c.nodes.length) W.snd λq m=>Mx.2 (by
   have:=(W.sub _ (W.stn q m).1).1.lt C hs
   exact this)
  rw[M4] at this;omega
 unfold eQ;refine aB (λq=>Wk c t s q.1 q.2 c.nodes.length 0) (λq=>2*(272-q.1.length)+q.2.length) (λr=>r.Nodup/\∀l,l∈r↔InW c t s l) ?_ (Wk.start hs) (λr ⟨h1,h2⟩=>⟨NO ((h2 ⟨s,Mj 0⟩).2 ⟨.base,.inl rfl⟩),h r h1 h2⟩);rintro kk ⟨out,st⟩ nx W hnx hk;dsimp only at W hnx;refine⟨λq=>?_,λq=>hk _ ?_⟩
 .have q:0<st.length:=aX.1 q;have b2:=stb W;obtain⟨k,hkk⟩:=aA (show st.length-1<st.length by omega)
  have est:st=st.take (st.length-1)++[k]:=by
   rw[<- lS hkk,Mc (by omega)]
  have hko:(⟨k,Mj 0⟩:LnZ)∈out:=(W.stn k (LS hkk)).1;have hkn:k<c.nodes.length:=(W.sub _ hko).1.lt C hs;obtain⟨x,hx⟩:=aA hkn;have hfew:=(C.good.node k x hx).few
  have W0:Wk c t s out (st.take (st.length-1)) k 0:=by
   rw[est] at W;exact W.enter
  have hl0:(st.take (st.length-1)).length=st.length-1:=by rw[L8];omega
  refine⟨q,by omega,k,hkk,q,by omega,by omega,x,hx,λe=>?_,λe=>⟨x,hx,?_⟩⟩
  .refine hnx _ (W0.leave hs C λx' hx' hc=>?_) (by dsimp only;omega);rw[hx] at hx';cases hx';have:=cJ.1 e;have:=of_decide_eq_true hc;omega
  .have e:=cF.1 e;refine bM (λq=>q.2.2<=x.ins.length/\Wk c t s q.1 q.2.1 k q.2.2/\(⟨k,Mj 0⟩:LnZ)∈q.1/\2*out.length+q.2.1.length<=2*q.1.length+(st.length-1)) (λq=>x.ins.length-q.2.2) ?_ ⟨L1 _,W0,hko,by dsimp only;omega⟩;rintro⟨o2,s2,j⟩ nx2 ⟨hj,W2,hk2,hb⟩ hnx2;dsimp only at hj W2 hk2 hb;refine⟨λq=>?_,λq=>?_⟩
   .have q:j<x.ins.length:=aX.1 q;obtain⟨y,hy⟩:=aA q;have hc:=rZ P hx hy e;have b3:=bound W2;have b4:=stb W2;have hyn:=(C.good.node k x hx).ins y (LS hy);refine fK (λr=>Wk c t s r.1 r.2 k (j+1)/\(⟨k,Mj 0⟩:LnZ)∈r.1/\2*out.length+r.2.length<=2*r.1.length+(st.length-1)) (λk3 hk3=>⟨y,hy,CC C ht hx hc j ⟨λe1=>?_,λe1=>⟨?_,_,tI hyn,λe2=>⟨?_,?_,?_⟩,λe2=>?_⟩⟩⟩) ?_
    .have e1:pP c t k j=false:=by revert e1;cases pP c t k j <;> simp
     exact hk3 _ ⟨W2.KT e1,hk2,hb⟩
    .simp only[L6];omega
    .simp only[Ml,L6];omega
    .simp only[L6];omega
    .have e1:pP c t k j=true:=by revert e1;cases pP c t k j <;> simp
     refine hk3 _ ⟨W2.KY C hx hc hy hk2 e1 (cJ.1 e2),aT.2 (.inl (aT.2 (.inl hk2))),?_⟩;simp only[Ml,L6];omega
    .have e1:pP c t k j=true:=by revert e1;cases pP c t k j <;> simp
     refine hk3 _ ⟨W2.Lg hx hc hy hk2 e1 (cF.1 e2),aT.2 (.inl hk2),?_⟩;simp only[Ml,L6];omega
    .rintro⟨o3,s3⟩ ⟨W3,h3,h4⟩;exact⟨by omega,hnx2 _ ⟨q,W3,h3,h4⟩ (by dsimp only;omega)⟩
   .have q:x.ins.length<=j:=bC.1 q;have b3:=bound W2;refine hnx _ (W2.leave hs C λx' hx' hc=>?_) ?_
    .rw[hx] at hx';cases hx';exact q
    .dsimp only;omega
 .have q:st.length<=0:=bC.1 q;have:st=[]:=O7.1 (by omega);subst this;exact⟨W.nd,W.fin⟩
def sq(c:Circ)(m:Nat):List LnZ:=((bW c m).map Ln.toZ).filter λl=>kd c l.node==14
theorem Ap{c:Circ}(P:Plz c){p:Pat}(F:Full c p){K:List LnZ->Prop}(h:∀r,r.Nodup->(∀l,l∈r↔l∈fH c/\py c p l=true)->K r):cV c p K:=by
 have C:=P.cir;have hp:=F.pat;have hlen:=C.len;have hol:=C.good.outsLen;have V:=kJ C hp;have hL:=lL C;unfold cV;refine uZ C hp (BY C ?_);have inL:∀{m:Nat} {l:LnZ},m<c.nodes.length->wV c p m l->l∈fH c:=λhm hq=>((yz P F).1 ⟨_,hm,hq⟩).1;refine aB (λs=>s.2<=c.nodes.length/\s.1.Nodup/\∀l,l∈s.1 ↔ ∃m,m<s.2/\wV c p m l) (λs=>c.nodes.length-s.2) (λr=>r.Nodup/\∀l,l∈r↔l∈fH c/\py c p l=true) ?_ ⟨L1 _,List.nodup_nil,λl=>⟨(λm=>by cases m),λ⟨m,hm,_⟩=>absurd hm (Mu _)⟩⟩ (λr ⟨h1,h2⟩=>h r h1 h2);rintro k ⟨out,n⟩ nx ⟨hn,nd,mem⟩ hnx hk;dsimp only at hn nd mem;refine⟨λq=>?_,λq=>hk _ ⟨nd,λl=>?_⟩⟩
 .have q:n<c.nodes.length:=aX.1 q;have hfl:=ze C.good q
  have bout:∀{r:List LnZ},r.Nodup->(∀l∈r,∃m,m<n+1/\wV c p m l)->r.length<=272:=λh1 h2=>Mf (mW h1 λl hl=>by
    obtain⟨m,hm,hq⟩:=h2 l hl
    exact inL (by omega) hq) hL
  refine fK (λr=>r.Nodup/\∀l,l∈r ↔ ∃m,m<n+1/\wV c p m l) (λk1 hk1=>zQ (by omega) ?_) ?_
  ·
    refine cQ (a:=c.outs.contains n||(decide (1<manyN c n)&&ky c p n)) (λG=>?_) ?_
    · refine cQ (a := !c.outs.contains n&&decide (1<manyN c n)) (λG2=>⟨λe=>⟨_,tI q,?_⟩,λe=>?_⟩) ⟨λe=>⟨_,kG V.len q,qB ?_⟩,λe=>?_⟩
      .have e:c.outs.contains n=false:=KS e
       have:ltN 1 (manyN c n)=(!c.outs.contains n&&decide (1<manyN c n)):=by rw[bj,e];rfl
       rw[this];exact G2
      .have e:c.outs.contains n=true:=JY e
       have e2:(!c.outs.contains n&&decide (1<manyN c n))=false:=by rw[e];rfl
       rw[e2] at G2;exact G2
      .refine Cb C hp ⟨rfl,?_,rfl,q,show (-1:Int)<=Mj 0 by decide,?_⟩ (show Mj 0<0 by decide) ?_
       .have:=qb P F n
        dsimp only
        rw[kx this];omega
       .exact Int.lt_of_lt_of_le (show Mj 0<0 by decide) (MN _)
       .rw[L9,Ox] at e
        rw[e.1,e.2,Qg,OX] at G
        rw[zl]
        exact G
      .rw[Bool.and_eq_false_iff,Bool.not_eq_false'] at e
       rcases e with e|e
       .rw[e,Bool.true_or] at G;rw[e];exact G
       .rw[e,QL,RK] at G;exact G
    ·
      have es:iN c p n=((c.outs.contains n||(decide (1<manyN c n)&&ky c p n))||((bW c n).map Ln.toZ).any λl=>kd c l.node==14):=by
       unfold iN;rw[List.any_map];rfl
      have hdl:(((bW c n).map Ln.toZ).filter λl=>kd c l.node==14).length<=1000:=Mf (Nf _ _) (by rw[LZ];exact hfl)
      have hnd:(sq c n).Nodup:=by
       refine Ql _ (OU.2 ?_);refine (E0 c n).imp λ{a b} hab e=>hab ?_;obtain⟨a1,a2⟩:=a;obtain⟨b1,b2⟩:=b;unfold Ln.toZ at e
       cases e
       rfl
      have hdm:∀l,l∈sq c n↔(l∈(bW c n).map Ln.toZ/\kd c l.node=14):=λl=>by
       unfold sq;rw[Nc,beq_iff_eq]
      have nd2:(out++sq c n).Nodup:=by
       refine Oy.2 ⟨nd,hnd,λa ha b hb e=>?_⟩;subst e;obtain⟨m,hm,hq⟩:=(mem a).1 ha;have:=yb hq (.inl ((hdm a).1 hb));omega
      refine fK (λr=>r=(out++sq c n,iN c p n)) (λk2 hk2=>⟨_,BU q,?_⟩) ?_
      .have bo:=bout nd (λl hl=>by obtain⟨m,hm,hq⟩:=(mem l).1 hl;exact⟨m,by omega,hq⟩)
       refine bM (λs=>s.2.2<=(bW c n).length/\s.1=out++(((bW c n).map Ln.toZ).take s.2.2).filter (λl=>kd c l.node==14)/\s.2.1=((c.outs.contains n||(decide (1<manyN c n)&&ky c p n))||(((bW c n).map Ln.toZ).take s.2.2).any λl=>kd c l.node==14)) (λs=>(bW c n).length-s.2.2) ?_ ⟨L1 _,by simp,by simp⟩
       rintro⟨o2,b,j⟩ nx2 ⟨hj,ho2,hb⟩ hnx2
       dsimp only at hj ho2 hb
       refine⟨λq2=>?_,λq2=>?_⟩
       .have q2:j<(bW c n).length:=by have:=aX.1 q2;rwa [LZ] at this
        obtain⟨l0,hl0⟩:=aA q2
        have hl:((bW c n).map Ln.toZ)[j]?=some l0.toZ:=by rw[L7,hl0];rfl
        have hln:l0.node<c.nodes.length:=zW (LS hl0)
        obtain⟨y,hy⟩:=aA hln
        have hb2:((((bW c n).map Ln.toZ).take j).filter λl=>kd c l.node==14).length<=1000:=Mf (Nf _ _) (by rw[L8,LZ];omega)
        refine fK (λr=>r.1=out++(((bW c n).map Ln.toZ).take (j+1)).filter (λl=>kd c l.node==14)/\r.2=((c.outs.contains n||(decide (1<manyN c n)&&ky c p n))||(((bW c n).map Ln.toZ).take (j+1)).any λl=>kd c l.node==14)) (λk3 hk3=>⟨_,hl,y,hy,λe=>⟨?_,hk3 _ ⟨?_,?_⟩⟩,λe=>hk3 _ ⟨?_,?_⟩⟩) ?_
        .rw[ho2,Ml]
         simp only[L6]
         omega
        .have e:kd c l0.toZ.node=14:=by rw[<- cJ.1 e];exact dk hy
         dsimp only
         rw[ho2,lS hl,Ns,MC]
         congr 2
         rw[Pa,e]
         rfl
        .have e:kd c l0.toZ.node=14:=by rw[<- cJ.1 e];exact dk hy
         dsimp only
         rw[lS hl,Rk]
         simp[e]
        .have e:¬ kd c l0.toZ.node=14:=by rw[show kd c l0.toZ.node=y.kind from dk hy];exact cF.1 e
         dsimp only
         rw[ho2,lS hl,Ns]
         congr 1
         rw[Pa,if_neg (by simpa using e)]
         simp
        .have e:¬ kd c l0.toZ.node=14:=by rw[show kd c l0.toZ.node=y.kind from dk hy];exact cF.1 e
         have e':(kd c l0.toZ.node==14)=false:=by simpa using e
         dsimp only
         rw[hb,lS hl,Rk,List.any_cons,e',List.any_nil]
         simp only[RK]
        .rintro⟨o3,b3⟩ ⟨h3,h4⟩
         exact⟨by omega,hnx2 _ ⟨q2,h3,h4⟩ (by dsimp only;omega)⟩
       .have q2:(bW c n).length<=j:=by have:=bC.1 q2;rwa [LZ] at this
        rw[Mc (by rw[LZ];exact q2)] at ho2 hb
        refine hk2 _ ?_
        rw[ho2,hb,es]
        rfl
      .rintro _ rfl
       refine⟨λe=>Jh P V.len q λr hr1 hr2=>?_,λe=>hk1 _ ⟨nd2,λl=>?_⟩⟩
       .have e:iN c p n=true:=e
        have hrl:r.length<=272:=Mf (mW hr1 λl hl=>Dc C q ((hr2 l).1 hl)) hL
        have bo:=bout nd2 (λl hl=>by
         rcases MB.1 hl with hl|hl
         .obtain⟨m,hm,hq⟩:=(mem l).1 hl;exact⟨m,by omega,hq⟩
         .exact⟨n,by omega,.inl ((hdm l).1 hl)⟩)
        refine⟨by omega,hk1 _ ⟨Oy.2 ⟨nd2,hr1,λa ha b hb e2=>?_⟩,λl=>?_⟩⟩
        .subst e2
         have hb:=(hr2 a).1 hb
         rcases MB.1 ha with ha|ha
         .obtain⟨m,hm,hq⟩:=(mem a).1 ha
          have:=yb hq (.inr ⟨e,hb⟩)
          omega
         .have ha:=(hdm a).1 ha
          obtain⟨j,e3,_⟩:=pD.1 ha.1
          rcases hb.2 with e4|⟨j',x,_,hx,hc,_⟩
          .rw[e3] at e4;cases e4
          .have:=ha.2
           rw[dk hx] at this
           have:=of_decide_eq_true hc
           omega
        .rw[MB,MB,mem,hdm,hr2]
         constructor
         .rintro ((⟨m,hm,hq⟩|hq) | hq)
          .exact⟨m,by omega,hq⟩
          .exact⟨n,by omega,.inl hq⟩
          .exact⟨n,by omega,.inr ⟨e,hq⟩⟩
         .rintro⟨m,hm,hq⟩
          by_cases e2:m=n
          .subst e2
           rcases hq with hq|hq
           .exact .inl (.inr hq)
           .exact .inr hq.2
          .exact .inl (.inl ⟨m,by omega,hq⟩)
       .have e:iN c p n=false:=e
        rw[MB,mem,hdm]
        constructor
        .rintro (⟨m,hm,hq⟩|hq)
         .exact⟨m,by omega,hq⟩
         .exact⟨n,by omega,.inl hq⟩
        .rintro⟨m,hm,hq⟩
         by_cases e2:m=n
         .subst e2
          rcases hq with hq|hq
          .exact .inr hq
          .rw[e] at hq;cases hq.1
         .exact .inl ⟨m,by omega,hq⟩
  · rintro r ⟨h1,h2⟩;exact⟨by omega,hnx _ ⟨q,h1,h2⟩ (by dsimp only;omega)⟩
 .have q:c.nodes.length<=n:=bC.1 q
  have e:n=c.nodes.length:=by omega
  subst e;rw[mem];exact yz P F
def uk(x:CData):CData:=⟨x.inp,x.dffs,x.data0,x.data1,x.bus,false,x.port0,x.port1,x.port2,x.port3,x.gates,x.outs⟩
def Bp(x:CData):CData:=⟨x.inp,x.dffs,x.data0,x.data1,false,x.mem,x.port0,x.port1,x.port2,x.port3,x.gates,x.outs⟩
theorem HB{x:CData}(h:CB x):CB (uk x):=⟨h.inp,h.dffs,h.data0,h.data1,h.port0,h.port1,h.port2,h.port3,h.gates,h.outs⟩
theorem GD{x:CData}(h:CB x):CB (Bp x):=⟨h.inp,h.dffs,h.data0,h.data1,h.port0,h.port1,h.port2,h.port3,h.gates,h.outs⟩
theorem E2{x:CData}(hx:CB x)(hbus:x.bus=false){K:Circ->Prop}(h:K (iW (uk x))):cN x K:=Cp (HB hx) rfl hbus h
theorem FH{x:CData}(hm:x.mem=false)(hb:x.bus=false):Cir (iW x):=by
 refine⟨D7 hm hb,by rw[yv,hm];rfl,λi y h=>?_⟩
 rcases tG hm h with⟨_,rfl⟩|⟨_,_,d,_,rfl⟩|⟨h1,_,g,hg⟩
 .show (0:Nat)<=14;decide
 .show (14:Nat)<=14;decide
 .have hi:=ai h;have hn:(iW x).nodes.length=(dr x).length:=je _;have q:=vG x.bus g (ks:=((dr x).take i).map Node.kind) (by rw[LZ,L8];omega);rw[<- hg] at q;have:=q.kind;omega
theorem Dw(c:Circ)(k:Nat):ofN c [k]=(Ma c.nodes.length).filter λi=>decide (kd c i=k):=by
 unfold ofN kd;congr 1;funext i;rw[MW];simp
theorem CU{x:CData}(hx:CB x){K:Circ->Prop}(h:K (iW (uk (Bp x)))):dg x K:=E2 (GD hx) rfl h
theorem Gu{x:CData}(hm:x.mem=false)(hb:x.bus=false):Plz (iW x):=⟨FH hm hb,λi y h=>⟨(wE hm hb i y h).1,(wE hm hb i y h).2.1⟩⟩
theorem Fs(n k:Nat):n/2^k%2^1%256<=1:=by
 have:n/2^k%2^1<2:=NV _ (by decide);omega
theorem EY{c:Circ}(C:Cir c){n:Nat}{K:Pat->Prop}(h:∀p,Full c p->K p):cA c n K:=by
 have hlen:=C.len;unfold cA;have pl:∀(k i:Nat),((Ma i).filter λi=>decide (kd c i=k)).length<=i:=λk i=>zC
 have step:∀(k i:Nat) (l:List Nat) (v:Nat),l.length=((Ma i).filter λi=>decide (kd c i=k)).length->(kd c i=k->(l++[v]).length=((Ma (i+1)).filter λi=>decide (kd c i=k)).length)/\(¬ kd c i=k->l.length=((Ma (i+1)).filter λi=>decide (kd c i=k)).length):=by
  intro k i l v e;rw[JJ];refine⟨λq=>?_,λq=>?_⟩
  .rw[if_pos (decide_eq_true q)];simp[e]
  .rw[if_neg (by simpa using q),MZ];exact e
 refine aB (λs=>s.2.2<=c.nodes.length/\s.1.length=((Ma s.2.2).filter λi=>decide (kd c i=0)).length/\(∀v∈s.1,v<=1)/\s.2.1<=s.2.2) (λs=>c.nodes.length-s.2.2) (λs=>s.1.length=(ofN c [0]).length/\(∀v∈s.1,v<=1)/\s.2<=16) ?_ ⟨L1 _,rfl,(λv m=>by cases m),LV _⟩ ?_
 .rintro k ⟨l,b,i⟩ nx ⟨hi,hl,hv,hb⟩ hnx hk;dsimp only at hi hl hv hb;refine⟨λq=>?_,λq=>hk _ ?_⟩
  .have q:i<c.nodes.length:=aX.1 q;obtain⟨x,hx⟩:=aA q;have e:=dk hx;have:=pl 0 i;refine fK (λs=>s.1.length=((Ma (i+1)).filter λi=>decide (kd c i=0)).length/\(∀v∈s.1,v<=1)/\s.2<=i+1) (λk2 hk2=>⟨x,hx,λq2=>⟨by decide,by omega,?_,by omega,hk2 _ ⟨?_,?_,by dsimp only;omega⟩⟩,λq2=>hk2 _ ⟨?_,hv,by dsimp only;omega⟩⟩) ?_
   .simp only[L6];omega
   .exact (step 0 i l _ hl).1 (by rw[e];exact cJ.1 q2)
   .intro v m
    rcases aT.1 m with m|rfl
    .exact hv v m
    .exact Fs _ _
   .exact (step 0 i l 0 hl).2 (by rw[e];exact cF.1 q2)
   .rintro⟨l2,b2⟩ ⟨h1,h2,h3⟩;exact⟨by omega,hnx _ ⟨q,h1,h2,h3⟩ (by dsimp only;omega)⟩
  .have q:c.nodes.length<=i:=bC.1 q
   have e:i=c.nodes.length:=by omega
   subst e;exact⟨by rw[Dw];exact hl,hv,by dsimp only;omega⟩
 rintro⟨pi,b0⟩ ⟨p1,p2,p3⟩;dsimp only at p1 p2 p3;refine aB (λs=>s.2.2<=c.nodes.length/\s.1.length=((Ma s.2.2).filter λi=>decide (kd c i=14)).length/\(∀v∈s.1,v<=1)/\s.2.1<=16+s.2.2) (λs=>c.nodes.length-s.2.2) (λs=>s.length=(ofN c [14]).length/\∀v∈s,v<=1) ?_ ⟨L1 _,rfl,(λv m=>by cases m),p3⟩ ?_
 .rintro k ⟨l,b,i⟩ nx ⟨hi,hl,hv,hb⟩ hnx hk;dsimp only at hi hl hv hb;refine⟨λq=>?_,λq=>hk _ ?_⟩
  .have q:i<c.nodes.length:=aX.1 q;obtain⟨x,hx⟩:=aA q;have e:=dk hx;have:=pl 14 i;refine fK (λs=>s.1.length=((Ma (i+1)).filter λi=>decide (kd c i=14)).length/\(∀v∈s.1,v<=1)/\s.2<=16+(i+1)) (λk2 hk2=>⟨x,hx,λq2=>⟨by decide,by omega,?_,by omega,hk2 _ ⟨?_,?_,by dsimp only;omega⟩⟩,λq2=>hk2 _ ⟨?_,hv,by dsimp only;omega⟩⟩) ?_
   .simp only[L6];omega
   .exact (step 14 i l _ hl).1 (by rw[e];exact cJ.1 q2)
   .intro v m
    rcases aT.1 m with m|rfl
    .exact hv v m
    .exact Fs _ _
   .exact (step 14 i l 0 hl).2 (by rw[e];exact cF.1 q2)
   .rintro⟨l2,b2⟩ ⟨h1,h2,h3⟩;exact⟨by omega,hnx _ ⟨q,h1,h2,h3⟩ (by dsimp only;omega)⟩
  .have q:c.nodes.length<=i:=bC.1 q
   have e:i=c.nodes.length:=by omega
   subst e;exact⟨by rw[Dw];exact hl,hv⟩
 .rintro ps ⟨q1,q2⟩;exact h ⟨pi,ps⟩ ⟨⟨p1,q1,λv m=>Mf (p2 v m) (by decide),λv m=>Mf (q2 v m) (by decide)⟩,p2,q2⟩
theorem HU{c:Circ}(C:Cir c){l:LnZ}(hl:l∈fH c):lZ c l<c.nodes.length:=by
 obtain⟨h1,h2⟩:=iq.1 hl;unfold lZ
 rcases h2 with e|⟨j,e,hj⟩
 .rw[e,if_pos (by decide)];exact h1
 .have hneg:¬ l.pin<0:=by rw[e];exact Rg.2 (MN j)
  obtain⟨x,hx⟩:=aA h1;rw[bk hx] at hj;rw[if_neg hneg,e,bk hx];exact (C.good.node _ x hx).ins _ (iu hj)
theorem wN{c:Circ}{f:Flt}(F:StuckOk c f):f.line∈fH c:=by
 refine iq.2 ⟨F.node,?_⟩;have h1:=F.pin1;have h2:=F.pin2;simp only[L4] at h2;by_cases e:f.line.pin<0
 .left;omega
 .right;exact⟨f.line.pin.toNat,by simp only[L4];omega,by omega⟩
theorem F9{t:List Nat}{k j y:Nat}{x:Node}(hj:x.ins[j]?=some y):cO (ij k (LQ j) (t.getD y 0)) t k x=cO idP t k x:=by
 unfold cO;refine NY (by simp) λa b d=>?_;simp only[OB];unfold ij idP
 have ha:a<x.ins.length:=by simpa using b
 by_cases e:a=j
 .subst e;rw[LU ha] at hj
  cases hj
  rw[if_pos ⟨rfl,rfl⟩]
 .rw[if_neg];rintro⟨_,q⟩;exact e (QX q)
theorem I3{c:Circ}(P:Plz c){p:Pat}(F:Full c p){f:Flt}(S:StuckOk c f):jf c p f=(py c p f.line&&neN ((cn c p).getD (lZ c f.line) 0) f.value):=by
 have C:=P.cir;have hl:=wN S;have hv:=S.value;obtain⟨h1,h2⟩:=iq.1 hl;obtain⟨mo,⟨a,b⟩,v,ot⟩:=f;have e1:mo=0:=S.model;have e2:ot=0:=S.other;subst e1 e2;dsimp only at h1 h2 hv ⊢;have hb:=qb P F (lZ c ⟨a,b⟩);by_cases e:(cn c p).getD (lZ c ⟨a,b⟩) 0=v
 .rw[qS.2 e,Bool.and_false]
  rcases h2 with rfl|⟨j,rfl,hj⟩
  .rw[zl];rw[Ea] at e;rw[<- e];exact th C F.pat
  .obtain⟨x,hx⟩:=aA h1;rw[bk hx] at hj;obtain⟨y,hy⟩:=aA hj
   have:lZ c ⟨a,LQ j⟩=y:=by rw[yC,bk hx];exact getD_eq hy
   rw[this] at e;rw[Dd,<- e];by_cases hk:x.kind=14
   .obtain⟨z,hz,_,hd,hlen⟩:=nB C (c:=c) (s:=a) (bK.2 ⟨h1,by rw[dk hx];exact hk⟩);rw[hx] at hz;cases hz
    have j0:j=0:=by omega
    subst j0
    have:dOf c a=y:=by rw[bk hx,hy] at hd;exact (Ni hd).symm
    rw[qK C F.pat ((kJ C F.pat).le y) hx hk,this,decide_eq_false (jY _)]
   .have hc:=rZ P hx hy hk;rw[Bs C F.pat ((kJ C F.pat).le y) hx hc,F9 hy]
    have:fN x.kind (cO idP (cn c p) a x)=(cn c p).getD a 0:=by
     rw[(kJ C F.pat).val a x hx,eJ hc];rfl
    rw[this];exact th C F.pat
 .rw[dm.2 e,PG]
  have:v=gz ((cn c p).getD (lZ c ⟨a,b⟩) 0):=by rw[kx hb];omega
  unfold py;rw[this]
theorem BF{c:Circ}(P:Plz c){p:Pat}(F:Full c p){l:List Flt}(hl:l.length<=1000)(hf:∀f∈l,StuckOk c f){K:List Bool×Nat->Prop}(h:K (l.map (jf c p),0)):cW c l p K:=by
 have C:=P.cir;have V:=kJ C F.pat;have hL:=lL C;unfold cW;refine Eg P ⟨(λq=>absurd rfl (dm.1 q)),λ_=>⟨λq=>absurd (aX.1 q) (by omega),λ_=>?_⟩⟩;refine aB (λi=>i<=l.length) (λi=>l.length-i) (λ_=>True) ?_ (L1 _) ?_
 .intro k i nx hi hnx hk;refine⟨λq=>?_,λq=>hk () trivial⟩;have q:i<l.length:=aX.1 q;obtain⟨f,hg⟩:=aA q;have S:=hf f (LS hg);exact⟨f,hg,pK C S ⟨(λq=>absurd rfl (dm.1 q)),λ_=>⟨λq=>absurd S.model (dm.1 q),λ_=>⟨by omega,hnx _ q (by omega)⟩⟩⟩⟩
 intro _ _;refine HJ C F ⟨(λq=>absurd rfl (dm.1 q)),λ_=>uZ C F.pat ?_⟩;refine fK (λm:List (LnZ×Bool)=>∀x,(bY m x).getD false=decide (x∈fH c/\py c p x=true)) (λk hk=>Ap P F λr hr1 hr2=>EL ?_ λm hm=>hk m λx=>?_) ?_
 .have:=mW hr1 λl hl=>((hr2 l).1 hl).1;omega
 .rw[hm];exact decide_eq_decide.2 (hr2 x)
 intro m hm;refine⟨by omega,by omega,?_⟩;refine aB (λs=>s.2<=l.length/\s.1.length=l.length/\∀j f,j<s.2->l[j]?=some f->s.1[j]?=some (jf c p f)) (λs=>l.length-s.2) (λr=>r=l.map (jf c p)) ?_ ⟨L1 _,by simp,λj f hj=>absurd hj (Mu _)⟩ ?_
 .rintro k ⟨o,i⟩ nx ⟨hi,ho,hv⟩ hnx hk;dsimp only at hi ho hv;refine⟨λq=>?_,λq=>hk _ ?_⟩
  .have q:i<l.length:=aX.1 q;obtain⟨f,hg⟩:=aA q;have S:=hf f (LS hg);have hline:=wN S;have hn:=HU C hline;obtain⟨w,hw⟩:=aA (show i<o.length by omega);have e:=I3 P F S;refine fK (λr=>r=o.set i (jf c p f)) (λk2 hk2=>⟨f,hg,?_⟩) ?_
   .refine cQ (a:=lZ c f.line) (λG=>?_) ⟨λq2=>⟨_,kG V.len hn,q,w,hw,hk2 _ ?_⟩,λq2=>⟨q,w,hw,hk2 _ ?_⟩⟩
    .obtain⟨h1,h2⟩:=iq.1 hline;unfold lZ at G
     rcases h2 with e2|⟨j,e2,hj⟩
     .rw[e2,if_pos (by decide)] at G;exact⟨(λq=>by rw[e2] at q;cases q),λ_=>G⟩
     .have hneg:¬ f.line.pin<0:=by rw[e2];exact Rg.2 (MN j)
      rw[if_neg hneg] at G;obtain⟨x,hx⟩:=aA h1;rw[bk hx] at hj G;refine⟨λ_=>⟨x,hx,j,e2,_,getD_some hj,?_⟩,λq=>?_⟩
      .rw[e2] at G;exact G
      .have:=Du.1 (JY q);exact absurd this hneg
    .rw[hm,decide_eq_true_eq] at q2;rw[e,q2.2,OX]
    .rw[hm,decide_eq_false_iff_not] at q2
     have:py c p f.line=false:=by
      rw[P7];exact λh=>q2 ⟨hline,h⟩
     rw[e,this,QL]
   .rintro _ rfl;refine⟨by omega,hnx _ ⟨q,by simp[ho],λj g hj hgj=>?_⟩ (by dsimp only;omega)⟩;dsimp only;by_cases e2:j=i
    .subst e2;rw[hg] at hgj;cases hgj;rw[OD (by omega)]
    .rw[Pv (λh=>e2 h.symm)];exact hv j g (by dsimp only at hj;omega) hgj
  .have q:l.length<=i:=bC.1 q;refine NY (by simp[ho]) λj a b=>?_
   have hj:j<l.length:=by omega
   have:=hv j _ (by omega) (LU hj);rw[LU a] at this;rw[List.getElem_map];exact Ni this
 .rintro _ rfl;exact⟨by simp,h⟩
theorem xQ{c:Circ}{f:Flt}(h:f∈we c):StuckOk c f:=by
 unfold we nN at h;obtain⟨x,hx,m⟩:=N8.1 h;simp only[MF,Np,or_false] at m
 rcases m with rfl|rfl
 .exact wS hx (by decide)
 .exact wS hx (by decide)
theorem AJ{c:Circ}(h:0<c.nodes.length):0<(we c).length:=by
 refine NO (a:=⟨0,⟨0,Mj 0⟩,0,0⟩) ?_;unfold we nN;exact N8.2 ⟨⟨0,Mj 0⟩,iq.2 ⟨h,.inl rfl⟩,List.mem_cons_self ..⟩
theorem Bm(x:CData):0<(iW x).nodes.length:=by
 have hn:(iW x).nodes.length=(dr x).length:=je _;rw[hn];exact Gb _
theorem Is(P:Nat->Bool){n j:Nat}(h:j<n):(P j=true->((Ma n).filter P)[((Ma j).filter P).length]?=some j)/\(P j=false->∀x,((Ma n).filter P)[((Ma j).filter P).length]?=some x->j<x):=by
 obtain⟨b,rfl⟩:∃b,n=j+(b+1):=⟨n-j-1,by omega⟩;rw[List.range_add,Ns]
 have e:∀l:List Nat,((Ma j).filter P++l)[((Ma j).filter P).length]?=l[0]?:=λl=>by rw[Mg (LV _),Nx]
 rw[e];constructor
 .intro q;rw[Rh,MM,List.filter_cons_of_pos (by exact q)];rfl
 .intro q x hx;rw[Rh,MM,List.filter_cons_of_neg (by rw[OP,q];decide)] at hx;have:=LS hx;obtain⟨m,_⟩:=Nc.1 this;rw[NT] at m;obtain⟨y,_,rfl⟩:=MP.1 m;simp only[Function.comp];omega
theorem Cr{hit:Nat->Bool}{most k:Nat}(h:k<most):(recAt hit most (k+1)).2=(recAt hit most k).2+(if hit k=true then 1 else 0):=by
 have:=rI hit most k;rw[ec];by_cases c:hit k=true
 .rw[if_pos ⟨by omega,c⟩,if_pos c]
 .rw[if_neg (λq=>c q.2),if_neg c];rfl
theorem Fp{hit:Nat->Bool}{most k n:Nat}(hm:0<most)(hk:k<n)(h:hit k=true)(h0:(recAt hit most k).2=0):(recAt hit most n).1=LQ k:=by
 rcases nP (hit:=hit) hm k with⟨_,_,b⟩|⟨q,_⟩
 .rcases nP (hit:=hit) hm n with⟨_,_,b2⟩|⟨_,j,b1,b2,b3,b4⟩
  .rw[b2 k hk] at h;cases h
  .rw[b3]
   have:¬ j<k:=λq=>by rw[b j q] at b2;cases b2
   have:¬ k<j:=λq=>by rw[b4 k q] at h;cases h
   have:j=k:=by omega
   rw[this]
 .omega
def sN(c:Circ)(ts:List Pat)(f:Flt)(k:Nat):Nat:=(recAt (zT c ts f) (ts.length+1) k).2
theorem xG{x:CData}(hx:CB x){zs:List Nat}{K:Bool->Prop}(hkn:∀K:Bool->Prop,K true->bO K)(h:K true):cC x zs K:=by
 unfold cC;refine⟨λ_=>hkn _ h,λq=>?_⟩;have hz:zs.length<=12:=bC.1 q;refine CU hx ?_;have P:Plz (iW (uk (Bp x))):=Gu rfl rfl;have hpos:=Bm (uk (Bp x));generalize iW (uk (Bp x))=c at P hpos ⊢;have C:=P.cir;refine DC C ?_;have hl0:=AJ hpos;have hl1:=FK C;have hok:∀f∈we c,StuckOk c f:=λf m=>xQ m;generalize we c=l at hl0 hl1 hok ⊢;dsimp only;refine aB (λs=>s.2<=zs.length/\s.1.length=s.2/\∀p∈s.1,Full c p) (λs=>zs.length-s.2) (λr=>r.length<=12/\∀p∈r,Full c p) ?_ ⟨L1 _,rfl,λp m=>by cases m⟩ ?_
 .rintro k ⟨r,i⟩ nx ⟨h1,h2,h3⟩ hnx hk;dsimp only at h1 h2 h3;refine⟨λq=>?_,λq=>hk _ ⟨by dsimp only;omega,h3⟩⟩;have q:=aX.1 q;obtain⟨z,hz2⟩:=aA q;refine⟨z,hz2,EY C λp F=>⟨by dsimp only;rw[L6];omega,by dsimp only;omega,hnx _ ⟨q,by simp[h2],λp2 m=>?_⟩ (by dsimp only;omega)⟩⟩
  rcases MB.1 m with m|m
  .exact h3 p2 m
  .rw[Mm.1 m];exact F
 rintro ts ⟨ht,hF⟩;refine Ep C hok (λp m=>(hF p m).pat) hl0 (by omega) (by omega) ?_;have lF:(cB c l ts (ts.length+1)).first.length=l.length:=LZ ..;have lC:(cB c l ts (ts.length+1)).count.length=l.length:=LZ ..
 have gF:∀(j:Nat) (f:Flt),l[j]?=some f->(cB c l ts (ts.length+1)).first[j]?=some (recAt (zT c ts f) (ts.length+1) ts.length).1:=λj f e=>by
  show (l.map _)[j]?=_
  rw[L7,e];rfl
 have gC:∀(j:Nat) (f:Flt),l[j]?=some f->(cB c l ts (ts.length+1)).count[j]?=some (sN c ts f ts.length):=λj f e=>by
  show (l.map _)[j]?=_
  rw[L7,e];rfl
 generalize cB c l ts (ts.length+1)=Y at lF lC gF gC ⊢;refine cQ (a:=false) (λG=>⟨λq=>absurd rfl (dm.1 q),λ_=>⟨λq=>absurd rfl (dm.1 q),λ_=>⟨λq=>absurd lF (dm.1 q),λ_=>?_⟩⟩⟩) ⟨(λq=>by cases q),λ_=>?_⟩
 .dsimp only;rw[qS.2 lC];exact G
 refine⟨by omega,by omega,?_⟩;refine aB (λs=>s.2<=ts.length/\s.1=l.map λf=>sN c ts f s.2) (λs=>ts.length-s.2) (λr=>r=l.map λf=>sN c ts f ts.length) ?_ ⟨L1 _,?_⟩ ?_;rotate_left
 .dsimp only;refine MH λi=>?_;rw[L7,Mt];by_cases ci:i<l.length
  .rw[if_pos ci,LU ci];rfl
  .rw[if_neg ci,Mk (by omega)];rfl
 .rintro cs rfl;refine aB (λi=>i<=l.length) (λi=>l.length-i) (λ_=>True) ?_ (L1 _) (λ_ _=>hkn _ h);intro k i nx hi hnx hk;refine⟨λq=>?_,λq=>hk () trivial⟩;have q:i<l.length:=aX.1 q;obtain⟨f,hf⟩:=aA q
  have hg:(l.map λf=>sN c ts f ts.length)[i]?=some (sN c ts f ts.length):=by rw[L7,hf];rfl
  refine cQ (a:=false) (λG=>⟨_,gC i f hf,q,_,hg,λq2=>absurd rfl (dm.1 q2),λ_=>⟨q,_,hg,λq2=>⟨_,gF i f hf,?_⟩,λ_=>G⟩⟩) ⟨(λq=>by cases q),λ_=>⟨by omega,hnx _ q (by omega)⟩⟩;have q2:sN c ts f ts.length=0:=cJ.1 q2
  rcases nP (hit:=zT c ts f) (most:=ts.length+1) (Qw _) ts.length with⟨_,b,_⟩|⟨b,_⟩
  .rw[b];have:neZ (-1) (Mj 0)=false:=rfl;rw[this];exact G
  .unfold sN at q2;omega
 rintro kA ⟨cs,i⟩ nx ⟨hi,hcs⟩ hnx hk;dsimp only at hi hcs;subst hcs;refine⟨λq=>?_,λq=>hk _ ?_⟩;rotate_left
 .have q:ts.length<=i:=bC.1 q;dsimp only;rw[show i=ts.length by omega]
 have q:i<ts.length:=aX.1 q;obtain⟨p,hp⟩:=aA q;have F:=hF p (LS hp)
 have hhit:∀f,zT c ts f i=jf c p f:=λf=>by unfold zT;rw[List.getD,hp];rfl
 refine⟨p,hp,EE C hok F.pat (by omega) ⟨p,hp,P,F,by omega,hok,p,hp,BF P F (by omega) hok ?_⟩⟩;dsimp only;refine cQ (a:=false) (λG=>⟨λq=>absurd rfl (dm.1 q),λ_=>⟨λq=>absurd rfl (dm.1 q),λ_=>⟨λq=>absurd rfl (dm.1 q),λ_=>⟨λq=>absurd (LZ ..) (dm.1 q),λ_=>?_⟩⟩⟩⟩) ⟨(λq=>by cases q),λ_=>?_⟩
 .rw[qS.2 (LZ ..)];exact G
 obtain⟨Q,hQ⟩:∃Q:Nat->Bool,Q=λi=>match l[i]? with|some f=>jf c p f|none=>false:=⟨_,rfl⟩
 have hQf:∀(j:Nat) (f:Flt),l[j]?=some f->Q j=jf c p f:=λj f e=>by rw[hQ];dsimp only;rw[e]
 have hdl:FA c l p=(Ma l.length).filter Q:=by rw[hQ];rfl
 rw[hdl];refine aB (λs=>s.2.2<=l.length/\s.2.1=((Ma s.2.2).filter Q).length/\s.1.length=l.length/\∀(j:Nat) (f:Flt),l[j]?=some f->s.1[j]?=some (sN c ts f (if j<s.2.2 then i+1 else i))) (λs=>l.length-s.2.2) (λs=>s.1=(l.map λf=>sN c ts f (i+1))/\s.2=((Ma l.length).filter Q).length) ?_ ⟨L1 _,rfl,LZ ..,λj f e=>by rw[L7,e];rfl⟩ ?_
 .rintro kB ⟨cs,n,j⟩ nx2 ⟨hj,hn,hlen,hcs⟩ hnx2 hk2;dsimp only at hj hn hlen hcs;refine⟨λq2=>?_,λq2=>hk2 _ ⟨?_,?_⟩⟩;rotate_left
  .have q2:l.length<=j:=bC.1 q2;dsimp only;refine MH λm=>?_;rw[L7]
   cases e:l[m]? with
   |none=>exact Mk (by rw[hlen];exact PA.1 e)
   |some f=>rw[hcs m f e,if_pos (by have:=ai e;omega)];rfl
  .have q2:l.length<=j:=bC.1 q2;dsimp only;rw[hn,show j=l.length by omega]
  have q2:j<l.length:=aX.1 q2;obtain⟨f,hf⟩:=aA q2;obtain⟨nx1,nx0⟩:=Is Q q2;have hb:=hQf j f hf;have hcj:=hcs j f hf;rw[if_neg (Ot j)] at hcj
  have hnj:n<=j:=by rw[hn];exact Mf (Nf ..) (by rw[M4];exact LV _)
  have hci:sN c ts f i<=i:=rI _ _ _
  have hstep:sN c ts f (i+1)=sN c ts f i+(if jf c p f=true then 1 else 0):=by
   have:=Cr (hit:=zT c ts f) (most:=ts.length+1) (k:=i) (by omega);rw[hhit] at this;exact this
  refine fK (λs=>s.2=((Ma (j+1)).filter Q).length/\s.1.length=l.length/\∀(m:Nat) (f:Flt),l[m]?=some f->s.1[m]?=some (sN c ts f (if m<j+1 then i+1 else i))) (λkC hkC=>?_) ?_;rotate_left
  .rintro⟨cs2,n2⟩ ⟨a1,a2,a3⟩;exact⟨by dsimp only;omega,hnx2 _ ⟨q2,a1,a2,a3⟩ (by dsimp only;omega)⟩
  rw[<- hn] at nx1 nx0
  have hlist:(l.map (jf c p))[j]?=some (Q j):=by rw[L7,hf,hb];rfl
  dsimp only;refine cQ (a:=Q j) (λG=>⟨λq3=>?_,λq3=>?_⟩) ?_
  .obtain⟨y,hy⟩:=aA (aX.1 q3);refine⟨y,hy,?_⟩
   cases e:Q j with
   |true =>
    have:=nx1 e;rw[hy] at this;rw[Ni this,cJ.2 rfl];rw[e] at G;exact G
   |false =>
    have:=nx0 e y hy;rw[cF.2 (by omega)];rw[e] at G;exact G
  .have q3:=bC.1 q3
   cases e:Q j with
   |true =>
    have:=ai (nx1 e);omega
   |false=>rw[e] at G;exact G
  have hfl:((Ma (j+1)).filter Q).length=n+(if Q j=true then 1 else 0):=by
   rw[N6,Ns,Ml,<- hn]
   cases e:Q j <;> simp[e]
  refine cQ (a:=n+(if Q j=true then 1 else 0)) (λG=>⟨λq3=>⟨by omega,?_⟩,λq3=>?_⟩) ?_
  .rw[if_pos q3] at G;exact G
  .rw[if_neg (by rw[q3];decide)] at G;exact G
  refine cQ (a:=false) (λG=>⟨_,hlist,λq3=>?_,λ_=>⟨_,hlist,?_⟩⟩) ⟨(λq=>by cases q),λ_=>?_⟩
  .rw[bne_self_eq_false] at q3;cases q3
  .rw[bne_self_eq_false];exact G
  refine cQ (a:=false) (λG=>⟨λq3=>⟨q2,_,hcj,λq4=>⟨_,gF j f hf,?_⟩,λ_=>G⟩,λ_=>G⟩) ⟨(λq=>by cases q),λ_=>⟨λq3=>⟨q2,_,hcj,by omega,q2,_,hcj,hkC _ ⟨hfl.symm,by rw[Nj];exact hlen,λm g hg=>?_⟩⟩,λq3=>hkC _ ⟨hfl.symm,hlen,λm g hg=>?_⟩⟩⟩
  .rw[Fp (Qw _) q (by rw[hhit,<- hb];exact q3) (cJ.1 q4),Ka]
   have e2:(!decide (LQ i=LQ i))=false:=by simp
   rw[e2];exact G
  .dsimp only;rw[Mp];by_cases e:j=m
   .subst e;rw[hf] at hg;cases hg;rw[if_pos rfl,if_pos (by omega),if_pos (by omega),hstep,<- hb,if_pos q3]
   .rw[if_neg e,hcs m g hg];by_cases e2:m<j
    .rw[if_pos e2,if_pos (by omega)]
    .rw[if_neg e2,if_neg (by omega)]
  .dsimp only;rw[hcs m g hg];by_cases e:m=j
   .subst e;rw[hf] at hg;cases hg;rw[if_neg (Ot _),if_pos (ML _),hstep,<- hb,if_neg (by rw[q3];decide)];rfl
   .by_cases e2:m<j
    .rw[if_pos e2,if_pos (by omega)]
    .rw[if_neg e2,if_neg (by omega)]
 rintro⟨cs,n⟩ ⟨rfl,rfl⟩;exact⟨λq3=>absurd rfl (dm.1 q3),λ_=>⟨by omega,hnx _ ⟨q,rfl⟩ (by dsimp only;omega)⟩⟩
theorem Hm{l:List Int}(w:(Sh.slice rT).wf l):∃m:List Nat,(Sh.slice rT).bI l=[ae 1 n64 m]:=by
 obtain⟨_,w2⟩:=w
 obtain⟨m,_,h2,_⟩:=vh (f:=λx=>elV rT.one (rT.bI x)) (g:=n64) (p:=λ_=>True) l λx hx=>by
  obtain⟨n,_,rfl⟩:=Kv (w2 x hx);exact⟨n,trivial,rfl⟩
 refine⟨m,?_⟩
 show [FL 1 (l.map λx=>elV rT.one (rT.bI x))]=_
 rw[h2];rfl
def iw:List (Sh×Bool):=[(shC,true),(.slice rT,false)]
theorem uM(x:Ev iw)(w:wfL iw x):FnV Tryz.prog NG vars 3 ⟨Hr iw x⟩ (.bool true):=by
 obtain⟨c,z,u⟩:=x;obtain⟨wc,wz,_⟩:=w;obtain⟨y,hy,e1⟩:=Lm wc;obtain⟨q,e2⟩:=Hm wz
 have e:Hr iw (c,z,u)=[Ac y,ae 1 n64 q]:=by
  show [elV (!true) (shC.bI c),elV (!false) ((Sh.slice rT).bI z)]=_
  rw[e1,e2];rfl
 rw[e];exact FnV.uV (enc:=L0) (r:=true) (aq.flat rfl) λh hB=>kE (K:=λr=>r=true) (xG hy (λK h=>EB h) rfl) hB
end Go.Proofs.YtglgdkineobbeaaGreatDoor
