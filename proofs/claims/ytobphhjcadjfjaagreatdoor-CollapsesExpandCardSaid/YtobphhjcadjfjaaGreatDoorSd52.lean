/-
  W3, Co5, Cir12, Co7, Co8, Coa, Arg14, CollapsesExpand: parts of the proof.
-/
import Derived.Test.YtobphhjcadjfjaaGreatDoorSd51
namespace Go.Proofs.YtobphhjcadjfjaaGreatDoor
open Go.Abs
set_option maxRecDepth 100000
set_option maxHeartbeats 8000000
def cw (p0:Circ) (p1:List Flt) (p2:List Nat) (K:List Nat×Nat->Prop):Prop:=aX p0 p1 (p2.map Int.ofNat) K
theorem cQ {p0:Circ}{p1:List Flt}{p2:List Nat}{K:List Nat×Nat->Prop} (hm:cw p0 p1 p2 K) {h0:Heap} (hB:HasB vars h0):∃ r,K r/\CallD Tryz.prog NG 14 ⟨[aB p0,(ah 5 az) p1,(ah 1 i64) p2]⟩ h0 ((fun (r:List Nat×Nat)=>Value.tuple ⟨[(aR 1 i64) (r.1),i64 (r.2)]⟩) r) h0:=by
 have e:ah 1 z64 (p2.map Int.ofNat)=ah 1 i64 p2:=by unfold ah;rw[List.map_map];rfl
 rw[<- e]
 exact fM hm hB
def bp (p0:Circ) (p1:Nat) (K:Nat->Prop):Prop :=
 an (α:=Nat) (fun k2=>au (S:=(Nat×Nat)) (fun (v3,v4) nx5=>((ltN v4 p0.nodes.length)=true->an (α:=Nat) (fun k7=>∃ x8,p0.nodes[v4]?=some x8/\((eqN x8.kind p1)=true->v3+1<2 ^ 63/\k7 (v3+1))/\((eqN x8.kind p1)=false->k7 v3)) (fun v6=>v4+1<2 ^ 63/\nx5 (v6,(v4+1))))/\((ltN v4 p0.nodes.length)=false->k2 v3)) (0,0)) (fun v1=>K v1)
theorem eR {p0:Circ}{p1:Nat}{K:Nat->Prop} (hm:bp p0 p1 K) {h0:Heap} (hB:HasB vars h0):∃ r,K r/\CallD Tryz.prog NG 19 ⟨[aB p0,n8 p1]⟩ h0 (i64 r) h0:=by
 unfold bp at hm
 refine fw Tryz.func19 hB (enc:=i64) (fun r=>PureV.flat rfl) fun O=>?_;conv=>whnf
 refine gX ?_
 refine fz ?_;refine gH ?_
 apply Cs;conv=>whnf
 apply Cs;refine gH ?_
 refine jn hm 25 [] (fun s=>s) (fun v1 h=>Own vars h0 [] h) (fun v1=>[(5,(i64 v1))]) (fun hm=>?_) ?_
 ·refine gX ?_
  refine lw 25 [1,2] (σ:=(Nat×Nat)) (fun s=>s) (fun (v3,v4) h=>Own vars h0 [] h) (fun (v3,v4)=>[(5,(i64 v3)),(6,(i64 v4))]) (0,0) hm O ?_
  clear hm;rintro⟨v3,v4⟩ nx5 base h hm O
  refine gX ?_
  refine br hm (fun hm=>?_) fun hm=>?_
  ·apply Cs;conv=>whnf
   refine jn hm 25 [1,2,6] (fun s=>s) (fun v6 h=>Own vars h0 [] h) (fun v6=>[(5,(i64 v6))]) (fun hm=>?_) ?_
   ·refine gX ?_
    refine atF hm fun x8 hx8 hm=>?_;refine gX ?_
    refine br hm (fun hm=>?_) fun hm=>?_
    ·refine gX ?_
     refine aL hm fun hm=>?_;refine gH ?_
     exact jx (v3+1) hm O
    ·refine gX ?_
     exact jx v3 hm O
   ·clear hm;rintro v6 base h hm O
    refine gX ?_
    refine aL hm fun hm=>?_;refine gH ?_
    exact jx (v6,(v4+1)) hm O
  ·refine gX ?_
   exact jx v3 hm O
 ·clear hm;rintro v1 base h hm O
  refine gX ?_
  exact fe hm O
def bq (p0:(List Nat)) (p1:Nat) (p2:Nat) (K:(List Nat)->Prop):Prop :=
 an (α:=(List Nat)) (fun k6=>au (S:=((List Nat)×Nat)) (fun (v8,v9) nx11=>((ltN v9 p1)=true->an (α:=(List Nat)) (fun k15=>((eqN p0.length 0)=true->(v8.length+([2]:(List Nat)).length)*1<=2 ^ 47/\k15 (v8++([2]:(List Nat))))/\((eqN p0.length 0)=false->0<p0.length/\∃ x18,p0[(v9%p0.length)]?=some x18/\0<p2/\(v8.length+([(x18%p2)]:(List Nat)).length)*1<=2 ^ 47/\k15 (v8++([(x18%p2)]:(List Nat))))) (fun v13=>v9+1<2 ^ 63/\nx11 (v13,(v9+1))))/\((ltN v9 p1)=false->k6 v8)) (([]:List Nat),0)) (fun v4=>K v4)
theorem eS {p0:(List Nat)}{p1:Nat}{p2:Nat}{K:(List Nat)->Prop} (hm:bq p0 p1 p2 K) {h0:Heap} (hB:HasB vars h0):∃ r,K r/\CallD Tryz.prog NG 18 ⟨[(ah 1 n8) p0,i64 p1,n8 p2]⟩ h0 ((ah 1 n8) r) h0:=by
 unfold bq at hm
 refine fw Tryz.func18 hB (enc:=(ah 1 n8)) (fun r=>ee (fun _=>ai.cons (PureV.flat rfl) ai.nil)) fun O=>?_;conv=>whnf
 apply Cs;conv=>whnf
 apply Cs;refine gH ?_
 have O:=O.aN (.cells (flatC ((([]:List Nat)).map n8)) false)
 apply Cs;conv=>whnf
 apply Cs;refine gH ?_
 have O:=O.aN (.cells (flatC ((([]:List Nat)).map n8)) false)
 refine jn (σ:=(List Nat)×Option Nat) hm 33 [] (fun s=>s.1) (fun (v4,a3) h=>(a3=none->v4=[])/\Own vars h0 [(a3,.cells (flatC (v4.map n8)) false)] h) (fun (v4,a3)=>[(7,(ag 1 a3 (v4.map n8)))]) (fun hm=>?_) ?_
 ·refine gX ?_
  refine lw 33 [0,1,2] (σ:=((List Nat)×Nat)×Option Nat) (fun s=>s.1) (fun ((v8,v9),a7) h=>(a7=none->v8=[])/\Own vars h0 [(a7,.cells (flatC (v8.map n8)) false)] h) (fun ((v8,v9),a7)=>[(7,(ag 1 a7 (v8.map n8))),(8,(i64 v9))]) ((([]:List Nat),0),none) hm ⟨(fun _=>rfl),(O.sel [0] (by decide))⟩ ?_
  clear hm;rintro⟨⟨v8,v9⟩,a7⟩ nx11 base h hm ⟨ha10,O⟩
  refine gX ?_
  refine br hm (fun hm=>?_) fun hm=>?_
  ·apply Cs;conv=>whnf
   refine jn (σ:=(List Nat)×Option Nat) hm 33 [0,1,2,8] (fun s=>s.1) (fun (v13,a12) h=>(a12=none->v13=[])/\Own vars h0 [(a12,.cells (flatC (v13.map n8)) false)] h) (fun (v13,a12)=>[(7,(ag 1 a12 (v13.map n8)))]) (fun hm=>?_) ?_
   ·refine gX ?_
    refine br hm (fun hm=>?_) fun hm=>?_
    ·refine gX ?_
     refine fz ?_;refine gH ?_
     refine O.apL (enc:=n8) (l:=v8) (new:=([2]:(List Nat))) 1 (.head _) ha10 hm fun a16 h ha17 O hm=>?_;refine gH ?_
     exact jx ((v8++([2]:(List Nat))),a16) hm ⟨ha17,O⟩
    ·refine gX ?_
     refine qV hm fun hm=>?_;refine gH ?_
     refine atF hm fun x18 hx18 hm=>?_;refine gH ?_
     refine qV hm fun hm=>?_;refine gH ?_
     refine fz ?_;refine gH ?_
     refine O.apL (enc:=n8) (l:=v8) (new:=([(x18%p2)]:(List Nat))) 1 (.head _) ha10 hm fun a19 h ha20 O hm=>?_;refine gH ?_
     exact jx ((v8++([(x18%p2)]:(List Nat))),a19) hm ⟨ha20,O⟩
   ·clear hm;rintro⟨v13,a12⟩ base h hm ⟨ha14,O⟩
    refine gX ?_
    refine aL hm fun hm=>?_;refine gH ?_
    exact jx ((v13,(v9+1)),a12) hm ⟨ha14,O⟩
  ·refine gX ?_
   exact jx (v8,a7) hm ⟨ha10,O⟩
 ·clear hm;rintro⟨v4,a3⟩ base h hm ⟨ha5,O⟩
  refine gX ?_
  exact⟨v4,hm,O.ext,fun h2 F=>O.iz F (Nat.le_refl _) (.head _) ha5 (fun _=>rfl)⟩
def fj (p0:PData) (p1:Circ) (K:Pat->Prop):Prop :=
 bp p1 0 (fun r3=>bq p0.inp r3 4 (fun r4=>bp p1 14 (fun r5=>bq p0.state r5 3 (fun r6=>K (⟨r4,r6⟩:Pat)))))
theorem qR {p0:PData}{p1:Circ}{K:Pat->Prop} (hm:fj p0 p1 K) {h0:Heap} (hB:HasB vars h0):∃ r,K r/\CallD Tryz.prog NG 8 ⟨[De p0,aB p1]⟩ h0 (lN r) h0:=by
 unfold fj at hm
 refine fw Tryz.func8 hB (enc:=lN) (fun r=>Bc _) fun O=>?_;conv=>whnf
 refine gX ?_
 refine fz ?_;refine gH ?_
 refine fz ?_;refine gH ?_
 refine O.new (ak (l:=[(.slice none 0 0),(.slice none 0 0)]) rfl rfl rfl) fun g1 h O=>?_;refine gH ?_
 refine gX ?_
 refine dF ?_
 refine gX ?_
 refine dF ?_
 refine gX ?_
 refine ca (eR hm O.has) fun r3 hm=>?_;refine gH ?_
 refine⟨.inl (Ext.refl _),?_⟩;refine gH ?_
 refine ca (eS hm O.has) fun r4 hm=>?_;refine gH ?_
 refine⟨.inl (Ext.refl _),?_⟩;refine gH ?_
 refine dF ?_
 refine gX ?_
 refine dF ?_
 refine gX ?_
 refine ca (eR hm O.has) fun r5 hm=>?_;refine gH ?_
 refine⟨.inl (Ext.refl _),?_⟩;refine gH ?_
 refine ca (eS hm O.has) fun r6 hm=>?_;refine gH ?_
 refine⟨.inl (Ext.refl _),?_⟩;refine gH ?_
 refine O.stC 2 (.head _) [((ah 1 n8) r4),((ah 1 n8) r6)] fun h O=>?_;refine gH ?_
 refine gX ?_
 refine⟨_,aH rfl rfl (O.at (.head _)) rfl rfl (lbE rfl) rfl,?_⟩;conv=>whnf
 exact fe hm O
def cB  (K:(Circ×(List Flt))->Prop):Prop :=
 hG (⟨([(⟨0,([]:(List Nat)),0,0⟩:Node),(⟨0,([]:(List Nat)),0,0⟩:Node),(⟨5,([0,1]:(List Nat)),0,0⟩:Node)]:(List Node)),([(⟨#[97]⟩:ByteArray),(⟨#[98]⟩:ByteArray),(⟨#[121]⟩:ByteArray)]:(List ByteArray)),([]:(List Memo)),([2]:(List Nat))⟩:Circ) 0 (fun r5=>K ((⟨([(⟨0,([]:(List Nat)),0,0⟩:Node),(⟨0,([]:(List Nat)),0,0⟩:Node),(⟨5,([0,1]:(List Nat)),0,0⟩:Node)]:(List Node)),([(⟨#[97]⟩:ByteArray),(⟨#[98]⟩:ByteArray),(⟨#[121]⟩:ByteArray)]:(List ByteArray)),[],([2]:(List Nat))⟩:Circ),r5.1))
theorem jP  {K:(Circ×(List Flt))->Prop} (hm:cB  K) {h0:Heap} (hB:HasB vars h0):∃ r,K r/\CallD Tryz.prog NG 25 ⟨[]⟩ h0 ((fun (r:(Circ×(List Flt)))=>Value.tuple ⟨[aB (r.1),(ah 5 az) (r.2)]⟩) r) h0:=by
 unfold cB at hm
 refine fw Tryz.func25 hB (enc:=(fun (r:(Circ×(List Flt)))=>Value.tuple ⟨[aB (r.1),(ah 5 az) (r.2)]⟩)) (fun r=>PureV.tup (ai.cons (mQ _) (ai.cons (ee (fun _=>pj _)) (ai.nil)))) fun O=>?_;conv=>whnf
 refine gX ?_
 refine O.new (ak (l:=[(.slice none 0 0),(.slice none 0 0),(.slice none 0 0),(.slice none 0 0)]) rfl rfl rfl) fun g1 h O=>?_;refine gH ?_
 refine gX ?_
 refine fz ?_;refine gH ?_
 refine NewG.frzW rfl (VLe.els (s:=4) (es':=([(⟨0,([]:(List Nat)),0,0⟩:Node),(⟨0,([]:(List Nat)),0,0⟩:Node),(⟨5,([0,1]:(List Nat)),0,0⟩:Node)]).map al) rfl (cb (enc:=al) (s:=4) (fun _=>rfl) _) (LLe.cons (VLe.refl _ _) (LLe.cons (VLe.nil _ _) (LLe.cons (VLe.refl _ _) (LLe.cons (VLe.refl _ _) (LLe.cons (VLe.refl _ _) (LLe.cons (VLe.nil _ _) (LLe.cons (VLe.refl _ _) (LLe.cons (VLe.refl _ _) (LLe.cons (VLe.refl _ _) (LLe.cons (VLe.refl _ _) (LLe.cons (VLe.refl _ _) (LLe.cons (VLe.refl _ _) (LLe.nil _)))))))))))))) ?_;refine gH ?_
 refine fz ?_;refine gH ?_
 refine fz ?_;refine gH ?_
 refine O.new (ak (l:=[(.slice none 0 0),(.slice none 0 0),(.slice none 0 0),(.slice none 0 0)]) rfl rfl rfl) fun g3 h O=>?_;refine gH ?_
 refine O.stC 4 (.head _) [((ah 4 al) ([(⟨0,([]:(List Nat)),0,0⟩:Node),(⟨0,([]:(List Nat)),0,0⟩:Node),(⟨5,([0,1]:(List Nat)),0,0⟩:Node)]:(List Node))),((ah 1 Value.string) ([(⟨#[97]⟩:ByteArray),(⟨#[98]⟩:ByteArray),(⟨#[121]⟩:ByteArray)]:(List ByteArray))),(.slice none 0 0),((ah 1 i64) ([2]:(List Nat)))] fun h O=>?_;refine gX ?_
 refine ldA (O.at (.head _)) ?_;refine gH ?_
 refine caW (lb hm O.has) (LLe.cons (VLe.agg (LLe.cons (VLe.refl _ _) (LLe.cons (VLe.refl _ _) (LLe.cons (VLe.nil _ _) (LLe.cons (VLe.refl _ _) (LLe.nil _)))))) (LLe.cons (VLe.refl _ _) (LLe.nil _))) fun r5 hm=>?_;refine gX ?_
 refine ldA (O.at (.head _)) ?_;refine gH ?_
 refine O.stC 4 (.tail _ (.head _)) [((ah 4 al) ([(⟨0,([]:(List Nat)),0,0⟩:Node),(⟨0,([]:(List Nat)),0,0⟩:Node),(⟨5,([0,1]:(List Nat)),0,0⟩:Node)]:(List Node))),((ah 1 Value.string) ([(⟨#[97]⟩:ByteArray),(⟨#[98]⟩:ByteArray),(⟨#[121]⟩:ByteArray)]:(List ByteArray))),(.slice none 0 0),((ah 1 i64) ([2]:(List Nat)))] fun h O=>?_;refine gX ?_
 refine⟨_,aH rfl rfl (O.at (.tail _ (.head _))) rfl rfl (lbE rfl) rfl,?_⟩;conv=>whnf
 exact⟨((⟨([(⟨0,([]:(List Nat)),0,0⟩:Node),(⟨0,([]:(List Nat)),0,0⟩:Node),(⟨5,([0,1]:(List Nat)),0,0⟩:Node)]:(List Node)),([(⟨#[97]⟩:ByteArray),(⟨#[98]⟩:ByteArray),(⟨#[121]⟩:ByteArray)]:(List ByteArray)),[],([2]:(List Nat))⟩:Circ),r5.1),hm,O.ext,fun h2 F=>VLe.tup (LLe.cons (VLe.agg (LLe.cons (VLe.refl _ _) (LLe.cons (VLe.refl _ _) (LLe.cons (VLe.nil _ _) (LLe.cons (VLe.refl _ _) (LLe.nil _)))))) (LLe.cons (VLe.refl _ _) (LLe.nil _)))⟩
def aC (p0:(List Nat)) (p1:(List Nat)) (K:Bool->Prop):Prop :=
 an (α:=Bool) (fun k2=>((neN p0.length p1.length)=true->k2 true)/\((neN p0.length p1.length)=false->k2 (neN p0.length p0.length))) (fun v1=>(v1=true->K false)/\(v1=false->an (α:=Unit) (fun k3=>au (S:=Nat) (fun v4 nx5=>((ltN v4 p0.length)=true->∃ x6,p0[v4]?=some x6/\∃ x7,p1[v4]?=some x7/\((neN x6 x7)=true->K false)/\((neN x6 x7)=false->v4+1<2 ^ 63/\nx5 (v4+1)))/\((ltN v4 p0.length)=false->k3 ())) 0) (fun _=>K true)))
theorem aT {p0:(List Nat)}{p1:(List Nat)}{K:Bool->Prop} (hm:aC p0 p1 K) {h0:Heap} (hB:HasB vars h0):∃ r,K r/\CallD Tryz.prog NG 15 ⟨[(aR 1 i64) p0,(ah 1 i64) p1]⟩ h0 (Value.bool r) h0:=by
 unfold aC at hm
 refine fw Tryz.func15 hB (enc:=Value.bool) (fun r=>PureV.flat rfl) fun O=>?_;conv=>whnf
 apply Cs;conv=>whnf
 apply Cs;refine gH ?_
 apply Cs;conv=>whnf
 refine jn hm 33 [0,1] (fun s=>s) (fun v1 h=>Own vars h0 [] h) (fun v1=>[(17,(.bool v1))]) (fun hm=>?_) ?_
 ·refine gX ?_
  refine lmC ?_;refine gH ?_
  refine br hm (fun hm=>?_) fun hm=>?_
  ·refine gX ?_
   exact jx true hm O
  ·refine gX ?_
   refine cpC ?_;refine gH ?_
   refine lmC ?_;refine gH ?_
   exact jx (neN p0.length p0.length) hm O
 ·clear hm;rintro v1 base h hm O
  refine gX ?_
  refine br hm (fun hm=>?_) fun hm=>?_
  ·refine gX ?_
   exact fe hm O
  ·apply Cs;conv=>whnf
   refine jn hm 33 [] (fun s=>s) (fun _ h=>Own vars h0 [] h) (fun _=>[]) (fun hm=>?_) ?_
   ·refine gX ?_
    refine lw 33 [0,1] (σ:=Nat) (fun s=>s) (fun v4 h=>Own vars h0 [] h) (fun v4=>[(5,(i64 v4))]) 0 hm O ?_
    clear hm;rintro v4 nx5 base h hm O
    refine gX ?_
    refine lmC ?_;refine gX ?_
    refine br hm (fun hm=>?_) fun hm=>?_
    ·refine gX ?_
     refine atC hm fun x6 hx6 hm=>?_;refine gH ?_
     refine atF hm fun x7 hx7 hm=>?_;refine gX ?_
     refine br hm (fun hm=>?_) fun hm=>?_
     ·refine gX ?_
      exact fe hm O
     ·refine gX ?_
      refine aL hm fun hm=>?_;refine gH ?_
      exact jx (v4+1) hm O
    ·refine gX ?_
     exact jx () hm O
   ·clear hm;rintro _ base h hm O
    refine gX ?_
    exact fe hm O
def bw  (K:Bool->Prop):Prop :=
 cB  (fun r1=>cp r1.1 r1.2 (fun r4=>bJ r1.1 r1.2 (fun r5=>cX r1.1 r1.2 (fun r6=>cw r1.1 r1.2 ([7]:(List Nat)) (fun r7=>an (α:=Bool) (fun k9=>((neN r4.2 0)=true->k9 true)/\((neN r4.2 0)=false->((neN r5.2 0)=true->k9 true)/\((neN r5.2 0)=false->((neN r6.2 0)=true->k9 true)/\((neN r6.2 0)=false->((neN r7.2 0)=true->k9 true)/\((neN r7.2 0)=false->((neN r4.1.length 4)=true->k9 true)/\((neN r4.1.length 4)=false->k9 (neN r5.1.length 2))))))) (fun v8=>(v8=true->K false)/\(v8=false->∃ x10,r4.1[0]?=some x10/\aC x10 ([0,2,4,6,8]:(List Nat)) (fun r11=>(r11=true->∃ x12,r4.1[1]?=some x12/\aC x12 ([1,7]:(List Nat)) (fun r13=>(r13=true->∃ x14,r4.1[2]?=some x14/\aC x14 ([3,9]:(List Nat)) (fun r15=>(r15=true->∃ x16,r4.1[3]?=some x16/\aC x16 ([5]:(List Nat)) (fun r17=>(r17=true->∃ x18,r5.1[0]?=some x18/\(((eqN x18.a 1)&&((eqN x18.b 3)&&true))=true->∃ x19,r5.1[1]?=some x19/\(((eqN x19.a 2)&&((eqN x19.b 3)&&true))=true->aC r6.1 ([0,1,3]:(List Nat)) (fun r20=>(r20=true->aC r7.1 ([1,5,7]:(List Nat)) (fun r21=>K r21))/\(r20=false->K false)))/\(((eqN x19.a 2)&&((eqN x19.b 3)&&true))=false->K false))/\(((eqN x18.a 1)&&((eqN x18.b 3)&&true))=false->K false))/\(r17=false->K false)))/\(r15=false->K false)))/\(r13=false->K false)))/\(r11=false->K false)))))))))
theorem js  {K:Bool->Prop} (hm:bw  K) {h0:Heap} (hB:HasB vars h0):∃ r,K r/\CallD Tryz.prog NG 11 ⟨[]⟩ h0 (Value.bool r) h0:=by
 unfold bw at hm
 refine fw Tryz.func11 hB (enc:=Value.bool) (fun r=>PureV.flat rfl) fun O=>?_;conv=>whnf
 refine gX ?_
 refine ca (jP hm O.has) fun r1 hm=>?_;refine gH ?_
 refine O.new (ak (l:=[nS,nS,nS,nS]) rfl rfl rfl) fun g2 h O=>?_;refine gH ?_
 refine O.stC 4 (.head _) [((ah 4 al) r1.1.nodes),((ah 1 Value.string) r1.1.names),((ah 3 av) r1.1.mems),((ah 1 i64) r1.1.outs)] fun h O=>?_;refine gX ?_
 refine ldA (O.at (.head _)) ?_;refine gH ?_
 refine ca (kP hm O.has) fun r4 hm=>?_;refine gX ?_
 refine ldA (O.at (.head _)) ?_;refine gH ?_
 refine ca (jr hm O.has) fun r5 hm=>?_;refine gX ?_
 refine ldA (O.at (.head _)) ?_;refine gH ?_
 refine ca (mY hm O.has) fun r6 hm=>?_;refine gX ?_
 refine ldA (O.at (.head _)) ?_;refine gH ?_
 refine fz ?_;refine gH ?_
 refine ca (cQ hm O.has) fun r7 hm=>?_;refine gH ?_
 apply Cs;conv=>whnf
 refine jn hm 114 [3,5,7,9] (fun s=>s) (fun v8 h=>Own vars h0 [] h) (fun v8=>[(63,(.bool v8))]) (fun hm=>?_) ?_
 ·refine gX ?_
  refine br hm (fun hm=>?_) fun hm=>?_
  ·refine gX ?_
   refine bt ?_;refine gH ?_
   refine bt ?_;refine gH ?_
   refine bt ?_;refine gH ?_
   refine bt ?_;refine gH ?_
   exact jx true hm (O.sel [] (by decide))
  ·refine gX ?_
   refine br hm (fun hm=>?_) fun hm=>?_
   ·refine gX ?_
    refine bt ?_;refine gH ?_
    refine bt ?_;refine gH ?_
    refine bt ?_;refine gH ?_
    exact jx true hm (O.sel [] (by decide))
   ·refine gX ?_
    refine br hm (fun hm=>?_) fun hm=>?_
    ·refine gX ?_
     refine bt ?_;refine gH ?_
     refine bt ?_;refine gH ?_
     exact jx true hm (O.sel [] (by decide))
    ·refine gX ?_
     refine br hm (fun hm=>?_) fun hm=>?_
     ·refine gX ?_
      refine bt ?_;refine gH ?_
      exact jx true hm (O.sel [] (by decide))
     ·refine gX ?_
      refine lmC ?_;refine gH ?_
      refine br hm (fun hm=>?_) fun hm=>?_
      ·refine gX ?_
       exact jx true hm (O.sel [] (by decide))
      ·refine gX ?_
       exact jx (neN r5.1.length 2) hm (O.sel [] (by decide))
 ·clear hm;rintro v8 base h hm O
  refine gX ?_
  refine br hm (fun hm=>?_) fun hm=>?_
  ·refine gX ?_
   exact fe hm O
  ·refine gX ?_
   refine atC hm fun x10 hx10 hm=>?_;refine gH ?_
   refine fz ?_;refine gH ?_
   refine ca (aT hm O.has) fun r11 hm=>?_;refine gH ?_
   refine br hm (fun hm=>?_) fun hm=>?_
   ·refine gX ?_
    refine atC hm fun x12 hx12 hm=>?_;refine gH ?_
    refine fz ?_;refine gH ?_
    refine ca (aT hm O.has) fun r13 hm=>?_;refine gH ?_
    refine br hm (fun hm=>?_) fun hm=>?_
    ·refine gX ?_
     refine atC hm fun x14 hx14 hm=>?_;refine gH ?_
     refine fz ?_;refine gH ?_
     refine ca (aT hm O.has) fun r15 hm=>?_;refine gH ?_
     refine br hm (fun hm=>?_) fun hm=>?_
     ·refine gX ?_
      refine atC hm fun x16 hx16 hm=>?_;refine gH ?_
      refine fz ?_;refine gH ?_
      refine ca (aT hm O.has) fun r17 hm=>?_;refine gH ?_
      refine br hm (fun hm=>?_) fun hm=>?_
      ·refine gX ?_
       refine atF hm fun x18 hx18 hm=>?_;refine gH ?_
       refine⟨.bool ((eqN x18.a 1)&&((eqN x18.b 3)&&true)),by kernel_rfl,?_⟩;refine gH ?_
       refine br hm (fun hm=>?_) fun hm=>?_
       ·refine gX ?_
        refine atF hm fun x19 hx19 hm=>?_;refine gH ?_
        refine⟨.bool ((eqN x19.a 2)&&((eqN x19.b 3)&&true)),by kernel_rfl,?_⟩;refine gH ?_
        refine br hm (fun hm=>?_) fun hm=>?_
        ·refine gX ?_
         refine fz ?_;refine gH ?_
         refine ca (aT hm O.has) fun r20 hm=>?_;refine gH ?_
         refine br hm (fun hm=>?_) fun hm=>?_
         ·refine gX ?_
          refine fz ?_;refine gH ?_
          refine ca (aT hm O.has) fun r21 hm=>?_;refine gX ?_
          exact fe hm O
         ·refine gX ?_
          exact fe hm O
        ·refine gX ?_
         refine bf ?_;refine gX ?_
         exact fe hm O
       ·refine gX ?_
        refine bf ?_;refine gH ?_
        refine bf ?_;refine gX ?_
        exact fe hm O
      ·refine gX ?_
       refine bf ?_;refine gH ?_
       refine bf ?_;refine gH ?_
       refine bf ?_;refine gX ?_
       exact fe hm O
     ·refine gX ?_
      refine bf ?_;refine gH ?_
      refine bf ?_;refine gH ?_
      refine bf ?_;refine gH ?_
      refine bf ?_;refine gX ?_
      exact fe hm O
    ·refine gX ?_
     refine bf ?_;refine gH ?_
     refine bf ?_;refine gH ?_
     refine bf ?_;refine gH ?_
     refine bf ?_;refine gH ?_
     refine bf ?_;refine gX ?_
     exact fe hm O
   ·refine gX ?_
    refine bf ?_;refine gH ?_
    refine bf ?_;refine gH ?_
    refine bf ?_;refine gH ?_
    refine bf ?_;refine gH ?_
    refine bf ?_;refine gH ?_
    refine bf ?_;refine gX ?_
    exact fe hm O
def cc (p0:CData) (K:(Circ×(List Flt))->Prop):Prop :=
 bY p0 (fun r3=>hG r3 0 (fun r6=>K (r3,r6.1)))
theorem ka {p0:CData}{K:(Circ×(List Flt))->Prop} (hm:cc p0 K) {h0:Heap} (hB:HasB vars h0):∃ r,K r/\CallD Tryz.prog NG 7 ⟨[bH p0]⟩ h0 ((fun (r:(Circ×(List Flt)))=>Value.tuple ⟨[aB (r.1),(ah 5 az) (r.2)]⟩) r) h0:=by
 unfold cc at hm
 refine fw Tryz.func7 hB (enc:=(fun (r:(Circ×(List Flt)))=>Value.tuple ⟨[aB (r.1),(ah 5 az) (r.2)]⟩)) (fun r=>PureV.tup (ai.cons (mQ _) (ai.cons (ee (fun _=>pj _)) (ai.nil)))) fun O=>?_;conv=>whnf
 refine gX ?_
 refine fz ?_;refine gH ?_
 refine O.new (ak (l:=[(.slice none 0 0),(.slice none 0 0),(.slice none 0 0),(.slice none 0 0)]) rfl rfl rfl) fun g1 h O=>?_;refine gH ?_
 refine gX ?_
 refine ca (iK hm O.has) fun r3 hm=>?_;refine gH ?_
 refine O.new (ak (l:=[(.slice none 0 0),(.slice none 0 0),(.slice none 0 0),(.slice none 0 0)]) rfl rfl rfl) fun g4 h O=>?_;refine gH ?_
 refine O.stC 4 (.head _) [((ah 4 al) r3.nodes),((ah 1 Value.string) r3.names),((ah 3 av) r3.mems),((ah 1 i64) r3.outs)] fun h O=>?_;refine gX ?_
 refine ldA (O.at (.head _)) ?_;refine gH ?_
 refine ca (lb hm O.has) fun r6 hm=>?_;refine gX ?_
 refine ldA (O.at (.head _)) ?_;refine gH ?_
 refine O.stC 4 (.tail _ (.head _)) [((ah 4 al) r3.nodes),((ah 1 Value.string) r3.names),((ah 3 av) r3.mems),((ah 1 i64) r3.outs)] fun h O=>?_;refine gX ?_
 refine⟨_,aH rfl rfl (O.at (.tail _ (.head _))) rfl rfl (lbE rfl) rfl,?_⟩;conv=>whnf
 exact⟨(r3,r6.1),hm,O.ext,fun h2 F=>VLe.tup (LLe.cons (VLe.refl _ _) (LLe.cons (VLe.refl _ _) (LLe.nil _)))⟩
def bl (p0:CData) (p1:PData) (p2:Int) (K:Bool->Prop):Prop :=
 cc p0 (fun r1=>fj p1 r1.1 (fun r4=>an (α:=(List Nat)) (fun k11=>au (S:=((List Nat)×Nat)) (fun (v13,v14) nx16=>((ltN v14 r1.2.length)=true->an (α:=(List Nat)) (fun k20=>∃ x21,r1.2[v14]?=some x21/\cr r1.1 x21 r4 (fun r22=>((neN r22.2 0)=true->K false)/\((neN r22.2 0)=false->(r22.1=true->(v13.length+([v14]:(List Nat)).length)*8<=2 ^ 47/\k20 (v13++([v14]:(List Nat))))/\(r22.1=false->k20 v13)))) (fun v18=>v14+1<2 ^ 63/\nx16 (v18,(v14+1))))/\((ltN v14 r1.2.length)=false->k11 v13)) (([]:List Nat),0)) (fun v9=>cw r1.1 r1.2 v9 (fun r25=>an (α:=Bool) (fun k27=>((neN r25.2 0)=true->k27 true)/\((neN r25.2 0)=false->aC r25.1 v9 (fun r28=>k27 (!r28)))) (fun v26=>(v26=true->K false)/\(v26=false->an (α:=Unit) (fun k29=>au (S:=Nat) (fun v30 nx31=>((ltN v30 v9.length)=true->an (α:=Unit) (fun k32=>v30+1<2 ^ 63/\v30<=(v30+1)/\(v30+1)<=v9.length/\cw r1.1 r1.2 ((v9.take (v30+1)).drop v30) (fun r33=>cw r1.1 r1.2 r33.1 (fun r34=>an (α:=Bool) (fun k36=>((neN r33.2 0)=true->k36 true)/\((neN r33.2 0)=false->((neN r34.2 0)=true->k36 true)/\((neN r34.2 0)=false->aC r34.1 r33.1 (fun r37=>k36 (!r37))))) (fun v35=>(v35=true->K false)/\(v35=false->au (S:=(Nat×Nat)) (fun (v38,v39) nx40=>((ltN v39 r33.1.length)=true->an (α:=Nat) (fun k42=>au (S:=Nat) (fun v43 nx44=>an (α:=Bool) (fun k46=>((ltN v43 v9.length)=true->∃ x47,v9[v43]?=some x47/\∃ x48,r33.1[v39]?=some x48/\k46 (ltN x47 x48))/\((ltN v43 v9.length)=false->k46 false)) (fun v45=>(v45=true->v43+1<2 ^ 63/\nx44 (v43+1))/\(v45=false->k42 v43))) v38) (fun v41=>an (α:=Bool) (fun k50=>((!ltN v41 v9.length)=true->k50 true)/\((!ltN v41 v9.length)=false->∃ x51,v9[v41]?=some x51/\∃ x52,r33.1[v39]?=some x52/\k50 (neN x51 x52))) (fun v49=>(v49=true->K false)/\(v49=false->v39+1<2 ^ 63/\nx40 (v41,(v39+1))))))/\((ltN v39 r33.1.length)=false->k32 ())) (0,0)))))) (fun _=>v30+1<2 ^ 63/\nx31 (v30+1)))/\((ltN v30 v9.length)=false->k29 ())) 0) (fun _=>an (α:=Int) (fun k54=>an (α:=Bool) (fun k56=>((!ltI p2 (Int.ofNat 0))=true->k56 (ltI p2 (Int.ofNat r1.2.length)))/\((!ltI p2 (Int.ofNat 0))=false->k56 false)) (fun v55=>(v55=true -> -(2 ^ 63)<=((Int.negSucc 0)-p2)/\((Int.negSucc 0)-p2)<2 ^ 63/\k54 ((Int.negSucc 0)-p2))/\(v55=false->k54 p2))) (fun v53=>aX r1.1 r1.2 ([v53]:(List Int)) (fun r57=>((eqN r57.2 1)=true->bw  (fun r58=>K r58))/\((eqN r57.2 1)=false->K false))))))))))
theorem fa {p0:CData}{p1:PData}{p2:Int}{K:Bool->Prop} (hm:bl p0 p1 p2 K) {h0:Heap} (hB:HasB vars h0):∃ r,K r/\CallD Tryz.prog NG 6 ⟨[bH p0,De p1,z64 p2]⟩ h0 (Value.bool r) h0:=by
 unfold bl at hm
 refine fw Tryz.func6 hB (enc:=Value.bool) (fun r=>PureV.flat rfl) fun O=>?_;conv=>whnf
 refine gX ?_
 refine fz ?_;refine gH ?_
 refine fz ?_;refine gX ?_
 refine ca (ka hm O.has) fun r1 hm=>?_;refine gH ?_
 refine O.new (ak (l:=[nS,nS,nS,nS]) rfl rfl rfl) fun g2 h O=>?_;refine gH ?_
 refine O.stC 4 (.head _) [((ah 4 al) r1.1.nodes),((ah 1 Value.string) r1.1.names),((ah 3 av) r1.1.mems),((ah 1 i64) r1.1.outs)] fun h O=>?_;refine gX ?_
 refine ldA (O.at (.head _)) ?_;refine gH ?_
 refine ca (qR hm O.has) fun r4 hm=>?_;refine gH ?_
 refine O.new (ak (l:=[nS,nS]) rfl rfl rfl) fun g5 h O=>?_;refine gH ?_
 refine O.stC 2 (.head _) [((ah 1 n8) r4.inp),((ah 1 n8) r4.state)] fun h O=>?_;refine gH ?_
 apply Cs;conv=>whnf
 apply Cs;refine gH ?_
 have O:=O.aN (.cells (flatC ((([]:List Nat)).map i64)) false)
 refine jn (σ:=(List Nat)×Option Nat) hm 168 [2,7,8] (fun s=>s.1) (fun (v9,a8) h=>(a8=none->v9=[])/\Own vars h0 [(sC g2 [((ah 4 al) r1.1.nodes),((ah 1 Value.string) r1.1.names),((ah 3 av) r1.1.mems),((ah 1 i64) r1.1.outs)]),(a8,.cells (flatC (v9.map i64)) false)] h) (fun (v9,a8)=>[(10,(ag 1 a8 (v9.map i64)))]) (fun hm=>?_) ?_
 ·refine gX ?_
  refine lw 168 [2,7,8,9] (σ:=((List Nat)×Nat)×Option Nat) (fun s=>s.1) (fun ((v13,v14),a12) h=>(a12=none->v13=[])/\Own vars h0 [(sC g2 [((ah 4 al) r1.1.nodes),((ah 1 Value.string) r1.1.names),((ah 3 av) r1.1.mems),((ah 1 i64) r1.1.outs)]),(sC g5 [((ah 1 n8) r4.inp),((ah 1 n8) r4.state)]),(a12,.cells (flatC (v13.map i64)) false)] h) (fun ((v13,v14),a12)=>[(10,(ag 1 a12 (v13.map i64))),(11,(i64 v14))]) ((([]:List Nat),0),none) hm ⟨(fun _=>rfl),(O.sel [2,1,0] (by decide))⟩ ?_
  clear hm;rintro⟨⟨v13,v14⟩,a12⟩ nx16 base h hm ⟨ha15,O⟩
  refine gX ?_
  refine br hm (fun hm=>?_) fun hm=>?_
  ·apply Cs;conv=>whnf
   refine jn (σ:=(List Nat)×Option Nat) hm 168 [2,7,8,9,11] (fun s=>s.1) (fun (v18,a17) h=>(a17=none->v18=[])/\Own vars h0 [(sC g2 [((ah 4 al) r1.1.nodes),((ah 1 Value.string) r1.1.names),((ah 3 av) r1.1.mems),((ah 1 i64) r1.1.outs)]),(sC g5 [((ah 1 n8) r4.inp),((ah 1 n8) r4.state)]),(a17,.cells (flatC (v18.map i64)) false)] h) (fun (v18,a17)=>[(10,(ag 1 a17 (v18.map i64)))]) (fun hm=>?_) ?_
   ·refine gX ?_
    refine ldA (O.at (.head _)) ?_;refine gH ?_
    first|refine⟨.inr (.inr (bd rfl (O.at (.head _)) rfl rfl (lbE rfl) rfl)),?_⟩|refine⟨.inr (.inl (by kernel_rfl)),?_⟩
    refine gX ?_
    refine atF hm fun x21 hx21 hm=>?_;refine gH ?_
    refine dF ?_
    refine gX ?_
    refine ldA (O.at (.tail _ (.head _))) ?_;refine gH ?_
    first|refine⟨.inr (.inr (bd rfl (O.at (.tail _ (.head _))) rfl rfl (lbE rfl) rfl)),?_⟩|refine⟨.inr (.inl (by kernel_rfl)),?_⟩
    refine gX ?_
    refine ca (mT hm O.has) fun r22 hm=>?_;refine gH ?_
    refine⟨.inl (Ext.refl _),?_⟩;refine gH ?_
    refine gX ?_
    refine br hm (fun hm=>?_) fun hm=>?_
    ·refine gX ?_
     exact fe hm O
    ·refine gX ?_
     refine br hm (fun hm=>?_) fun hm=>?_
     ·refine gX ?_
      refine fz ?_;refine gH ?_
      refine O.apL (enc:=i64) (l:=v13) (new:=([v14]:(List Nat))) 1 (.tail _ (.tail _ (.head _))) ha15 hm fun a23 h ha24 O hm=>?_;refine gH ?_
      exact jx ((v13++([v14]:(List Nat))),a23) hm ⟨ha24,O⟩
     ·refine gX ?_
      exact jx (v13,a12) hm ⟨ha15,O⟩
   ·clear hm;rintro⟨v18,a17⟩ base h hm ⟨ha19,O⟩
    refine gX ?_
    refine aL hm fun hm=>?_;refine gH ?_
    exact jx ((v18,(v14+1)),a17) hm ⟨ha19,O⟩
  ·refine gX ?_
   exact jx (v13,a12) hm ⟨ha15,(O.sel [0,2] (by decide))⟩
 ·clear hm;rintro⟨v9,a8⟩ base h hm ⟨ha10,O⟩
  conv=>whnf
  apply Cs;conv=>whnf
  refine CodeS.Dq O (.tail _ (.head _)) ha10 (fun _=>rfl) (t:=10) rfl rfl fun h O=>?_;refine gX ?_
  refine ldA (O.at (.head _)) ?_;refine gH ?_
  refine ca (cQ hm O.has) fun r25 hm=>?_;refine gH ?_
  apply Cs;conv=>whnf
  refine jn hm 168 [2,7,8,10] (fun s=>s) (fun v26 h=>Own vars h0 [(sC g2 [((ah 4 al) r1.1.nodes),((ah 1 Value.string) r1.1.names),((ah 3 av) r1.1.mems),((ah 1 i64) r1.1.outs)])] h) (fun v26=>[(70,(.bool v26))]) (fun hm=>?_) ?_
  ·refine gX ?_
   refine br hm (fun hm=>?_) fun hm=>?_
   ·refine gX ?_
    exact jx true hm (O.sel [0] (by decide))
   ·refine gX ?_
    refine ca (aT hm O.has) fun r28 hm=>?_;refine gH ?_
    exact jx (!r28) hm (O.sel [0] (by decide))
  ·clear hm;rintro v26 base h hm O
   refine gX ?_
   refine br hm (fun hm=>?_) fun hm=>?_
   ·refine gX ?_
    exact fe hm O
   ·apply Cs;conv=>whnf
    refine jn hm 168 [2,7,8] (fun s=>s) (fun _ h=>Own vars h0 [(sC g2 [((ah 4 al) r1.1.nodes),((ah 1 Value.string) r1.1.names),((ah 3 av) r1.1.mems),((ah 1 i64) r1.1.outs)])] h) (fun _=>[]) (fun hm=>?_) ?_
    ·refine gX ?_
     refine lw 168 [2,7,8,10] (σ:=Nat) (fun s=>s) (fun v30 h=>Own vars h0 [(sC g2 [((ah 4 al) r1.1.nodes),((ah 1 Value.string) r1.1.names),((ah 3 av) r1.1.mems),((ah 1 i64) r1.1.outs)])] h) (fun v30=>[(16,(i64 v30))]) 0 hm O ?_
     clear hm;rintro v30 nx31 base h hm O
     refine gX ?_
     refine br hm (fun hm=>?_) fun hm=>?_
     ·apply Cs;conv=>whnf
      refine jn hm 168 [2,7,8,10,16] (fun s=>s) (fun _ h=>Own vars h0 [(sC g2 [((ah 4 al) r1.1.nodes),((ah 1 Value.string) r1.1.names),((ah 3 av) r1.1.mems),((ah 1 i64) r1.1.outs)])] h) (fun _=>[]) (fun hm=>?_) ?_
      ·refine gX ?_
       refine ldA (O.at (.head _)) ?_;refine gH ?_
       first|refine⟨.inr (.inr (bd rfl (O.at (.head _)) rfl rfl (lbE rfl) rfl)),?_⟩|refine⟨.inr (.inl (by kernel_rfl)),?_⟩
       refine gX ?_
       refine aL hm fun hm=>?_;refine gH ?_
       refine ER (s:=1) (enc:=i64) (l:=v9) (i:=v30) (j:=(v30+1)) hm.1 hm.2.1 ?_;refine gH ?_
       replace hm:=hm.2.2
       refine ca (cQ hm O.has) fun r33 hm=>?_;refine gH ?_
       refine⟨.inl (Ext.refl _),?_⟩;refine gH ?_
       refine gX ?_
       refine ldA (O.at (.head _)) ?_;refine gH ?_
       refine caW (cQ hm O.has) (LLe.cons (VLe.refl _ _) (LLe.cons (VLe.refl _ _) (LLe.cons (VLe.ofC) (LLe.nil _)))) fun r34 hm=>?_;refine gH ?_
       apply Cs;conv=>whnf
       refine jn hm 168 [2,7,8,10,16,17] (fun s=>s) (fun v35 h=>Own vars h0 [(sC g2 [((ah 4 al) r1.1.nodes),((ah 1 Value.string) r1.1.names),((ah 3 av) r1.1.mems),((ah 1 i64) r1.1.outs)])] h) (fun v35=>[(106,(.bool v35))]) (fun hm=>?_) ?_
       ·refine gX ?_
        refine br hm (fun hm=>?_) fun hm=>?_
        ·refine gX ?_
         refine bt ?_;refine gH ?_
         exact jx true hm O
        ·refine gX ?_
         refine br hm (fun hm=>?_) fun hm=>?_
         ·refine gX ?_
          exact jx true hm O
         ·refine gX ?_
          refine caW (aT hm O.has) (LLe.cons (VLe.refl _ _) (LLe.cons (VLe.ofC) (LLe.nil _))) fun r37 hm=>?_;refine gH ?_
          exact jx (!r37) hm O
       ·clear hm;rintro v35 base h hm O
        refine gX ?_
        refine br hm (fun hm=>?_) fun hm=>?_
        ·refine gX ?_
         exact fe hm O
        ·refine gX ?_
         refine lw 168 [2,7,8,10,16,17] (σ:=(Nat×Nat)) (fun s=>s) (fun (v38,v39) h=>Own vars h0 [(sC g2 [((ah 4 al) r1.1.nodes),((ah 1 Value.string) r1.1.names),((ah 3 av) r1.1.mems),((ah 1 i64) r1.1.outs)])] h) (fun (v38,v39)=>[(21,(i64 v38)),(22,(i64 v39))]) (0,0) hm O ?_
         clear hm;rintro⟨v38,v39⟩ nx40 base h hm O
         refine gX ?_
         refine lmC ?_;refine gX ?_
         refine br hm (fun hm=>?_) fun hm=>?_
         ·apply Cs;conv=>whnf
          apply Cs;conv=>whnf
          apply Cs;conv=>whnf
          refine jn hm 168 [2,7,8,10,16,17,22] (fun s=>s) (fun v41 h=>Own vars h0 [(sC g2 [((ah 4 al) r1.1.nodes),((ah 1 Value.string) r1.1.names),((ah 3 av) r1.1.mems),((ah 1 i64) r1.1.outs)])] h) (fun v41=>[(21,(i64 v41))]) (fun hm=>?_) ?_
          ·refine gX ?_
           refine lw 168 [2,7,8,10,16,17,22] (σ:=Nat) (fun s=>s) (fun v43 h=>Own vars h0 [(sC g2 [((ah 4 al) r1.1.nodes),((ah 1 Value.string) r1.1.names),((ah 3 av) r1.1.mems),((ah 1 i64) r1.1.outs)])] h) (fun v43=>[(21,(i64 v43))]) v38 hm O ?_
           clear hm;rintro v43 nx44 base h hm O
           conv=>whnf
           apply Cs;conv=>whnf
           refine jn hm 168 [2,7,8,10,16,17,21,22] (fun s=>s) (fun v45 h=>Own vars h0 [(sC g2 [((ah 4 al) r1.1.nodes),((ah 1 Value.string) r1.1.names),((ah 3 av) r1.1.mems),((ah 1 i64) r1.1.outs)])] h) (fun v45=>[(127,(.bool v45))]) (fun hm=>?_) ?_
           ·refine gX ?_
            refine br hm (fun hm=>?_) fun hm=>?_
            ·refine gX ?_
             refine atF hm fun x47 hx47 hm=>?_;refine gH ?_
             refine atC hm fun x48 hx48 hm=>?_;refine gH ?_
             exact jx (ltN x47 x48) hm O
            ·refine gX ?_
             exact jx false hm O
           ·clear hm;rintro v45 base h hm O
            refine gX ?_
            refine br hm (fun hm=>?_) fun hm=>?_
            ·refine gX ?_
             refine aL hm fun hm=>?_;refine gH ?_
             exact jx (v43+1) hm O
            ·refine gX ?_
             exact jx v43 hm O
          ·clear hm;rintro v41 base h hm O
           conv=>whnf
           refine jn hm 168 [2,7,8,10,16,17,21,22] (fun s=>s) (fun v49 h=>Own vars h0 [(sC g2 [((ah 4 al) r1.1.nodes),((ah 1 Value.string) r1.1.names),((ah 3 av) r1.1.mems),((ah 1 i64) r1.1.outs)])] h) (fun v49=>[(144,(.bool v49))]) (fun hm=>?_) ?_
           ·refine gX ?_
            refine br hm (fun hm=>?_) fun hm=>?_
            ·refine gX ?_
             exact jx true hm O
            ·refine gX ?_
             refine atF hm fun x51 hx51 hm=>?_;refine gH ?_
             refine atC hm fun x52 hx52 hm=>?_;refine gH ?_
             exact jx (neN x51 x52) hm O
           ·clear hm;rintro v49 base h hm O
            refine gX ?_
            refine br hm (fun hm=>?_) fun hm=>?_
            ·refine gX ?_
             exact fe hm O
            ·refine gX ?_
             refine aL hm fun hm=>?_;refine gH ?_
             exact jx (v41,(v39+1)) hm O
         ·refine gX ?_
          exact jx () hm O
      ·clear hm;rintro _ base h hm O
       refine gX ?_
       refine aL hm fun hm=>?_;refine gH ?_
       exact jx (v30+1) hm O
     ·refine gX ?_
      exact jx () hm O
    ·clear hm;rintro _ base h hm O
     conv=>whnf
     refine jn hm 168 [7,8] (fun s=>s) (fun v53 h=>Own vars h0 [(sC g2 [((ah 4 al) r1.1.nodes),((ah 1 Value.string) r1.1.names),((ah 3 av) r1.1.mems),((ah 1 i64) r1.1.outs)])] h) (fun v53=>[(2,(z64 v53))]) (fun hm=>?_) ?_
     ·refine jn hm 168 [2,7,8] (fun s=>s) (fun v55 h=>Own vars h0 [(sC g2 [((ah 4 al) r1.1.nodes),((ah 1 Value.string) r1.1.names),((ah 3 av) r1.1.mems),((ah 1 i64) r1.1.outs)])] h) (fun v55=>[(152,(.bool v55))]) (fun hm=>?_) ?_
      ·refine gX ?_
       refine br hm (fun hm=>?_) fun hm=>?_
       ·refine gX ?_
        exact jx (ltI p2 (Int.ofNat r1.2.length)) hm O
       ·refine gX ?_
        exact jx false hm O
      ·clear hm;rintro v55 base h hm O
       refine gX ?_
       refine br hm (fun hm=>?_) fun hm=>?_
       ·refine gX ?_
        refine⟨_,zq (a:=(Int.negSucc 0)) (b:=p2) rfl rfl hm.1 hm.2.1,?_⟩;refine gH ?_
        replace hm:=hm.2.2
        exact jx ((Int.negSucc 0)-p2) hm O
       ·refine gX ?_
        exact jx p2 hm O
     ·clear hm;rintro v53 base h hm O
      refine gX ?_
      refine ldA (O.at (.head _)) ?_;refine gH ?_
      refine fz ?_;refine gH ?_
      refine ca (fM hm O.has) fun r57 hm=>?_;refine gX ?_
      refine br hm (fun hm=>?_) fun hm=>?_
      ·refine gX ?_
       refine ca (js hm O.has) fun r58 hm=>?_;refine gX ?_
       exact fe hm O
      ·refine gX ?_
       exact fe hm O
inductive Rch (r:List N2) (st:Nat->Prop):Nat->Prop
 |base {a:Nat}:st a->Rch r st a
 |step {a b:Nat}:Rch r st a->(⟨a,b⟩:N2)∈r->Rch r st b
def vw (r:List N2) (a:Nat):List Nat:=(r.filter fun x=>x.a==a).map N2.b
theorem xB {r:List N2}{a b:Nat}:b∈vw r a↔(⟨a,b⟩:N2)∈r:=by
 unfold vw
 rw[List.mem_map]
 constructor
 ·rintro⟨⟨a',b'⟩,m,rfl⟩
  obtain⟨m,e⟩:=List.mem_filter.1 m
  have e:a'=a:=by simpa using e
  rw[<- e]
  exact m
 ·intro m
  exact⟨⟨a,b⟩,List.mem_filter.2 ⟨m,by simp⟩,rfl⟩
theorem we (r:List N2) (a:Nat):(vw r a).length<=r.length:=by
 unfold vw
 rw[List.length_map]
 exact List.length_filter_le _ _
theorem AS (r:List N2) (x:N2) (a:Nat):vw (r++[x]) a=vw r a++if x.a=a then [x.b] else []:=by
 unfold vw
 rw[List.filter_append,List.map_append]
 congr 1
 by_cases e:x.a=a
 ·simp[e]
 ·simp[e]
def cntT (bs:List Bool):Nat:=bs.count true
theorem DI (bs:List Bool):cntT bs<=bs.length:=List.count_le_length
theorem vX:∀ {bs:List Bool}{a:Nat},bs[a]?=some false->cntT (bs.set a true)=cntT bs+1
 |[],_,h=>by cases h
 |b::bs,0,h=>by
  rw[List.getElem?_cons_zero] at h
  cases h
  unfold cntT
  rw[List.set_cons_zero,List.count_cons,List.count_cons]
  simp
 |b::bs,a+1,h=>by
  rw[List.getElem?_cons_succ] at h
  have:=vX h
  unfold cntT at this ⊢
  rw[List.set_cons_succ,List.count_cons,List.count_cons,this]
  omega
theorem DQ {bs:List Bool}{a:Nat}{v:Bool} (h:bs[a]?=some v):bs.getD a false=v:=by rw[List.getD,h];rfl
theorem uy {bs:List Bool}{a b:Nat} (h:a<bs.length):(bs.set a true).getD b false=true↔b=a\/bs.getD b false=true:=by
 by_cases e:b=a
 ·subst e
  rw[List.getD,List.getElem?_set_self h]
  simp
 ·rw[List.getD,List.getElem?_set_ne (fun q=>e q.symm)]
  simp[e]
structure ExpI (r:List N2) (n:Nat) (st:Nat->Prop) (M:Nat) (bs:List Bool) (todo:List Nat):Prop where
 len:bs.length=n
 snd:∀ a,bs.getD a false=true->Rch r st a
 tod:∀ a∈todo,a<n/\Rch r st a
 cls:∀ a b,bs.getD a false=true->(⟨a,b⟩:N2)∈r->bs.getD b false=true\/b∈todo
 st:∀ a,st a->bs.getD a false=true\/a∈todo
 msr:(n-cntT bs)*257+todo.length<=M
theorem ExpI.done {r:List N2}{n M:Nat}{st:Nat->Prop}{bs:List Bool} (I:ExpI r n st M bs []) (a:Nat):bs.getD a false=true↔Rch r st a:=by
 refine⟨I.snd a,fun h=>?_⟩
 induction h with
 |base h=>exact (I.st _ h).resolve_right (fun m=>by cases m)
 |step _ m ih=>exact (I.cls _ _ ih m).resolve_right (fun m=>by cases m)
theorem E2 {a b:Nat}:ltI (Int.ofNat a) (Int.ofNat b)=decide (a<b):=by
 rw[dn]
 by_cases h:a<b
 ·rw[decide_eq_true h];exact decide_eq_true (Int.ofNat_lt.2 h)
 ·rw[decide_eq_false h];exact decide_eq_false (fun q=>h (Int.ofNat_lt.1 q))
def jc (c:Circ) (l:List Flt) (ds:List Nat) (a:Nat):Prop:=∃ i∈ds,(osN c l)[i]?=some a
theorem vh {c:Circ}{l:List Flt}{i:Nat} (h:i<l.length):∃ a,(osN c l)[i]?=some a/\a<(ksF c l).length:=by
 obtain⟨f,hf⟩:=aA h
 refine⟨dL c l f,by unfold osN;rw[List.getElem?_map,hf];rfl,?_⟩
 exact List.idxOf_lt_length_iff.2 (iN.2 ⟨f,List.mem_of_getElem? hf,rfl⟩)
def iy (c:Circ) (l:List Flt) (bs:List Bool) (i:Nat):List Nat:=(List.range i).filter fun m=>bs.getD ((osN c l).getD m 0) false
theorem rZ {c:Circ} (C:Cir c) {l:List Flt} (hl:ListOk c l) {d:List Int}{K:List Nat×Nat->Prop}
  (hd:(∃ ds:List Nat,d=ds.map Int.ofNat/\(∀ i∈ds,i<l.length)/\ds.length<=65536/\∀ r bs,DomOk c (ksF c l) r->(∀ a,bs.getD a false=true↔Rch r (jc c l ds) a)->K (iy c l bs l.length,0))\/∃ bad,d=[bad]/\(bad<0\/Int.ofNat l.length<=bad)/\K ([],1)) :
  aX c l d K:=by
 have hlen:=hl.len
 have hks:=yu hl
 have hRl:=vy c l
 unfold aX
 refine mF C hl.len hl.check ⟨(fun q=>absurd rfl (dR.1 q)),fun _=>iM C hl.len hl.stuck fun ps cs P=>⟨by omega,by omega,?_⟩⟩
 refine fb (fun s=>∃ r,DomOk c (ksF c l) r/\s.2.length=(ksF c l).length/\∀ a,a<(ksF c l).length->s.2[a]?=some (vw r a)) (fun k hk=>jO C hks P.edge P.cs fun qs r hr=>?_) ?_
 ·have hrl:=hr.len
  refine aW (fun s=>s.2<=r.length/\s.1.length=(ksF c l).length/\∀ a,a<(ksF c l).length->s.1[a]?=some (vw (r.take s.2) a)) (fun s=>r.length-s.2) ?_ ⟨Nat.zero_le _,by rw[List.length_replicate];exact hRl,fun i hi=>?_⟩
  ·rintro⟨fs,t⟩ nx ⟨ht,hb1,hb2⟩ hnx
   dsimp only at ht hb1 hb2
   refine⟨fun q=>?_,fun q=>hk _ ⟨r,hr,hb1,?_⟩⟩
   ·have q:t<r.length:=aV.1 q
    obtain⟨x,hx⟩:=aA q
    have hlt:=hr.lt (List.mem_of_getElem? hx)
    have hfl:=we (r.take t) x.a
    rw[List.length_take] at hfl
    refine⟨x,hx,by rw[hRl];exact hlt.1,_,hb2 x.a hlt.1,by rw[List.length_singleton];omega,by rw[hRl];exact hlt.1,by omega,hnx _ ⟨q,(List.length_set ..).trans hb1,fun a ha=>?_⟩ (by dsimp only;omega)⟩
    dsimp only
    rw[List.getElem?_set,nm hx,AS]
    by_cases e:x.a=a
    ·subst e
     rw[if_pos rfl,if_pos (by omega),if_pos rfl]
    ·rw[if_neg e,hb2 a ha,if_neg e,List.append_nil]
   ·have q:r.length<=t:=bg.1 q
    rw[List.take_of_length_le q] at hb2
    exact hb2
  ·rw[hRl,List.getElem?_replicate,if_pos hi];rfl
 ·rintro⟨qs,fs⟩ ⟨r,hr,hf1,hf2⟩
  have hrl:=hr.len
  dsimp only at hf1 hf2
  refine⟨by omega,by omega,?_⟩
  rcases hd with⟨ds,rfl,hd,hdl,h⟩|⟨bad,rfl,hb,h⟩
  case inr =>
   refine (show au _ _ from aW (fun s=>s=([],0)) (fun _=>0) ?_ rfl)
   rintro _ nx rfl _
   refine⟨fun _=>⟨bad,rfl,?_⟩,fun q=>absurd (bg.1 q) (by simp)⟩
   refine dg (a:=true) (fun G=>⟨fun _=>G,fun e=>?_⟩) ⟨fun _=>h,fun e=>(by cases e)⟩
   have e:ltI bad (Int.ofNat l.length)=false:=by
    have e0:=oR.1 e
    have:(Int.ofNat 0)=0:=rfl
    refine oR.2 ?_
    rcases hb with hb|hb
    ·omega
    ·exact hb
   rw[e];exact G
  refine aD (fun s=>s.2<=ds.length/\s.1.length=s.2/\∀ a,a∈s.1↔jc c l (ds.take s.2) a) (fun s=>ds.length-s.2) (fun s=>s.length=ds.length/\∀ a,a∈s↔jc c l ds a) ?_ ⟨Nat.zero_le _,rfl,fun a=>⟨fun m=>(by cases m),fun ⟨_,m,_⟩=>by cases m⟩⟩ ?_
  ·rintro k ⟨td,i⟩ nx ⟨hi,ht1,ht2⟩ hnx hk
   dsimp only at hi ht1 ht2
   have hml:(ds.map Int.ofNat).length=ds.length:=List.length_map ..
   refine⟨fun q=>?_,fun q=>hk _ ?_⟩
   ·have q:i<ds.length:=hml ▸ aV.1 q
    obtain⟨d,hd1⟩:=aA q
    have hdl2:=hd d (List.mem_of_getElem? hd1)
    obtain⟨a,ha1,ha2⟩:=vh (c:=c) hdl2
    refine⟨Int.ofNat d,by rw[List.getElem?_map,hd1];rfl,?_⟩
    refine dg (a:=false) (fun G=>⟨fun e=>?_,fun _=>?_⟩) ⟨(fun e=>by cases e),fun _=>⟨d,rfl,a,ha1,by rw[List.length_singleton];omega,by omega,hnx _ ⟨q,by dsimp only;rw[List.length_append,ht1];rfl,fun b=>?_⟩ (by dsimp only;omega)⟩⟩
    ·rw[E2,decide_eq_true_eq] at e;omega
    ·rw[E2,decide_eq_true hdl2];exact G
    ·dsimp only
     rw[bb,ht2,nm hd1]
     unfold jc
     constructor
     ·rintro (⟨j,m,e⟩|rfl)
      ·exact⟨j,List.mem_append_left _ m,e⟩
      ·exact⟨d,bb.2 (.inr rfl),ha1⟩
     ·rintro⟨j,m,e⟩
      rcases bb.1 m with m|rfl
      ·exact .inl ⟨j,m,e⟩
      ·rw[ha1] at e;cases e;exact .inr rfl
   ·have q:ds.length<=i:=hml ▸ bg.1 q
    rw[List.take_of_length_le q] at ht2
    exact⟨by omega,ht2⟩
  ·rintro td ⟨htl,htd⟩
   refine aD (fun s=>ExpI r (ksF c l).length (jc c l ds) ((ksF c l).length*257+ds.length) s.1 s.2) (fun s=>((ksF c l).length-cntT s.1)*257+s.2.length) (fun s=>s.length=(ksF c l).length/\∀ a,s.getD a false=true↔Rch r (jc c l ds) a) ?_ ?_ ?_
   ·rintro k ⟨bs,todo⟩ nx I hnx hk
    dsimp only at I
    refine⟨fun q=>?_,fun q=>hk _ ?_⟩
    ·have q:0<todo.length:=aV.1 q
     rcases List.eq_nil_or_concat todo with e|⟨p,a,e⟩
     ·rw[e] at q;cases q
     ·rw[List.concat_eq_append] at e
      subst e
      have hpl:(p++[a]).length-1=p.length:=by rw[List.length_append,List.length_singleton];omega
      have hlast:(p++[a])[(p++[a]).length-1]?=some a:=by rw[hpl];simp
      have htake:(p++[a]).take ((p++[a]).length-1)=p:=by rw[hpl];simp
      have hm:=I.msr
      obtain⟨han,har⟩:=I.tod a (bb.2 (.inr rfl))
      obtain⟨v,hv⟩:=aA (l:=bs) (i:=a) (by rw[I.len];exact han)
      have hfl:=we r a
      rw[List.length_append,List.length_singleton] at hm
      have hbig:p.length<=65536*257+65536:=by
       have:(ksF c l).length*257<=65536*257:=Nat.mul_le_mul_right _ hks
       omega
      refine⟨q,by rw[List.length_append,List.length_singleton];omega,a,hlast,q,by rw[List.length_append,List.length_singleton];omega,Nat.sub_le _ _,by rw[hRl];exact han,v,hv,fun e=>?_,fun e=>?_⟩
      ·have e:v=false:=by simpa using e
       subst e
       have hc:=vX hv
       have hcl:=DI (bs.set a true)
       rw[List.length_set,I.len] at hcl
       rw[htake]
       have hmul:((ksF c l).length-cntT (bs.set a true))*257+257=((ksF c l).length-cntT bs)*257:=by
        rw[hc] at hcl ⊢
        rw[<- Nat.succ_mul]
        congr 1
        omega
       refine⟨by rw[hRl];exact han,false,hv,by rw[hRl];exact han,_,hf2 a han,by omega,hnx _ ⟨(List.length_set ..).trans I.len,fun b hb=>?_,fun b hb=>?_,fun x b hx hb=>?_,fun b hb=>?_,?_⟩ ?_⟩
       ·rcases (uy (by rw[I.len];exact han)).1 hb with rfl|hb
        ·exact har
        ·exact I.snd b hb
       ·rcases List.mem_append.1 hb with m|m
        ·exact I.tod b (bb.2 (.inl m))
        ·have m:=xB.1 m
         exact⟨(hr.lt m).2,.step har m⟩
       ·rcases (uy (by rw[I.len];exact han)).1 hx with rfl|hx
        ·exact .inr (List.mem_append_right _ (xB.2 hb))
        ·rcases I.cls x b hx hb with q1|q1
         ·exact .inl ((uy (by rw[I.len];exact han)).2 (.inr q1))
         ·rcases bb.1 q1 with m|rfl
          ·exact .inr (List.mem_append_left _ m)
          ·exact .inl ((uy (by rw[I.len];exact han)).2 (.inl rfl))
       ·rcases I.st b hb with q1|q1
        ·exact .inl ((uy (by rw[I.len];exact han)).2 (.inr q1))
        ·rcases bb.1 q1 with m|rfl
         ·exact .inr (List.mem_append_left _ m)
         ·exact .inl ((uy (by rw[I.len];exact han)).2 (.inl rfl))
       ·dsimp only
        rw[List.length_append];omega
       ·dsimp only
        rw[List.length_append,List.length_append,List.length_singleton];omega
      ·have e:v=true:=by simpa using e
       subst e
       have hva:=DQ hv
       rw[htake]
       refine hnx _ ⟨I.len,I.snd,fun b hb=>I.tod b (bb.2 (.inl hb)),fun x b hx hb=>?_,fun b hb=>?_,by dsimp only;omega⟩ (by dsimp only;rw[List.length_append,List.length_singleton];omega)
       ·rcases I.cls x b hx hb with q1|q1
        ·exact .inl q1
        ·rcases bb.1 q1 with m|rfl
         ·exact .inr m
         ·exact .inl hva
       ·rcases I.st b hb with q1|q1
        ·exact .inl q1
        ·rcases bb.1 q1 with m|rfl
         ·exact .inr m
         ·exact .inl hva
    ·have q:todo.length<=0:=bg.1 q
     have e:todo=[]:=List.length_eq_zero_iff.1 (by omega)
     subst e
     exact⟨I.len,I.done⟩
   ·have hz:∀ a,(List.replicate (ksF c l).length false).getD a false=false:=by
     intro a
     rw[List.getD,List.getElem?_replicate]
     split <;> rfl
    rw[hRl]
    refine⟨List.length_replicate ..,fun a ha=>?_,fun a ha=>?_,fun a b ha _=>?_,fun a ha=>.inr ((htd a).2 ha),?_⟩
    ·dsimp only at ha;rw[hz] at ha;cases ha
    ·have:=(htd a).1 ha
     obtain⟨i,m,e⟩:=this
     obtain⟨b,hb1,hb2⟩:=vh (c:=c) (hd i m)
     rw[hb1] at e;cases e
     exact⟨hb2,.base ⟨i,m,hb1⟩⟩
    ·dsimp only at ha;rw[hz] at ha;cases ha
    ·dsimp only
     rw[htl]
     have:((ksF c l).length-cntT (List.replicate (ksF c l).length false))*257<=(ksF c l).length*257:=Nat.mul_le_mul_right _ (Nat.sub_le _ _)
     omega
   ·rintro bs ⟨hbl,hbs⟩
    have hosl:(osN c l).length=l.length:=List.length_map ..
    refine aD (fun s=>s.2<=l.length/\s.1=iy c l bs s.2) (fun s=>l.length-s.2) (fun s=>s=iy c l bs l.length) ?_ ⟨Nat.zero_le _,rfl⟩ (fun _ e=>e ▸ h r bs hr hbs)
    rintro k ⟨out,i⟩ nx ⟨hi,ho⟩ hnx hk
    dsimp only at hi ho
    refine⟨fun q=>?_,fun q=>hk _ ?_⟩
    ·have q:i<l.length:=hosl ▸ aV.1 q
     obtain⟨a,ha1,ha2⟩:=vh (c:=c) q
     have hol:out.length<=i:=by
      rw[ho];unfold iy
      exact Nat.le_trans (List.length_filter_le _ _) (by rw[List.length_range];exact Nat.le_refl _)
     have hsucc:iy c l bs (i+1)=iy c l bs i++if bs.getD a false=true then [i] else []:=by
      unfold iy
      rw[xh]
      have:(osN c l).getD i 0=a:=by rw[List.getD,ha1];rfl
      rw[this]
     obtain⟨v,hv⟩:=aA (l:=bs) (i:=a) (by rw[hbl];exact ha2)
     have hva:=DQ hv
     refine fb (fun s=>s=iy c l bs (i+1)) (fun k2 hk2=>⟨a,ha1,by rw[hRl];exact ha2,v,hv,fun e=>⟨by rw[List.length_singleton];omega,hk2 _ ?_⟩,fun e=>hk2 _ ?_⟩) fun s hs=>⟨by omega,hnx _ ⟨q,hs⟩ (by dsimp only;omega)⟩
     ·rw[hsucc,hva,if_pos e,ho]
     ·rw[hsucc,hva,if_neg (by rw[e];decide),ho,List.append_nil]
    ·have q:l.length<=i:=hosl ▸ bg.1 q
     obtain rfl:i=l.length:=by omega
     exact ho
theorem mG {c:Circ} (C:Cir c) {l:List Flt} (hl:ListOk c l) {ds:List Nat} (hd:∀ i∈ds,i<l.length) (hdl:ds.length<=65536) {K:List Nat×Nat->Prop}
  (h:∀ r bs,DomOk c (ksF c l) r->(∀ a,bs.getD a false=true↔Rch r (jc c l ds) a)->K (iy c l bs l.length,0)):aX c l (ds.map Int.ofNat) K :=
 rZ C hl (.inl ⟨ds,rfl,hd,hdl,h⟩)
theorem yd {c:Circ} (C:Cir c) {l:List Flt} (hl:ListOk c l) {bad:Int} (hb:bad<0\/Int.ofNat l.length<=bad) {K:List Nat×Nat->Prop} (h:K ([],1)):aX c l [bad] K :=
 rZ C hl (.inr ⟨bad,rfl,hb,h⟩)
def wX (x:CData):CData:=⟨x.inp,x.dffs,x.data0,x.data1,x.bus,false,x.port0,x.port1,x.port2,x.port3,x.gates,x.outs⟩
theorem Cx {x:CData} (h:CB x):CB (wX x):=⟨h.inp,h.dffs,h.data0,h.data1,h.port0,h.port1,h.port2,h.port3,h.gates,h.outs⟩
theorem AB {x:CData} (hx:CB x) {K:Circ->Prop} (h:K (gB (wX x))):bY x K:=yF (Cx hx) h
theorem B6 {x:CData} (hm:x.mem=false):Cir (gB x):=by
 refine⟨Au hm,by rw[mC,hm];rfl,fun i y h=>?_⟩
 rcases AP hm h with⟨_,rfl⟩|⟨_,_,d,_,rfl⟩|⟨h1,_,g,hg⟩
 ·show (0:Nat)<=14;decide
 ·show (14:Nat)<=14;decide
 ·have hi:=aj h
  have hn:(gB x).nodes.length=(cD x).length:=ig _
  have q:=xD x.bus g (ks:=((cD x).take i).map Node.kind) (by rw[List.length_map,List.length_take];omega)
  rw[<- hg] at q
  have:=q.kind
  omega
theorem DA (c:Circ) (k:Nat):ofN c [k]=(List.range c.nodes.length).filter fun i=>decide (kd c i=k):=by
 unfold ofN kd
 congr 1
 funext i
 rw[Bool.eq_iff_iff]
 simp
def aM (c:Circ):List Flt:=lq 0 (nR c)
theorem rT {c:Circ} (C:Cir c):(nR c).length<=272:=by
 have:=lY C _ (Nat.le_refl _)
 have:=C.len
 unfold nR
 omega
theorem wQ {c:Circ} (C:Cir c):(aM c).length<=544:=by
 have:=rT C
 unfold aM
 rw[xb];omega
theorem kf {c:Circ}{f:Flt}:f∈aM c ↔ ∃ s,VS c s/\f=fltS s:=by
 unfold aM lq nR gW
 rw[List.mem_flatMap]
 constructor
 ·rintro⟨x,hx,m⟩
  obtain⟨i,hi,hx⟩:=List.mem_flatMap.1 hx
  unfold tA at hx
  obtain⟨j,hj,rfl⟩:=List.mem_map.1 hx
  have hi:=List.mem_range.1 hi
  have hj:=List.mem_range.1 hj
  simp only[List.mem_cons,List.not_mem_nil,or_false] at m
  rcases m with rfl|rfl
  ·exact⟨⟨i,j,0⟩,⟨hi,by dsimp only;omega,by dsimp only;omega⟩,rfl⟩
  ·exact⟨⟨i,j,1⟩,⟨hi,by dsimp only;omega,by dsimp only;omega⟩,rfl⟩
 ·rintro⟨⟨n,p,v⟩,V,rfl⟩
  have h1:=V.node
  have h2:=V.pin
  have h3:=V.v
  dsimp only at h1 h2 h3
  refine⟨⟨n,Int.ofNat p-Int.ofNat 1⟩,List.mem_flatMap.2 ⟨n,List.mem_range.2 h1,?_⟩,?_⟩
  ·unfold tA
   exact List.mem_map.2 ⟨p,List.mem_range.2 (by omega),rfl⟩
  ·have:v=0\/v=1:=by omega
   simp only[List.mem_cons,List.not_mem_nil,or_false]
   rcases this with rfl|rfl
   ·exact .inl rfl
   ·exact .inr rfl
theorem zK {c:Circ} (C:Cir c):ListOk c (aM c):=by
 refine⟨Nat.le_trans (wQ C) (by decide),fun f m _=>?_,fun f m K h=>?_⟩
 ·obtain⟨s,V,rfl⟩:=kf.1 m
  exact yD V
 ·obtain⟨s,V,rfl⟩:=kf.1 m
  exact tV C (yD V) h
theorem zp {c:Circ} (C:Cir c) {K:List Flt×Nat->Prop} (h:K (aM c,0)):hG c 0 K:=by
 have:=rT C
 exact⟨nR c,wU C rfl,by decide,by omega,h⟩
theorem BY (x:CData):0<(gB x).nodes.length:=by
 have hn:(gB x).nodes.length=(cD x).length:=ig _
 rw[hn];exact BW _
theorem Bd {x:CData} (hx:CB x) {K:Circ×List Flt->Prop} (h:∀ c,Cir c->0<c.nodes.length->K (c,aM c)):cc x K:=by
 have C:Cir (gB (wX x)):=B6 rfl
 unfold cc
 exact AB hx (zp C (h _ C (BY _)))
theorem Am {c:Circ}{l:List Flt}{f g:Flt} (hf:f∈l) (hg:g∈l):dL c l f=dL c l g↔dP c f=dP c g:=by
 constructor
 ·intro e
  have h1:=mP (iN.2 ⟨f,hf,rfl⟩:dP c f∈ksF c l)
  have h2:=mP (iN.2 ⟨g,hg,rfl⟩:dP c g∈ksF c l)
  unfold dL at e
  rw[e,h2] at h1
  exact (Option.some.inj h1).symm
 ·intro e
  unfold dL;rw[e]
theorem Ec {c:Circ}{l:List Flt}{i:Nat}{row:List Nat} (h:(RN c l)[i]?=some row):∃ k,(ksF c l)[i]?=some k/\row=lk c l k:=by
 unfold RN at h
 rw[List.getElem?_map] at h
 obtain⟨k,hk,e⟩:=Option.map_eq_some_iff.1 h
 exact⟨k,hk,e.symm⟩
theorem Dg {c:Circ}{l:List Flt}{i:Nat}{row:List Nat} (h:(RN c l)[i]?=some row) {m:Nat} (hm:m∈row):∃ f,l[m]?=some f/\dL c l f=i:=by
 obtain⟨k,hk,rfl⟩:=Ec h
 obtain⟨f,hf,e⟩:=sI.1 hm
 refine⟨f,hf,?_⟩
 unfold dL
 rw[e]
 exact BT (tX c l) hk
theorem vR {a b:List Nat} (ha:a.length<2 ^ 60) {K:Bool->Prop} (h:K (decide (a=b))):aC a b K:=by
 unfold aC
 by_cases e:a.length=b.length
 ·refine dg (a:=false) (fun G=>⟨fun q=>absurd e (dR.1 q),fun _=>?_⟩) ⟨(fun q=>by cases q),fun _=>?_⟩
  ·have:neN a.length a.length=false:=ou.2 rfl
   rw[this];exact G
  ·refine aD (fun i=>i<=a.length/\a.take i=b.take i) (fun i=>a.length-i) (fun _=>a=b) ?_ ⟨Nat.zero_le _,rfl⟩ (fun _ q=>?_)
   ·rintro k i nx ⟨hi,hp⟩ hnx hk
    refine⟨fun q=>?_,fun q=>hk _ ?_⟩
    ·have q:i<a.length:=aV.1 q
     obtain⟨x,hx⟩:=aA q
     obtain⟨y,hy⟩:=aA (l:=b) (i:=i) (by omega)
     refine⟨x,hx,y,hy,fun q2=>?_,fun q2=>⟨by omega,hnx _ ⟨q,?_⟩ (by omega)⟩⟩
     ·have:a≠b:=by
       rintro rfl
       rw[hx] at hy;cases hy
       exact dR.1 q2 rfl
      rw[decide_eq_false this] at h;exact h
     ·rw[nm hx,nm hy,hp,ou.1 q2]
    ·have q:a.length<=i:=bg.1 q
     rw[List.take_of_length_le q,List.take_of_length_le (by omega)] at hp
     exact hp
   ·rw[decide_eq_true q] at h;exact h
 ·have:a≠b:=by rintro rfl;exact e rfl
  rw[decide_eq_false this] at h
  exact dg (a:=true) (fun G=>⟨fun _=>G,fun q=>absurd (ou.1 q) e⟩) ⟨fun _=>h,fun q=>by cases q⟩
theorem zB:RN bX (aM bX)=[[0,2,4,6,8],[1,7],[3,9],[5]]:=by decide +kernel
theorem Dn:(ksF bX (aM bX)).length=4:=by decide +kernel
theorem Cc:domRaw bX (ksF bX (aM bX)) 3=[⟨1,3⟩,⟨2,3⟩]:=by decide +kernel
theorem zk:osN bX (aM bX)=[0,1,0,2,0,3,0,1,0,2]:=by decide +kernel
theorem se {r:List N2} (h:DomOk bX (ksF bX (aM bX)) r):r=[⟨1,3⟩,⟨2,3⟩]:=by
 refine pO h.sorted ?_ fun x=>?_
 ·refine List.Pairwise.cons (fun y m=>?_) (List.pairwise_singleton _ _)
  rw[List.mem_singleton] at m
  subst m
  exact .inl (by decide)
 ·rw[h.mem]
  show x∈domRaw bX (ksF bX (aM bX)) 3↔_
  rw[Cc]
theorem Aq:jl bX (aM bX) [⟨1,3⟩,⟨2,3⟩] 4=[0,1,3]:=by
 unfold jl kz
 rw[zB]
 decide +kernel
theorem A0 {bs:List Bool} (h:∀ a,bs.getD a false=true↔Rch [⟨1,3⟩,⟨2,3⟩] (jc bX (aM bX) [7]) a):iy bX (aM bX) bs 10=[1,5,7]:=by
 have hst:∀ a,jc bX (aM bX) [7] a↔a=1:=by
  intro a
  unfold jc
  rw[zk]
  constructor
  ·rintro⟨i,m,e⟩
   rw[List.mem_singleton] at m
   subst m
   cases e;rfl
  ·rintro rfl
   exact⟨7,List.mem_singleton.2 rfl,rfl⟩
 have hR:∀ a,Rch [⟨1,3⟩,⟨2,3⟩] (jc bX (aM bX) [7]) a->a=1\/a=3:=by
  intro a ha
  induction ha with
  |base q=>exact .inl ((hst _).1 q)
  |step _ m _ =>
   simp only[List.mem_cons,List.not_mem_nil,or_false,N2.mk.injEq] at m
   omega
 have b0:bs.getD 0 false=false:=by
  rw[Bool.eq_false_iff];intro q
  have:=hR _ ((h 0).1 q);omega
 have b2:bs.getD 2 false=false:=by
  rw[Bool.eq_false_iff];intro q
  have:=hR _ ((h 2).1 q);omega
 have b1:bs.getD 1 false=true:=(h 1).2 (.base ((hst 1).2 rfl))
 have b3:bs.getD 3 false=true:=(h 3).2 (.step (.base ((hst 1).2 rfl)) (by simp))
 unfold iy
 rw[zk]
 have e:(List.range 10).filter (fun m=>bs.getD (([0,1,0,2,0,3,0,1,0,2]:List Nat).getD m 0) false)=(List.range 10).filter (fun m=>([false,true,false,true]:List Bool).getD (([0,1,0,2,0,3,0,1,0,2]:List Nat).getD m 0) false):=by
  refine List.filter_congr fun m hm=>?_
  have hm:=List.mem_range.1 hm
  have key:∀ q,q<4->bs.getD q false=([false,true,false,true]:List Bool).getD q false:=by
   intro q hq
   have:q=0\/q=1\/q=2\/q=3:=by omega
   rcases this with rfl|rfl|rfl|rfl
   ·exact b0
   ·exact b1
   ·exact b2
   ·exact b3
  refine key _ ?_
  have hall:∀ m,m<10->([0,1,0,2,0,3,0,1,0,2]:List Nat).getD m 0<4:=by decide
  exact hall m hm
 rw[e]
 decide
theorem xU {K:Bool->Prop} (h:K true):bw K:=by
 have C:=Ck
 have hl:=zK C
 have h0:neN 0 0=false:=ou.2 rfl
 unfold bw cB
 refine zp C (yB C hl (tz C hl fun r hr=>Du C hl fun r2 hr2=>?_))
 have e1:=se hr
 have e2:=se hr2
 subst e1 e2
 refine mG (ds:=[7]) C hl (fun i m=>?_) (by decide) fun r3 bs hr3 hbs=>?_
 ·rw[List.mem_singleton] at m
  subst m
  decide
 have e3:=se hr3
 subst e3
 have hx:=A0 hbs
 have hc:jl bX (aM bX) [⟨1,3⟩,⟨2,3⟩] (ksF bX (aM bX)).length=[0,1,3]:=by rw[Dn];exact Aq
 have hx:iy bX (aM bX) bs (aM bX).length=[1,5,7]:=hx
 dsimp only
 rw[hc,hx,zB]
 have ik:∀ (a b:List Nat) (K:Bool->Prop),a=b->a.length<2 ^ 60->K true->aC a b K:=fun a b K e q k=>vR q (by rw[decide_eq_true e];exact k)
 refine dg (a:=false) (fun G=>⟨fun q=>absurd rfl (dR.1 q),fun _=>⟨fun q=>absurd rfl (dR.1 q),fun _=>⟨fun q=>absurd rfl (dR.1 q),fun _=>⟨fun q=>absurd rfl (dR.1 q),fun _=>⟨fun q=>absurd rfl (dR.1 q),fun _=>G⟩⟩⟩⟩⟩) ⟨(fun q=>by cases q),fun _=>?_⟩
 refine⟨_,rfl,ik _ _ _ rfl (by decide) ⟨fun _=>?_,fun q=>(by cases q)⟩⟩
 refine⟨_,rfl,ik _ _ _ rfl (by decide) ⟨fun _=>?_,fun q=>(by cases q)⟩⟩
 refine⟨_,rfl,ik _ _ _ rfl (by decide) ⟨fun _=>?_,fun q=>(by cases q)⟩⟩
 refine⟨_,rfl,ik _ _ _ rfl (by decide) ⟨fun _=>?_,fun q=>(by cases q)⟩⟩
 refine⟨_,rfl,fun _=>⟨_,rfl,fun _=>?_,fun q=>absurd q (by decide)⟩,fun q=>absurd q (by decide)⟩
 refine ik _ _ _ rfl (by decide) ⟨fun _=>?_,fun q=>(by cases q)⟩
 exact ik _ _ _ rfl (by decide) h
def gO (l:List Nat) (n most:Nat):List Nat:=(List.range n).map fun i=>if l.length=0 then 2 else l.getD (i%l.length) 0%most
theorem qG (l:List Nat) (n most:Nat):gO l (n+1) most=gO l n most++[if l.length=0 then 2 else l.getD (n%l.length) 0%most]:=by
 unfold gO
 rw[List.range_succ,List.map_append];rfl
theorem uh {l:List Nat}{n most:Nat} (h0:0<most) (h4:most<=4):∀ v∈gO l n most,v<=3:=by
 intro v m
 obtain⟨i,_,rfl⟩:=List.mem_map.1 m
 split
 ·decide
 ·have:=Nat.mod_lt (l.getD (i%l.length) 0) h0;omega
theorem uj {l:List Nat}{n most:Nat} (hn:n<=16) (h0:0<most) {K:List Nat->Prop} (h:K (gO l n most)):bq l n most K:=by
 unfold bq
 refine aD (fun s=>s.2<=n/\s.1=gO l s.2 most) (fun s=>n-s.2) (fun r=>r=gO l n most) ?_ ⟨Nat.zero_le _,rfl⟩ fun r q=>q ▸ h
 rintro k ⟨r,i⟩ nx ⟨hi,hr⟩ hnx hk
 dsimp only at hi hr
 have hrl:r.length=i:=by rw[hr];unfold gO;simp
 refine⟨fun q=>?_,fun q=>hk _ ?_⟩
 ·have q:i<n:=aV.1 q
  refine fb (fun r2=>r2=gO l (i+1) most) (fun k2 hk2=>⟨fun e=>⟨by rw[List.length_singleton];omega,hk2 _ ?_⟩,fun e=>?_⟩) fun r2 h2=>⟨by omega,hnx _ ⟨q,h2⟩ (by dsimp only;omega)⟩
  ·rw[qG,if_pos (bO.1 e),hr]
  ·have hp:0<l.length:=Nat.pos_of_ne_zero (cx.1 e)
   obtain⟨x,hx⟩:=aA (Nat.mod_lt i hp)
   refine⟨hp,x,hx,h0,by rw[List.length_singleton];omega,hk2 _ ?_⟩
   have:l.getD (i%l.length) 0=x:=by rw[List.getD,hx];rfl
   rw[qG,if_neg (cx.1 e),hr,this]
 ·have q:n<=i:=bg.1 q
  obtain rfl:i=n:=by omega
  exact hr
theorem ug {c:Circ} (hc:c.nodes.length<=16) {k:Nat}{K:Nat->Prop} (h:K (ofN c [k]).length):bp c k K:=by
 unfold bp
 rw[DA] at h
 refine aD (fun s=>s.2<=c.nodes.length/\s.1=((List.range s.2).filter fun i=>decide (kd c i=k)).length) (fun s=>c.nodes.length-s.2) (fun r=>r=((List.range c.nodes.length).filter fun i=>decide (kd c i=k)).length) ?_ ⟨Nat.zero_le _,rfl⟩ (fun _ e=>e ▸ h)
 rintro kk ⟨m,i⟩ nx ⟨hi,hm⟩ hnx hk
 dsimp only at hi hm
 refine⟨fun q=>?_,fun q=>hk _ ?_⟩
 ·have q:i<c.nodes.length:=aV.1 q
  obtain⟨x,hx⟩:=aA q
  have hle:m<=i:=by rw[hm];exact uX
  refine dg (a:=((List.range (i+1)).filter fun i=>decide (kd c i=k)).length) (fun g=>⟨x,hx,fun e=>⟨by omega,?_⟩,fun e=>?_⟩) ⟨by omega,hnx _ ⟨q,rfl⟩ (by dsimp only;omega)⟩
  ·rw[xh,if_pos (by rw[fE hx];exact decide_eq_true (bO.1 e)),List.length_append,<- hm] at g;exact g
  ·rw[xh,if_neg (by rw[fE hx,decide_eq_true_eq];exact cx.1 e),List.append_nil,<- hm] at g;exact g
 ·have q:c.nodes.length<=i:=bg.1 q
  have:i=c.nodes.length:=by omega
  subst this
  exact hm
def BF (c:Circ) (z:PData):Pat:=⟨gO z.inp (ofN c [0]).length 4,gO z.state (ofN c [14]).length 3⟩
theorem Df (c:Circ) (z:PData):PatOk c (BF c z) :=
 ⟨by unfold BF gO;simp,by unfold BF gO;simp,uh (by decide) (by decide),uh (by decide) (by decide)⟩
theorem DL {c:Circ} (C:Cir c) {z:PData}{K:Pat->Prop} (h:K (BF c z)):fj z c K:=by
 have hlen:=C.len
 have l1:=gx c [0]
 have l2:=gx c [14]
 unfold fj
 exact ug hlen (uj (by omega) (by decide) (ug hlen (uj (by omega) (by decide) h)))
structure ClsP (c:Circ) (D:Flt->Prop):Prop where
 same:∀ s t,VS c s->VS c t->clsN c s=clsN c t->D (fltS s)->D (fltS t)
 dom:∀ n j r,n<c.nodes.length->j<(insOf c n).length->steerR (kd c n)=some r->D (fltS (domPin n j r))->D (fltS (domOut n r))
theorem wF {c:Circ} (C:Cir c) {p:Pat} (hp:PatOk c p):ClsP c fun f=>gK c p f=true :=
 ⟨fun _ _ hs ht e h=>(Bw C hp hs ht e).symm.trans h,fun _ _ _ hn hj hr h=>DN C hp hn hj hr h⟩
theorem yZ {c:Circ}{f:Flt} (hf:f∈aM c) {i:Nat}{s:Si} (h:dL c (aM c) f=i) (hs:fltS (clsN c s)∈ksF c (aM c)) (hi:(ksF c (aM c)).idxOf (fltS (clsN c s))=i):∃ t,VS c t/\f=fltS t/\clsN c t=clsN c s:=by
 obtain⟨t,vt,rfl⟩:=kf.1 hf
 have h1:=mP (iN.2 ⟨_,hf,rfl⟩:dP c (fltS t)∈ksF c (aM c))
 have h2:=mP hs
 unfold dL at h
 rw[h] at h1
 rw[hi,h1] at h2
 rw[ow] at h2
 exact⟨t,vt,rfl,vg (Option.some.inj h2)⟩
theorem ClsP.go {c:Circ}{D:Flt->Prop} (P:ClsP c D) {r:List N2} (R:DomOk c (ksF c (aM c)) r) {x:N2} (h:x∈r) {f g:Flt} (hf:f∈aM c) (hg:g∈aM c) (h1:dL c (aM c) f=x.a) (h2:dL c (aM c) g=x.b) (hd:D f):D g:=by
 obtain⟨n,ru,j,hn,hr,hj,k1,k2,rfl⟩:=vA.1 ((R.mem x).1 h)
 obtain⟨s,vs,rfl,es⟩:=yZ hf h1 k1 rfl
 obtain⟨t,vt,rfl,et⟩:=yZ hg h2 k2 rfl
 have v1:=xu (r:=ru) hn hj
 have v2:=xM (r:=ru) hn
 exact P.same _ _ v2 vt et.symm (P.dom n j ru hn hj hr (P.same _ _ vs v1 es hd))
theorem ClsP.one {c:Circ}{D:Flt->Prop} (P:ClsP c D) {f g:Flt} (hf:f∈aM c) (hg:g∈aM c) (h:dL c (aM c) f=dL c (aM c) g) (hd:D f):D g:=by
 have e:=(Am hf hg).1 h
 obtain⟨s,vs,rfl⟩:=kf.1 hf
 obtain⟨t,vt,rfl⟩:=kf.1 hg
 rw[ow,ow] at e
 exact P.same s t vs vt (vg e) hd
theorem C2 {c:Circ} (C:Cir c) {p:Pat} (hp:PatOk c p) {f:Flt} (hf:f∈aM c) {K:Bool×Nat->Prop} (h:K (gK c p f,0)):cr c f p K:=by
 obtain⟨s,vs,rfl⟩:=kf.1 hf
 exact yw C hp (yD vs) h
theorem CO {c:Circ}{l:List Flt}{i:Nat}{row:List Nat} (h:(RN c l)[i]?=some row) {k m:Nat} (hm:row[k]?=some m):∃ f,l[m]?=some f/\f∈l/\dL c l f=i:=by
 obtain⟨f,h1,h2⟩:=Dg h (List.mem_of_getElem? hm)
 exact⟨f,h1,List.mem_of_getElem? h1,h2⟩
theorem Ak {c:Circ}{l:List Flt}{i:Nat} (h:i<(ksF c l).length):∃ row x f,(RN c l)[i]?=some row/\row[0]?=some x/\0<row.length/\l[x]?=some f/\f∈l/\dL c l f=i:=by
 obtain⟨k,x,t,_,hrow,_⟩:=CA h
 obtain⟨f,h1,h2,h3⟩:=CO hrow (show (x::t)[0]?=some x from rfl)
 exact⟨_,x,f,hrow,rfl,by simp,h1,h2,h3⟩
def xd (c:Circ) (p:Pat) (j:Nat):Bool:=match (aM c)[j]? with
 |some f=>gK c p f
 |none=>false
def oS (c:Circ) (p:Pat) (i:Nat):List Nat:=(List.range i).filter (xd c p)
theorem tL (c:Circ) (p:Pat) (i:Nat):oS c p (i+1)=oS c p i++if xd c p i=true then [i] else []:=by
 unfold oS
 exact xh
theorem Bi {c:Circ}{p:Pat}{j:Nat} (h:j∈oS c p (aM c).length):∃ f,(aM c)[j]?=some f/\f∈aM c/\gK c p f=true:=by
 obtain⟨h1,h2⟩:=List.mem_filter.1 h
 have h1:=List.mem_range.1 h1
 obtain⟨f,hf⟩:=aA h1
 unfold xd at h2
 rw[hf] at h2
 exact⟨f,hf,List.mem_of_getElem? hf,h2⟩
theorem xR {c:Circ}{j:Nat}{f:Flt} (h:(aM c)[j]?=some f):(osN c (aM c))[j]?=some (dL c (aM c) f):=by
 unfold osN
 rw[List.getElem?_map,h];rfl
theorem zD {c:Circ}{j:Nat}{f:Flt} (h:(aM c)[j]?=some f):(osN c (aM c)).getD j 0=dL c (aM c) f:=by
 rw[List.getD,xR h];rfl
theorem zm {c:Circ} (C:Cir c) {p:Pat} (hp:PatOk c p) {r:List N2} (R:DomOk c (ksF c (aM c)) r) {ds:List Nat} (hd:∀ i∈ds,i∈oS c p (aM c).length) {a:Nat} (h:Rch r (jc c (aM c) ds) a):∀ f∈aM c,dL c (aM c) f=a->gK c p f=true:=by
 induction h with
 |base q =>
  obtain⟨i,m,e⟩:=q
  obtain⟨g,hg,hgm,hgd⟩:=Bi (hd i m)
  rw[xR hg] at e
  intro f hf hfa
  exact (wF C hp).one hgm hf ((Option.some.inj e).trans hfa.symm) hgd
 |@step a b _ m ih =>
  intro f hf hfb
  have ha:=(R.lt m).1
  obtain⟨row,x,g,_,_,_,_,g5,g6⟩:=Ak (c:=c) (l:=aM c) (i:=a) ha
  exact (wF C hp).go R m g5 hf g6 hfb (ih g g5 g6)
theorem Dy {c:Circ} (C:Cir c) {p:Pat} (hp:PatOk c p) {r:List N2} (R:DomOk c (ksF c (aM c)) r) {bs:List Bool} (h:∀ a,bs.getD a false=true↔Rch r (jc c (aM c) (oS c p (aM c).length)) a):iy c (aM c) bs (aM c).length=oS c p (aM c).length:=by
 unfold iy
 conv=>rhs;unfold oS
 refine List.filter_congr fun j hj=>?_
 have hj:=List.mem_range.1 hj
 obtain⟨f,hf⟩:=aA hj
 rw[zD hf]
 have e:xd c p j=gK c p f:=by unfold xd;rw[hf]
 rw[e,Bool.eq_iff_iff,h]
 constructor
 ·intro q
  exact zm C hp R (fun _ m=>m) q f (List.mem_of_getElem? hf) rfl
 ·intro q
  refine .base ⟨j,List.mem_filter.2 ⟨List.mem_range.2 hj,?_⟩,xR hf⟩
  rw[e];exact q
theorem AV {c:Circ}{r:List N2} (_R:DomOk c (ksF c (aM c)) r) {ds:List Nat} (hd:∀ i∈ds,i<(aM c).length) {bs cs:List Bool} (hb:∀ a,bs.getD a false=true↔Rch r (jc c (aM c) ds) a)
  (hc:∀ a,cs.getD a false=true↔Rch r (jc c (aM c) (iy c (aM c) bs (aM c).length)) a):iy c (aM c) cs (aM c).length=iy c (aM c) bs (aM c).length:=by
 have hst:∀ a,jc c (aM c) (iy c (aM c) bs (aM c).length) a->Rch r (jc c (aM c) ds) a:=by
  rintro a ⟨i,m,e⟩
  obtain⟨m1,m2⟩:=List.mem_filter.1 m
  have:(osN c (aM c)).getD i 0=a:=by rw[List.getD,e];rfl
  rw[this] at m2
  exact (hb a).1 m2
 have hin:∀ a,jc c (aM c) ds a->jc c (aM c) (iy c (aM c) bs (aM c).length) a:=by
  rintro a ⟨i,m,e⟩
  refine⟨i,List.mem_filter.2 ⟨List.mem_range.2 (hd i m),?_⟩,e⟩
  have:(osN c (aM c)).getD i 0=a:=by rw[List.getD,e];rfl
  rw[this]
  exact (hb a).2 (.base ⟨i,m,e⟩)
 have hiff:∀ a,Rch r (jc c (aM c) (iy c (aM c) bs (aM c).length)) a↔Rch r (jc c (aM c) ds) a:=by
  intro a
  constructor
  ·intro q
   induction q with
   |base q=>exact hst _ q
   |step _ m ih=>exact .step ih m
  ·intro q
   induction q with
   |base q=>exact .base (hin _ q)
   |step _ m ih=>exact .step ih m
 unfold iy
 refine List.filter_congr fun j _=>?_
 rw[Bool.eq_iff_iff]
 have:=(hc ((osN c (aM c)).getD j 0)).trans ((hiff _).trans (hb _).symm)
 exact this
theorem oJ (n:Nat):(List.range n).Pairwise (· < ·):=List.pairwise_lt_range
theorem nF {l:List Nat} (h:l.Pairwise (· < ·)) {i j a b:Nat} (hi:l[i]?=some a) (hj:l[j]?=some b):i<j↔a<b:=by
 obtain⟨h1,rfl⟩:=List.getElem?_eq_some_iff.1 hi
 obtain⟨h2,rfl⟩:=List.getElem?_eq_some_iff.1 hj
 constructor
 ·intro q
  exact List.pairwise_iff_getElem.1 h _ _ h1 h2 q
 ·intro q
  rcases Nat.lt_trichotomy i j with e|e|e
  ·exact e
  ·subst e;omega
  ·have:=List.pairwise_iff_getElem.1 h _ _ h2 h1 e
   omega
theorem nZ {x:CData} (hx:CB x) {z:PData}{bad:Int}{K:Bool->Prop} (h:K true):bl x z bad K:=by
 unfold bl
 refine Bd hx fun c C hpos=>DL C ?_
 have hp:=Df c z
 obtain⟨p,hpe⟩:∃ p,BF c z=p:=⟨_,rfl⟩
 rw[hpe] at hp ⊢
 have hl:=zK C
 have hll:=wQ C
 have e0:neN 0 0=false:=ou.2 rfl
 dsimp only
 refine aD (fun s=>s.2<=(aM c).length/\s.1=oS c p s.2) (fun s=>(aM c).length-s.2) (fun s=>s=oS c p (aM c).length) ?_ ⟨Nat.zero_le _,rfl⟩ ?_
 ·rintro k ⟨own,j⟩ nx ⟨hj,ho⟩ hnx hk
  dsimp only at hj ho
  refine⟨fun q=>?_,fun q=>hk _ ?_⟩
  ·have q:j<(aM c).length:=aV.1 q
   obtain⟨f,hf⟩:=aA q
   have hol:own.length<=j:=by
    rw[ho];unfold oS
    exact Nat.le_trans (List.length_filter_le _ _) (by rw[List.length_range];exact Nat.le_refl _)
   have e:xd c p j=gK c p f:=by unfold xd;rw[hf]
   refine fb (fun s=>s=oS c p (j+1)) (fun k2 hk2=>⟨f,hf,C2 C hp (List.mem_of_getElem? hf) ⟨fun q=>absurd rfl (dR.1 q),fun _=>⟨fun q2=>⟨by dsimp only;rw[List.length_singleton];omega,hk2 _ ?_⟩,fun q2=>hk2 _ ?_⟩⟩⟩) fun s hs=>⟨by omega,hnx _ ⟨q,hs⟩ (by dsimp only;omega)⟩
   ·rw[tL,e,if_pos q2,ho]
   ·rw[tL,e,if_neg (by rw[show gK c p f=false from q2];decide),ho,List.append_nil]
  ·have q:(aM c).length<=j:=bg.1 q
   obtain rfl:j=(aM c).length:=by omega
   exact ho
 rintro _ rfl
 obtain⟨own,hown⟩:∃ own,oS c p (aM c).length=own:=⟨_,rfl⟩
 have ownlt:∀ i∈own,i<(aM c).length:=by
  rw[<- hown]
  intro i m
  exact List.mem_range.1 (List.mem_filter.1 m).1
 have owns:own.Pairwise (· < ·):=by
  rw[<- hown]
  exact List.Pairwise.filter _ (oJ _)
 have ownlen:own.length<=544:=by
  rw[<- hown];unfold oS
  exact Nat.le_trans (List.length_filter_le _ _) (by rw[List.length_range];omega)
 have ownE:∀ r bs,DomOk c (ksF c (aM c)) r->(∀ a,bs.getD a false=true↔Rch r (jc c (aM c) own) a)->iy c (aM c) bs (aM c).length=own:=by
  rw[<- hown]
  intro r bs R hb
  exact Dy C hp R hb
 rw[hown]
 refine mG C hl ownlt (by omega) fun r bs R hb=>?_
 rw[ownE r bs R hb]
 dsimp only
 refine dg (a:=false) (fun G=>⟨fun q=>absurd rfl (dR.1 q),fun _=>vR (by omega) (by rw[decide_eq_true rfl];exact G)⟩) ⟨(fun q=>by cases q),fun _=>?_⟩
 refine ec (l:=own) ?_ ?_ ?_
 ·intro k i nx d hd1 hi hn
  refine⟨fun _=>?_,fun q=>by have:=bg.1 q;omega⟩
  refine fb (fun _=>True) (fun k2 hk2=>⟨by omega,by omega,hi,?_⟩) fun _ _=>⟨by omega,hn⟩
  have hone:(own.take (i+1)).drop i=[d]:=by
   rw[nm hd1,List.drop_append_of_le_length (by rw[List.length_take];omega),List.drop_of_length_le (by rw[List.length_take];omega)]
   rfl
  rw[hone]
  have hdm:=List.mem_of_getElem? hd1
  refine mG (ds:=[d]) C hl (fun j m=>by rw[List.mem_singleton] at m;subst m;exact ownlt _ hdm) (by simp) fun r1 b1 R1 hb1=>?_
  obtain rfl:=R.eq R1
  obtain⟨one,hone1⟩:∃ one,iy c (aM c) b1 (aM c).length=one:=⟨_,rfl⟩
  rw[hone1]
  have onelt:∀ j∈one,j<(aM c).length:=by
   rw[<- hone1]
   intro j m
   exact List.mem_range.1 (List.mem_filter.1 m).1
  have ones:one.Pairwise (· < ·):=by
   rw[<- hone1]
   exact List.Pairwise.filter _ (oJ _)
  have onelen:one.length<=544:=by
   rw[<- hone1];unfold iy
   exact Nat.le_trans (List.length_filter_le _ _) (by rw[List.length_range];omega)
  have onesub:∀ j∈one,j∈own:=by
   rw[<- hone1,<- hown]
   intro j m
   obtain⟨m1,m2⟩:=List.mem_filter.1 m
   have m1:=List.mem_range.1 m1
   obtain⟨f,hf⟩:=aA m1
   rw[zD hf] at m2
   have:=zm C hp R (ds:=[d]) (fun i m=>by rw[List.mem_singleton] at m;subst m;rw[hown];exact hdm) ((hb1 _).1 m2) f (List.mem_of_getElem? hf) rfl
   refine List.mem_filter.2 ⟨List.mem_range.2 m1,?_⟩
   unfold xd
   rw[hf];exact this
  have twoE:∀ r2 b2,DomOk c (ksF c (aM c)) r2->(∀ a,b2.getD a false=true↔Rch r2 (jc c (aM c) one) a)->iy c (aM c) b2 (aM c).length=one:=by
   intro r2 b2 R2 hb2
   obtain rfl:=R.eq R2
   rw[<- hone1] at hb2 ⊢
   exact AV R (ds:=[d]) (fun j m=>by rw[List.mem_singleton] at m;subst m;exact ownlt _ hdm) hb1 hb2
  dsimp only
  refine mG C hl onelt (by omega) fun r2 b2 R2 hb2=>?_
  rw[twoE r2 b2 R2 hb2]
  dsimp only
  refine dg (a:=false) (fun G=>⟨fun q=>absurd rfl (dR.1 q),fun _=>⟨fun q=>absurd rfl (dR.1 q),fun _=>vR (by omega) (by rw[decide_eq_true rfl];exact G)⟩⟩) ⟨(fun q=>by cases q),fun _=>?_⟩
  refine aW (fun s=>s.2<=one.length/\s.1<=own.length/\∀ q y w,q<s.1->own[q]?=some y->one[s.2]?=some w->y<w) (fun s=>one.length-s.2) ?_ ⟨Nat.zero_le _,Nat.zero_le _,fun q y w hq=>absurd hq (Nat.not_lt_zero _)⟩
  rintro⟨k0,j⟩ nx2 ⟨hj,hk0,hI⟩ hnx2
  dsimp only at hj hk0 hI
  refine⟨fun q=>?_,fun _=>hk2 _ trivial⟩
  have q:j<one.length:=aV.1 q
  obtain⟨w,hw⟩:=aA q
  have hwm:=onesub w (List.mem_of_getElem? hw)
  obtain⟨q0,hq0⟩:=List.mem_iff_getElem?.1 hwm
  have hq0l:=aj hq0
  refine aD (fun k'=>k'<=q0) (fun k'=>own.length-k') (fun k'=>k'=q0) ?_ ?_ ?_
  ·intro k3 k' nx3 hk' hnx3 hk3
   obtain⟨y,hy⟩:=aA (l:=own) (i:=k') (by omega)
   have hlt:=nF owns hy hq0
   refine dg (a:=ltN y w) (fun G=>⟨fun _=>⟨y,hy,w,hw,G⟩,fun q2=>by have:=bg.1 q2;omega⟩) ⟨fun e=>⟨by omega,hnx3 _ ?_ (by omega)⟩,fun e=>hk3 _ ?_⟩
   ·have:=aV.1 e
    have:=hlt.2 this
    omega
   ·have:=bg.1 e
    have:¬ k'<q0:=fun q3=>by have:=hlt.1 q3;omega
    omega
  ·by_cases q3:k0<=q0
   ·exact q3
   ·have:=hI q0 w w (by omega) hq0 hw
    omega
  ·rintro _ rfl
   refine dg (a:=false) (fun G=>⟨fun q2=>by have:=lZ.1 q2;omega,fun _=>⟨w,hq0,w,hw,?_⟩⟩) ⟨(fun q=>by cases q),fun _=>⟨by omega,hnx2 _ ⟨q,by dsimp only;omega,fun q2 y w2 h1 h2 h3=>?_⟩ (by dsimp only;omega)⟩⟩
   ·have:neN w w=false:=ou.2 rfl
    rw[this];exact G
   ·dsimp only at h1 h3
    have:=(nF owns h2 hq0).1 h1
    have:=(nF ones hw h3).1 (Nat.lt_succ_self j)
    omega
 ·intro k i nx hi hk
  refine⟨fun q=>?_,fun _=>hk⟩
  have:=aV.1 q;omega
 have z0:Int.ofNat 0=0:=rfl
 have zl:Int.ofNat (aM c).length=((aM c).length:Int):=rfl
 have m1:Int.negSucc 0 = -1:=rfl
 have fin:∀ b:Int,(b<0\/Int.ofNat (aM c).length<=b)->aX c (aM c) [b] (fun r57=>((eqN r57.2 1)=true->bw (fun r58=>K r58))/\((eqN r57.2 1)=false->K false)):=fun b hb2 =>
  yd C hl hb2 ⟨fun _=>xU h,fun q=>absurd rfl (cx.1 q)⟩
 refine fb (fun b=>b<0\/Int.ofNat (aM c).length<=b) (fun k4 hk4=>?_) fun b hb2=>fin b hb2
 refine fb (fun v=>v=decide (0<=bad/\bad<Int.ofNat (aM c).length)) (fun k5 hk5=>⟨fun q=>hk5 _ ?_,fun q=>hk5 _ ?_⟩) ?_
 ·have q:ltI bad (Int.ofNat 0)=false:=by simpa using q
  have q:=oR.1 q
  rw[dn]
  have:0<=bad:=q
  simp[this]
 ·have q:ltI bad (Int.ofNat 0)=true:=by simpa using q
  have q:=wm.1 q
  have:¬ 0<=bad:=by omega
  simp[this]
 ·rintro _ rfl
  refine⟨fun q=>?_,fun q=>hk4 _ ?_⟩
  ·have q:=of_decide_eq_true q
   exact⟨by omega,by omega,hk4 _ (.inl (by omega))⟩
  ·have q:=of_decide_eq_false q
   omega
theorem DM {x:shP.Den} (w:shP.wf x):∃ y:PData,PB y/\elV (!true) (shP.bc x)=De y:=by
 obtain⟨a,b,u⟩:=x
 obtain⟨wa,wb,_⟩:=w
 obtain⟨a',q1,e1⟩:=pF wa
 obtain⟨b',q2,e2⟩:=pF wb
 refine⟨⟨a',b'⟩,⟨q1,q2⟩,?_⟩
 show Value.agg ⟨(Sh.slice shB).bc a++((Sh.slice shB).bc b++[])⟩=_
 rw[e1,e2];rfl
def cN:List (Sh×Bool):=[(shC,true),(shP,true),(DY,false)]
theorem mb (x:AM cN) (w:wfL cN x):FnV Tryz.prog NG vars 6 ⟨Ct cN x⟩ (.bool true):=by
 obtain⟨c,z,s,u⟩:=x
 obtain⟨wc,wz,ws,_⟩:=w
 obtain⟨y,hy,e1⟩:=Fi wc
 obtain⟨q,_,e2⟩:=DM wz
 have e:Ct cN (c,z,s,u)=[bH y,De q,z64 s]:=by
  show [elV (!true) (shC.bc c),elV (!true) (shP.bc z),elV (!false) (DY.bc s)]=_
  rw[e1,e2];rfl
 rw[e]
 exact FnV.rq (enc:=Value.bool) (r:=true) (PureV.flat rfl) fun h hB=>fa (K:=fun r=>r=true) (nZ hy rfl) hB
end Go.Proofs.YtobphhjcadjfjaaGreatDoor
