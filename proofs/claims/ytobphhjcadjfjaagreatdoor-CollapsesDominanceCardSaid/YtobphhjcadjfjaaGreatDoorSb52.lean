/-
  W3, Co5, Cir12, Co7, Co8, Arg14, CollapsesDominance: parts of the proof.
-/
import Derived.Test.YtobphhjcadjfjaaGreatDoorSb51
namespace Go.Proofs.YtobphhjcadjfjaaGreatDoor
open Go.Abs
set_option maxRecDepth 100000
set_option maxHeartbeats 8000000
def iv (p0:Circ) (p1:List Flt) (p2:List Nat) (K:List Nat×Nat->Prop):Prop:=bL p0 p1 (p2.map Int.ofNat) K
theorem ly {p0:Circ}{p1:List Flt}{p2:List Nat}{K:List Nat×Nat->Prop} (hm:iv p0 p1 p2 K) {h0:Heap} (hB:HasB vars h0):∃ r,K r/\CallD Tryz.prog NG 14 ⟨[az p0,(ah 5 aw) p1,(ah 1 i64) p2]⟩ h0 ((fun (r:List Nat×Nat)=>Value.tuple ⟨[(aQ 1 i64) (r.1),i64 (r.2)]⟩) r) h0:=by
 have e:ah 1 z64 (p2.map Int.ofNat)=ah 1 i64 p2:=by unfold ah;rw[List.map_map];rfl
 rw[<- e]
 exact kS hm hB
def bn (p0:Circ) (p1:Nat) (K:Nat->Prop):Prop :=
 an (α:=Nat) (fun k2=>au (S:=(Nat×Nat)) (fun (v3,v4) nx5=>((ltN v4 p0.nodes.length)=true->an (α:=Nat) (fun k7=>∃ x8,p0.nodes[v4]?=some x8/\((eqN x8.kind p1)=true->v3+1<2 ^ 63/\k7 (v3+1))/\((eqN x8.kind p1)=false->k7 v3)) (fun v6=>v4+1<2 ^ 63/\nx5 (v6,(v4+1))))/\((ltN v4 p0.nodes.length)=false->k2 v3)) (0,0)) (fun v1=>K v1)
theorem eQ {p0:Circ}{p1:Nat}{K:Nat->Prop} (hm:bn p0 p1 K) {h0:Heap} (hB:HasB vars h0):∃ r,K r/\CallD Tryz.prog NG 19 ⟨[az p0,n8 p1]⟩ h0 (i64 r) h0:=by
 unfold bn at hm
 refine fw Tryz.func19 hB (enc:=i64) (fun r=>PureV.flat rfl) fun O=>?_;conv=>whnf
 refine gX ?_
 refine fz ?_;refine gH ?_
 apply Cs;conv=>whnf
 apply Cs;refine gH ?_
 refine jn hm 25 [] (fun s=>s) (fun v1 h=>Own vars h0 [] h) (fun v1=>[(5,(i64 v1))]) (fun hm=>?_) ?_
 ·refine gX ?_
  refine lw 25 [1,2] (σ:=(Nat×Nat)) (fun s=>s) (fun (v3,v4) h=>Own vars h0 [] h) (fun (v3,v4)=>[(5,(i64 v3)),(6,(i64 v4))]) (0,0) hm O ?_
  clear hm;rintro⟨v3,v4⟩ nx5 base h hm O
  refine gX ?_
  refine br hm (fun hm=>?_) fun hm=>?_
  ·apply Cs;conv=>whnf
   refine jn hm 25 [1,2,6] (fun s=>s) (fun v6 h=>Own vars h0 [] h) (fun v6=>[(5,(i64 v6))]) (fun hm=>?_) ?_
   ·refine gX ?_
    refine atF hm fun x8 hx8 hm=>?_;refine gX ?_
    refine br hm (fun hm=>?_) fun hm=>?_
    ·refine gX ?_
     refine aM hm fun hm=>?_;refine gH ?_
     exact jx (v3+1) hm O
    ·refine gX ?_
     exact jx v3 hm O
   ·clear hm;rintro v6 base h hm O
    refine gX ?_
    refine aM hm fun hm=>?_;refine gH ?_
    exact jx (v6,(v4+1)) hm O
  ·refine gX ?_
   exact jx v3 hm O
 ·clear hm;rintro v1 base h hm O
  refine gX ?_
  exact fe hm O
def bo (p0:(List Nat)) (p1:Nat) (p2:Nat) (K:(List Nat)->Prop):Prop :=
 an (α:=(List Nat)) (fun k6=>au (S:=((List Nat)×Nat)) (fun (v8,v9) nx11=>((ltN v9 p1)=true->an (α:=(List Nat)) (fun k15=>((eqN p0.length 0)=true->(v8.length+([2]:(List Nat)).length)*1<=2 ^ 47/\k15 (v8++([2]:(List Nat))))/\((eqN p0.length 0)=false->0<p0.length/\∃ x18,p0[(v9%p0.length)]?=some x18/\0<p2/\(v8.length+([(x18%p2)]:(List Nat)).length)*1<=2 ^ 47/\k15 (v8++([(x18%p2)]:(List Nat))))) (fun v13=>v9+1<2 ^ 63/\nx11 (v13,(v9+1))))/\((ltN v9 p1)=false->k6 v8)) (([]:List Nat),0)) (fun v4=>K v4)
theorem eO {p0:(List Nat)}{p1:Nat}{p2:Nat}{K:(List Nat)->Prop} (hm:bo p0 p1 p2 K) {h0:Heap} (hB:HasB vars h0):∃ r,K r/\CallD Tryz.prog NG 18 ⟨[(ah 1 n8) p0,i64 p1,n8 p2]⟩ h0 ((ah 1 n8) r) h0:=by
 unfold bo at hm
 refine fw Tryz.func18 hB (enc:=(ah 1 n8)) (fun r=>dT (fun _=>ai.cons (PureV.flat rfl) ai.nil)) fun O=>?_;conv=>whnf
 apply Cs;conv=>whnf
 apply Cs;refine gH ?_
 have O:=O.aL (.cells (flatC ((([]:List Nat)).map n8)) false)
 apply Cs;conv=>whnf
 apply Cs;refine gH ?_
 have O:=O.aL (.cells (flatC ((([]:List Nat)).map n8)) false)
 refine jn (σ:=(List Nat)×Option Nat) hm 33 [] (fun s=>s.1) (fun (v4,a3) h=>(a3=none->v4=[])/\Own vars h0 [(a3,.cells (flatC (v4.map n8)) false)] h) (fun (v4,a3)=>[(7,(ag 1 a3 (v4.map n8)))]) (fun hm=>?_) ?_
 ·refine gX ?_
  refine lw 33 [0,1,2] (σ:=((List Nat)×Nat)×Option Nat) (fun s=>s.1) (fun ((v8,v9),a7) h=>(a7=none->v8=[])/\Own vars h0 [(a7,.cells (flatC (v8.map n8)) false)] h) (fun ((v8,v9),a7)=>[(7,(ag 1 a7 (v8.map n8))),(8,(i64 v9))]) ((([]:List Nat),0),none) hm ⟨(fun _=>rfl),(O.sel [0] (by decide))⟩ ?_
  clear hm;rintro⟨⟨v8,v9⟩,a7⟩ nx11 base h hm ⟨ha10,O⟩
  refine gX ?_
  refine br hm (fun hm=>?_) fun hm=>?_
  ·apply Cs;conv=>whnf
   refine jn (σ:=(List Nat)×Option Nat) hm 33 [0,1,2,8] (fun s=>s.1) (fun (v13,a12) h=>(a12=none->v13=[])/\Own vars h0 [(a12,.cells (flatC (v13.map n8)) false)] h) (fun (v13,a12)=>[(7,(ag 1 a12 (v13.map n8)))]) (fun hm=>?_) ?_
   ·refine gX ?_
    refine br hm (fun hm=>?_) fun hm=>?_
    ·refine gX ?_
     refine fz ?_;refine gH ?_
     refine O.apL (enc:=n8) (l:=v8) (new:=([2]:(List Nat))) 1 (.head _) ha10 hm fun a16 h ha17 O hm=>?_;refine gH ?_
     exact jx ((v8++([2]:(List Nat))),a16) hm ⟨ha17,O⟩
    ·refine gX ?_
     refine qU hm fun hm=>?_;refine gH ?_
     refine atF hm fun x18 hx18 hm=>?_;refine gH ?_
     refine qU hm fun hm=>?_;refine gH ?_
     refine fz ?_;refine gH ?_
     refine O.apL (enc:=n8) (l:=v8) (new:=([(x18%p2)]:(List Nat))) 1 (.head _) ha10 hm fun a19 h ha20 O hm=>?_;refine gH ?_
     exact jx ((v8++([(x18%p2)]:(List Nat))),a19) hm ⟨ha20,O⟩
   ·clear hm;rintro⟨v13,a12⟩ base h hm ⟨ha14,O⟩
    refine gX ?_
    refine aM hm fun hm=>?_;refine gH ?_
    exact jx ((v13,(v9+1)),a12) hm ⟨ha14,O⟩
  ·refine gX ?_
   exact jx (v8,a7) hm ⟨ha10,O⟩
 ·clear hm;rintro⟨v4,a3⟩ base h hm ⟨ha5,O⟩
  refine gX ?_
  exact⟨v4,hm,O.ext,fun h2 F=>O.iu F (Nat.le_refl _) (.head _) ha5 (fun _=>rfl)⟩
def ff (p0:PData) (p1:Circ) (K:Pat->Prop):Prop :=
 bn p1 0 (fun r3=>bo p0.inp r3 4 (fun r4=>bn p1 14 (fun r5=>bo p0.state r5 3 (fun r6=>K (⟨r4,r6⟩:Pat)))))
theorem qP {p0:PData}{p1:Circ}{K:Pat->Prop} (hm:ff p0 p1 K) {h0:Heap} (hB:HasB vars h0):∃ r,K r/\CallD Tryz.prog NG 8 ⟨[Dn p0,az p1]⟩ h0 (lP r) h0:=by
 unfold ff at hm
 refine fw Tryz.func8 hB (enc:=lP) (fun r=>AV _) fun O=>?_;conv=>whnf
 refine gX ?_
 refine fz ?_;refine gH ?_
 refine fz ?_;refine gH ?_
 refine O.new (ak (l:=[(.slice none 0 0),(.slice none 0 0)]) rfl rfl rfl) fun g1 h O=>?_;refine gH ?_
 refine gX ?_
 refine dF ?_
 refine gX ?_
 refine dF ?_
 refine gX ?_
 refine ca (eQ hm O.has) fun r3 hm=>?_;refine gH ?_
 refine⟨.inl (Ext.refl _),?_⟩;refine gH ?_
 refine ca (eO hm O.has) fun r4 hm=>?_;refine gH ?_
 refine⟨.inl (Ext.refl _),?_⟩;refine gH ?_
 refine dF ?_
 refine gX ?_
 refine dF ?_
 refine gX ?_
 refine ca (eQ hm O.has) fun r5 hm=>?_;refine gH ?_
 refine⟨.inl (Ext.refl _),?_⟩;refine gH ?_
 refine ca (eO hm O.has) fun r6 hm=>?_;refine gH ?_
 refine⟨.inl (Ext.refl _),?_⟩;refine gH ?_
 refine O.stC 2 (.head _) [((ah 1 n8) r4),((ah 1 n8) r6)] fun h O=>?_;refine gH ?_
 refine gX ?_
 refine⟨_,aG rfl rfl (O.at (.head _)) rfl rfl (lbE rfl) rfl,?_⟩;conv=>whnf
 exact fe hm O
def cA  (K:(Circ×(List Flt))->Prop):Prop :=
 gS (⟨([(⟨0,([]:(List Nat)),0,0⟩:Node),(⟨0,([]:(List Nat)),0,0⟩:Node),(⟨5,([0,1]:(List Nat)),0,0⟩:Node)]:(List Node)),([(⟨#[97]⟩:ByteArray),(⟨#[98]⟩:ByteArray),(⟨#[121]⟩:ByteArray)]:(List ByteArray)),([]:(List Memo)),([2]:(List Nat))⟩:Circ) 0 (fun r5=>K ((⟨([(⟨0,([]:(List Nat)),0,0⟩:Node),(⟨0,([]:(List Nat)),0,0⟩:Node),(⟨5,([0,1]:(List Nat)),0,0⟩:Node)]:(List Node)),([(⟨#[97]⟩:ByteArray),(⟨#[98]⟩:ByteArray),(⟨#[121]⟩:ByteArray)]:(List ByteArray)),[],([2]:(List Nat))⟩:Circ),r5.1))
theorem jU  {K:(Circ×(List Flt))->Prop} (hm:cA  K) {h0:Heap} (hB:HasB vars h0):∃ r,K r/\CallD Tryz.prog NG 25 ⟨[]⟩ h0 ((fun (r:(Circ×(List Flt)))=>Value.tuple ⟨[az (r.1),(ah 5 aw) (r.2)]⟩) r) h0:=by
 unfold cA at hm
 refine fw Tryz.func25 hB (enc:=(fun (r:(Circ×(List Flt)))=>Value.tuple ⟨[az (r.1),(ah 5 aw) (r.2)]⟩)) (fun r=>PureV.tup (ai.cons (mH _) (ai.cons (dT (fun _=>pO _)) (ai.nil)))) fun O=>?_;conv=>whnf
 refine gX ?_
 refine O.new (ak (l:=[(.slice none 0 0),(.slice none 0 0),(.slice none 0 0),(.slice none 0 0)]) rfl rfl rfl) fun g1 h O=>?_;refine gH ?_
 refine gX ?_
 refine fz ?_;refine gH ?_
 refine NewG.frzW rfl (VLe.els (s:=4) (es':=([(⟨0,([]:(List Nat)),0,0⟩:Node),(⟨0,([]:(List Nat)),0,0⟩:Node),(⟨5,([0,1]:(List Nat)),0,0⟩:Node)]).map al) rfl (cc (enc:=al) (s:=4) (fun _=>rfl) _) (LLe.cons (VLe.refl _ _) (LLe.cons (VLe.nil _ _) (LLe.cons (VLe.refl _ _) (LLe.cons (VLe.refl _ _) (LLe.cons (VLe.refl _ _) (LLe.cons (VLe.nil _ _) (LLe.cons (VLe.refl _ _) (LLe.cons (VLe.refl _ _) (LLe.cons (VLe.refl _ _) (LLe.cons (VLe.refl _ _) (LLe.cons (VLe.refl _ _) (LLe.cons (VLe.refl _ _) (LLe.nil _)))))))))))))) ?_;refine gH ?_
 refine fz ?_;refine gH ?_
 refine fz ?_;refine gH ?_
 refine O.new (ak (l:=[(.slice none 0 0),(.slice none 0 0),(.slice none 0 0),(.slice none 0 0)]) rfl rfl rfl) fun g3 h O=>?_;refine gH ?_
 refine O.stC 4 (.head _) [((ah 4 al) ([(⟨0,([]:(List Nat)),0,0⟩:Node),(⟨0,([]:(List Nat)),0,0⟩:Node),(⟨5,([0,1]:(List Nat)),0,0⟩:Node)]:(List Node))),((ah 1 Value.string) ([(⟨#[97]⟩:ByteArray),(⟨#[98]⟩:ByteArray),(⟨#[121]⟩:ByteArray)]:(List ByteArray))),(.slice none 0 0),((ah 1 i64) ([2]:(List Nat)))] fun h O=>?_;refine gX ?_
 refine ldA (O.at (.head _)) ?_;refine gH ?_
 refine caW (ln hm O.has) (LLe.cons (VLe.agg (LLe.cons (VLe.refl _ _) (LLe.cons (VLe.refl _ _) (LLe.cons (VLe.nil _ _) (LLe.cons (VLe.refl _ _) (LLe.nil _)))))) (LLe.cons (VLe.refl _ _) (LLe.nil _))) fun r5 hm=>?_;refine gX ?_
 refine ldA (O.at (.head _)) ?_;refine gH ?_
 refine O.stC 4 (.tail _ (.head _)) [((ah 4 al) ([(⟨0,([]:(List Nat)),0,0⟩:Node),(⟨0,([]:(List Nat)),0,0⟩:Node),(⟨5,([0,1]:(List Nat)),0,0⟩:Node)]:(List Node))),((ah 1 Value.string) ([(⟨#[97]⟩:ByteArray),(⟨#[98]⟩:ByteArray),(⟨#[121]⟩:ByteArray)]:(List ByteArray))),(.slice none 0 0),((ah 1 i64) ([2]:(List Nat)))] fun h O=>?_;refine gX ?_
 refine⟨_,aG rfl rfl (O.at (.tail _ (.head _))) rfl rfl (lbE rfl) rfl,?_⟩;conv=>whnf
 exact⟨((⟨([(⟨0,([]:(List Nat)),0,0⟩:Node),(⟨0,([]:(List Nat)),0,0⟩:Node),(⟨5,([0,1]:(List Nat)),0,0⟩:Node)]:(List Node)),([(⟨#[97]⟩:ByteArray),(⟨#[98]⟩:ByteArray),(⟨#[121]⟩:ByteArray)]:(List ByteArray)),[],([2]:(List Nat))⟩:Circ),r5.1),hm,O.ext,fun h2 F=>VLe.tup (LLe.cons (VLe.agg (LLe.cons (VLe.refl _ _) (LLe.cons (VLe.refl _ _) (LLe.cons (VLe.nil _ _) (LLe.cons (VLe.refl _ _) (LLe.nil _)))))) (LLe.cons (VLe.refl _ _) (LLe.nil _)))⟩
def aH (p0:(List Nat)) (p1:(List Nat)) (K:Bool->Prop):Prop :=
 an (α:=Bool) (fun k2=>((neN p0.length p1.length)=true->k2 true)/\((neN p0.length p1.length)=false->k2 (neN p0.length p0.length))) (fun v1=>(v1=true->K false)/\(v1=false->an (α:=Unit) (fun k3=>au (S:=Nat) (fun v4 nx5=>((ltN v4 p0.length)=true->∃ x6,p0[v4]?=some x6/\∃ x7,p1[v4]?=some x7/\((neN x6 x7)=true->K false)/\((neN x6 x7)=false->v4+1<2 ^ 63/\nx5 (v4+1)))/\((ltN v4 p0.length)=false->k3 ())) 0) (fun _=>K true)))
theorem bj {p0:(List Nat)}{p1:(List Nat)}{K:Bool->Prop} (hm:aH p0 p1 K) {h0:Heap} (hB:HasB vars h0):∃ r,K r/\CallD Tryz.prog NG 15 ⟨[(aQ 1 i64) p0,(ah 1 i64) p1]⟩ h0 (Value.bool r) h0:=by
 unfold aH at hm
 refine fw Tryz.func15 hB (enc:=Value.bool) (fun r=>PureV.flat rfl) fun O=>?_;conv=>whnf
 apply Cs;conv=>whnf
 apply Cs;refine gH ?_
 apply Cs;conv=>whnf
 refine jn hm 33 [0,1] (fun s=>s) (fun v1 h=>Own vars h0 [] h) (fun v1=>[(17,(.bool v1))]) (fun hm=>?_) ?_
 ·refine gX ?_
  refine lmC ?_;refine gH ?_
  refine br hm (fun hm=>?_) fun hm=>?_
  ·refine gX ?_
   exact jx true hm O
  ·refine gX ?_
   refine cpC ?_;refine gH ?_
   refine lmC ?_;refine gH ?_
   exact jx (neN p0.length p0.length) hm O
 ·clear hm;rintro v1 base h hm O
  refine gX ?_
  refine br hm (fun hm=>?_) fun hm=>?_
  ·refine gX ?_
   exact fe hm O
  ·apply Cs;conv=>whnf
   refine jn hm 33 [] (fun s=>s) (fun _ h=>Own vars h0 [] h) (fun _=>[]) (fun hm=>?_) ?_
   ·refine gX ?_
    refine lw 33 [0,1] (σ:=Nat) (fun s=>s) (fun v4 h=>Own vars h0 [] h) (fun v4=>[(5,(i64 v4))]) 0 hm O ?_
    clear hm;rintro v4 nx5 base h hm O
    refine gX ?_
    refine lmC ?_;refine gX ?_
    refine br hm (fun hm=>?_) fun hm=>?_
    ·refine gX ?_
     refine atC hm fun x6 hx6 hm=>?_;refine gH ?_
     refine atF hm fun x7 hx7 hm=>?_;refine gX ?_
     refine br hm (fun hm=>?_) fun hm=>?_
     ·refine gX ?_
      exact fe hm O
     ·refine gX ?_
      refine aM hm fun hm=>?_;refine gH ?_
      exact jx (v4+1) hm O
    ·refine gX ?_
     exact jx () hm O
   ·clear hm;rintro _ base h hm O
    refine gX ?_
    exact fe hm O
def bI  (K:Bool->Prop):Prop :=
 cA  (fun r1=>bK r1.1 r1.2 (fun r4=>bp r1.1 r1.2 (fun r5=>cW r1.1 r1.2 (fun r6=>iv r1.1 r1.2 ([7]:(List Nat)) (fun r7=>an (α:=Bool) (fun k9=>((neN r4.2 0)=true->k9 true)/\((neN r4.2 0)=false->((neN r5.2 0)=true->k9 true)/\((neN r5.2 0)=false->((neN r6.2 0)=true->k9 true)/\((neN r6.2 0)=false->((neN r7.2 0)=true->k9 true)/\((neN r7.2 0)=false->((neN r4.1.length 4)=true->k9 true)/\((neN r4.1.length 4)=false->k9 (neN r5.1.length 2))))))) (fun v8=>(v8=true->K false)/\(v8=false->∃ x10,r4.1[0]?=some x10/\aH x10 ([0,2,4,6,8]:(List Nat)) (fun r11=>(r11=true->∃ x12,r4.1[1]?=some x12/\aH x12 ([1,7]:(List Nat)) (fun r13=>(r13=true->∃ x14,r4.1[2]?=some x14/\aH x14 ([3,9]:(List Nat)) (fun r15=>(r15=true->∃ x16,r4.1[3]?=some x16/\aH x16 ([5]:(List Nat)) (fun r17=>(r17=true->∃ x18,r5.1[0]?=some x18/\(((eqN x18.a 1)&&((eqN x18.b 3)&&true))=true->∃ x19,r5.1[1]?=some x19/\(((eqN x19.a 2)&&((eqN x19.b 3)&&true))=true->aH r6.1 ([0,1,3]:(List Nat)) (fun r20=>(r20=true->aH r7.1 ([1,5,7]:(List Nat)) (fun r21=>K r21))/\(r20=false->K false)))/\(((eqN x19.a 2)&&((eqN x19.b 3)&&true))=false->K false))/\(((eqN x18.a 1)&&((eqN x18.b 3)&&true))=false->K false))/\(r17=false->K false)))/\(r15=false->K false)))/\(r13=false->K false)))/\(r11=false->K false)))))))))
theorem jo  {K:Bool->Prop} (hm:bI  K) {h0:Heap} (hB:HasB vars h0):∃ r,K r/\CallD Tryz.prog NG 11 ⟨[]⟩ h0 (Value.bool r) h0:=by
 unfold bI at hm
 refine fw Tryz.func11 hB (enc:=Value.bool) (fun r=>PureV.flat rfl) fun O=>?_;conv=>whnf
 refine gX ?_
 refine ca (jU hm O.has) fun r1 hm=>?_;refine gH ?_
 refine O.new (ak (l:=[nS,nS,nS,nS]) rfl rfl rfl) fun g2 h O=>?_;refine gH ?_
 refine O.stC 4 (.head _) [((ah 4 al) r1.1.nodes),((ah 1 Value.string) r1.1.names),((ah 3 aA) r1.1.mems),((ah 1 i64) r1.1.outs)] fun h O=>?_;refine gX ?_
 refine ldA (O.at (.head _)) ?_;refine gH ?_
 refine ca (fL hm O.has) fun r4 hm=>?_;refine gX ?_
 refine ldA (O.at (.head _)) ?_;refine gH ?_
 refine ca (eP hm O.has) fun r5 hm=>?_;refine gX ?_
 refine ldA (O.at (.head _)) ?_;refine gH ?_
 refine ca (na hm O.has) fun r6 hm=>?_;refine gX ?_
 refine ldA (O.at (.head _)) ?_;refine gH ?_
 refine fz ?_;refine gH ?_
 refine ca (ly hm O.has) fun r7 hm=>?_;refine gH ?_
 apply Cs;conv=>whnf
 refine jn hm 114 [3,5,7,9] (fun s=>s) (fun v8 h=>Own vars h0 [] h) (fun v8=>[(63,(.bool v8))]) (fun hm=>?_) ?_
 ·refine gX ?_
  refine br hm (fun hm=>?_) fun hm=>?_
  ·refine gX ?_
   refine bt ?_;refine gH ?_
   refine bt ?_;refine gH ?_
   refine bt ?_;refine gH ?_
   refine bt ?_;refine gH ?_
   exact jx true hm (O.sel [] (by decide))
  ·refine gX ?_
   refine br hm (fun hm=>?_) fun hm=>?_
   ·refine gX ?_
    refine bt ?_;refine gH ?_
    refine bt ?_;refine gH ?_
    refine bt ?_;refine gH ?_
    exact jx true hm (O.sel [] (by decide))
   ·refine gX ?_
    refine br hm (fun hm=>?_) fun hm=>?_
    ·refine gX ?_
     refine bt ?_;refine gH ?_
     refine bt ?_;refine gH ?_
     exact jx true hm (O.sel [] (by decide))
    ·refine gX ?_
     refine br hm (fun hm=>?_) fun hm=>?_
     ·refine gX ?_
      refine bt ?_;refine gH ?_
      exact jx true hm (O.sel [] (by decide))
     ·refine gX ?_
      refine lmC ?_;refine gH ?_
      refine br hm (fun hm=>?_) fun hm=>?_
      ·refine gX ?_
       exact jx true hm (O.sel [] (by decide))
      ·refine gX ?_
       exact jx (neN r5.1.length 2) hm (O.sel [] (by decide))
 ·clear hm;rintro v8 base h hm O
  refine gX ?_
  refine br hm (fun hm=>?_) fun hm=>?_
  ·refine gX ?_
   exact fe hm O
  ·refine gX ?_
   refine atC hm fun x10 hx10 hm=>?_;refine gH ?_
   refine fz ?_;refine gH ?_
   refine ca (bj hm O.has) fun r11 hm=>?_;refine gH ?_
   refine br hm (fun hm=>?_) fun hm=>?_
   ·refine gX ?_
    refine atC hm fun x12 hx12 hm=>?_;refine gH ?_
    refine fz ?_;refine gH ?_
    refine ca (bj hm O.has) fun r13 hm=>?_;refine gH ?_
    refine br hm (fun hm=>?_) fun hm=>?_
    ·refine gX ?_
     refine atC hm fun x14 hx14 hm=>?_;refine gH ?_
     refine fz ?_;refine gH ?_
     refine ca (bj hm O.has) fun r15 hm=>?_;refine gH ?_
     refine br hm (fun hm=>?_) fun hm=>?_
     ·refine gX ?_
      refine atC hm fun x16 hx16 hm=>?_;refine gH ?_
      refine fz ?_;refine gH ?_
      refine ca (bj hm O.has) fun r17 hm=>?_;refine gH ?_
      refine br hm (fun hm=>?_) fun hm=>?_
      ·refine gX ?_
       refine atF hm fun x18 hx18 hm=>?_;refine gH ?_
       refine⟨.bool ((eqN x18.a 1)&&((eqN x18.b 3)&&true)),by kernel_rfl,?_⟩;refine gH ?_
       refine br hm (fun hm=>?_) fun hm=>?_
       ·refine gX ?_
        refine atF hm fun x19 hx19 hm=>?_;refine gH ?_
        refine⟨.bool ((eqN x19.a 2)&&((eqN x19.b 3)&&true)),by kernel_rfl,?_⟩;refine gH ?_
        refine br hm (fun hm=>?_) fun hm=>?_
        ·refine gX ?_
         refine fz ?_;refine gH ?_
         refine ca (bj hm O.has) fun r20 hm=>?_;refine gH ?_
         refine br hm (fun hm=>?_) fun hm=>?_
         ·refine gX ?_
          refine fz ?_;refine gH ?_
          refine ca (bj hm O.has) fun r21 hm=>?_;refine gX ?_
          exact fe hm O
         ·refine gX ?_
          exact fe hm O
        ·refine gX ?_
         refine bf ?_;refine gX ?_
         exact fe hm O
       ·refine gX ?_
        refine bf ?_;refine gH ?_
        refine bf ?_;refine gX ?_
        exact fe hm O
      ·refine gX ?_
       refine bf ?_;refine gH ?_
       refine bf ?_;refine gH ?_
       refine bf ?_;refine gX ?_
       exact fe hm O
     ·refine gX ?_
      refine bf ?_;refine gH ?_
      refine bf ?_;refine gH ?_
      refine bf ?_;refine gH ?_
      refine bf ?_;refine gX ?_
      exact fe hm O
    ·refine gX ?_
     refine bf ?_;refine gH ?_
     refine bf ?_;refine gH ?_
     refine bf ?_;refine gH ?_
     refine bf ?_;refine gH ?_
     refine bf ?_;refine gX ?_
     exact fe hm O
   ·refine gX ?_
    refine bf ?_;refine gH ?_
    refine bf ?_;refine gH ?_
    refine bf ?_;refine gH ?_
    refine bf ?_;refine gH ?_
    refine bf ?_;refine gH ?_
    refine bf ?_;refine gX ?_
    exact fe hm O
def cd (p0:CData) (K:(Circ×(List Flt))->Prop):Prop :=
 bZ p0 (fun r3=>gS r3 0 (fun r6=>K (r3,r6.1)))
theorem kf {p0:CData}{K:(Circ×(List Flt))->Prop} (hm:cd p0 K) {h0:Heap} (hB:HasB vars h0):∃ r,K r/\CallD Tryz.prog NG 7 ⟨[bE p0]⟩ h0 ((fun (r:(Circ×(List Flt)))=>Value.tuple ⟨[az (r.1),(ah 5 aw) (r.2)]⟩) r) h0:=by
 unfold cd at hm
 refine fw Tryz.func7 hB (enc:=(fun (r:(Circ×(List Flt)))=>Value.tuple ⟨[az (r.1),(ah 5 aw) (r.2)]⟩)) (fun r=>PureV.tup (ai.cons (mH _) (ai.cons (dT (fun _=>pO _)) (ai.nil)))) fun O=>?_;conv=>whnf
 refine gX ?_
 refine fz ?_;refine gH ?_
 refine O.new (ak (l:=[(.slice none 0 0),(.slice none 0 0),(.slice none 0 0),(.slice none 0 0)]) rfl rfl rfl) fun g1 h O=>?_;refine gH ?_
 refine gX ?_
 refine ca (iE hm O.has) fun r3 hm=>?_;refine gH ?_
 refine O.new (ak (l:=[(.slice none 0 0),(.slice none 0 0),(.slice none 0 0),(.slice none 0 0)]) rfl rfl rfl) fun g4 h O=>?_;refine gH ?_
 refine O.stC 4 (.head _) [((ah 4 al) r3.nodes),((ah 1 Value.string) r3.names),((ah 3 aA) r3.mems),((ah 1 i64) r3.outs)] fun h O=>?_;refine gX ?_
 refine ldA (O.at (.head _)) ?_;refine gH ?_
 refine ca (ln hm O.has) fun r6 hm=>?_;refine gX ?_
 refine ldA (O.at (.head _)) ?_;refine gH ?_
 refine O.stC 4 (.tail _ (.head _)) [((ah 4 al) r3.nodes),((ah 1 Value.string) r3.names),((ah 3 aA) r3.mems),((ah 1 i64) r3.outs)] fun h O=>?_;refine gX ?_
 refine⟨_,aG rfl rfl (O.at (.tail _ (.head _))) rfl rfl (lbE rfl) rfl,?_⟩;conv=>whnf
 exact⟨(r3,r6.1),hm,O.ext,fun h2 F=>VLe.tup (LLe.cons (VLe.refl _ _) (LLe.cons (VLe.refl _ _) (LLe.nil _)))⟩
def aX (p0:CData) (p1:PData) (K:Bool->Prop):Prop :=
 cd p0 (fun r1=>ff p1 r1.1 (fun r4=>bK r1.1 r1.2 (fun r7=>bp r1.1 r1.2 (fun r8=>an (α:=Bool) (fun k10=>((neN r7.2 0)=true->k10 true)/\((neN r7.2 0)=false->k10 (neN r8.2 0))) (fun v9=>(v9=true->K false)/\(v9=false->an (α:=Unit) (fun k11=>au (S:=Nat) (fun v12 nx13=>((ltN v12 r8.1.length)=true->∃ x14,r8.1[v12]?=some x14/\∃ x15,r8.1[v12]?=some x15/\an (α:=Bool) (fun k17=>((ltN x14.a 0)=true->k17 true)/\((ltN x14.a 0)=false->((ltN x15.b 0)=true->k17 true)/\((ltN x15.b 0)=false->((!ltN x14.a r7.1.length)=true->k17 true)/\((!ltN x14.a r7.1.length)=false->((!ltN x15.b r7.1.length)=true->k17 true)/\((!ltN x15.b r7.1.length)=false->((eqN x14.a x15.b)=true->k17 true)/\((eqN x14.a x15.b)=false->∃ x18,r7.1[x14.a]?=some x18/\((eqN x18.length 0)=true->k17 true)/\((eqN x18.length 0)=false->∃ x19,r7.1[x15.b]?=some x19/\((eqN x19.length 0)=true->k17 true)/\((eqN x19.length 0)=false->((ltN 0 v12)=true->1<=v12/\v12<2 ^ 63/\∃ x20,r8.1[(v12-1)]?=some x20/\((ltN x14.a x20.a)=true->k17 true)/\((ltN x14.a x20.a)=false->1<=v12/\v12<2 ^ 63/\∃ x21,r8.1[(v12-1)]?=some x21/\((eqN x14.a x21.a)=true->1<=v12/\v12<2 ^ 63/\∃ x22,r8.1[(v12-1)]?=some x22/\k17 (!ltN x22.b x15.b))/\((eqN x14.a x21.a)=false->k17 false)))/\((ltN 0 v12)=false->k17 false))))))))) (fun v16=>(v16=true->K false)/\(v16=false->∃ x23,r7.1[x14.a]?=some x23/\∃ x24,x23[0]?=some x24/\∃ x25,r1.2[x24]?=some x25/\bS r1.1 x25 r4 (fun r26=>∃ x27,r7.1[x15.b]?=some x27/\∃ x28,x27[0]?=some x28/\∃ x29,r1.2[x28]?=some x29/\bS r1.1 x29 r4 (fun r30=>an (α:=Bool) (fun k32=>((neN r26.2 0)=true->k32 true)/\((neN r26.2 0)=false->((neN r30.2 0)=true->k32 true)/\((neN r30.2 0)=false->(r26.1=true->k32 (!r30.1))/\(r26.1=false->k32 false)))) (fun v31=>(v31=true->K false)/\(v31=false->v12+1<2 ^ 63/\nx13 (v12+1))))))))/\((ltN v12 r8.1.length)=false->k11 ())) 0) (fun _=>bI  (fun r33=>K r33))))))))
theorem dV {p0:CData}{p1:PData}{K:Bool->Prop} (hm:aX p0 p1 K) {h0:Heap} (hB:HasB vars h0):∃ r,K r/\CallD Tryz.prog NG 4 ⟨[bE p0,Dn p1]⟩ h0 (Value.bool r) h0:=by
 unfold aX at hm
 refine fw Tryz.func4 hB (enc:=Value.bool) (fun r=>PureV.flat rfl) fun O=>?_;conv=>whnf
 refine gX ?_
 refine fz ?_;refine gH ?_
 refine fz ?_;refine gX ?_
 refine ca (kf hm O.has) fun r1 hm=>?_;refine gH ?_
 refine O.new (ak (l:=[nS,nS,nS,nS]) rfl rfl rfl) fun g2 h O=>?_;refine gH ?_
 refine O.stC 4 (.head _) [((ah 4 al) r1.1.nodes),((ah 1 Value.string) r1.1.names),((ah 3 aA) r1.1.mems),((ah 1 i64) r1.1.outs)] fun h O=>?_;refine gX ?_
 refine ldA (O.at (.head _)) ?_;refine gH ?_
 refine ca (qP hm O.has) fun r4 hm=>?_;refine gH ?_
 refine O.new (ak (l:=[nS,nS]) rfl rfl rfl) fun g5 h O=>?_;refine gH ?_
 refine O.stC 2 (.head _) [((ah 1 n8) r4.inp),((ah 1 n8) r4.state)] fun h O=>?_;refine gX ?_
 refine ldA (O.at (.tail _ (.head _))) ?_;refine gH ?_
 refine ca (fL hm O.has) fun r7 hm=>?_;refine gX ?_
 refine ldA (O.at (.tail _ (.head _))) ?_;refine gH ?_
 refine ca (eP hm O.has) fun r8 hm=>?_;refine gH ?_
 apply Cs;conv=>whnf
 refine jn hm 178 [5,6,7,8,10] (fun s=>s) (fun v9 h=>Own vars h0 [(sC g2 [((ah 4 al) r1.1.nodes),((ah 1 Value.string) r1.1.names),((ah 3 aA) r1.1.mems),((ah 1 i64) r1.1.outs)]),(sC g5 [((ah 1 n8) r4.inp),((ah 1 n8) r4.state)])] h) (fun v9=>[(44,(.bool v9))]) (fun hm=>?_) ?_
 ·refine gX ?_
  refine br hm (fun hm=>?_) fun hm=>?_
  ·refine gX ?_
   exact jx true hm (O.sel [1,0] (by decide))
  ·refine gX ?_
   exact jx (neN r8.2 0) hm (O.sel [1,0] (by decide))
 ·clear hm;rintro v9 base h hm O
  refine gX ?_
  refine br hm (fun hm=>?_) fun hm=>?_
  ·refine gX ?_
   exact fe hm O
  ·apply Cs;conv=>whnf
   refine jn hm 178 [] (fun s=>s) (fun _ h=>Own vars h0 [] h) (fun _=>[]) (fun hm=>?_) ?_
   ·refine gX ?_
    refine lw 178 [5,6,7,8,10] (σ:=Nat) (fun s=>s) (fun v12 h=>Own vars h0 [(sC g2 [((ah 4 al) r1.1.nodes),((ah 1 Value.string) r1.1.names),((ah 3 aA) r1.1.mems),((ah 1 i64) r1.1.outs)]),(sC g5 [((ah 1 n8) r4.inp),((ah 1 n8) r4.state)])] h) (fun v12=>[(12,(i64 v12))]) 0 hm O ?_
    clear hm;rintro v12 nx13 base h hm O
    refine gX ?_
    refine br hm (fun hm=>?_) fun hm=>?_
    ·refine gX ?_
     refine atF hm fun x14 hx14 hm=>?_;refine gH ?_
     refine jq rfl ?_;refine gX ?_
     refine atF hm fun x15 hx15 hm=>?_;refine gH ?_
     refine jq rfl ?_;refine gH ?_
     apply Cs;conv=>whnf
     refine jn hm 178 [5,6,7,8,10,12,13,14] (fun s=>s) (fun v16 h=>Own vars h0 [(sC g2 [((ah 4 al) r1.1.nodes),((ah 1 Value.string) r1.1.names),((ah 3 aA) r1.1.mems),((ah 1 i64) r1.1.outs)]),(sC g5 [((ah 1 n8) r4.inp),((ah 1 n8) r4.state)])] h) (fun v16=>[(133,(.bool v16))]) (fun hm=>?_) ?_
     ·refine gX ?_
      refine br hm (fun hm=>?_) fun hm=>?_
      ·refine gX ?_
       refine bt ?_;refine gH ?_
       refine bt ?_;refine gH ?_
       refine bt ?_;refine gH ?_
       refine bt ?_;refine gH ?_
       refine bt ?_;refine gH ?_
       refine bt ?_;refine gH ?_
       exact jx true hm O
      ·refine gX ?_
       refine br hm (fun hm=>?_) fun hm=>?_
       ·refine gX ?_
        refine bt ?_;refine gH ?_
        refine bt ?_;refine gH ?_
        refine bt ?_;refine gH ?_
        refine bt ?_;refine gH ?_
        refine bt ?_;refine gH ?_
        exact jx true hm O
       ·refine gX ?_
        refine lmC ?_;refine gH ?_
        refine br hm (fun hm=>?_) fun hm=>?_
        ·refine gX ?_
         refine bt ?_;refine gH ?_
         refine bt ?_;refine gH ?_
         refine bt ?_;refine gH ?_
         refine bt ?_;refine gH ?_
         exact jx true hm O
        ·refine gX ?_
         refine lmC ?_;refine gH ?_
         refine br hm (fun hm=>?_) fun hm=>?_
         ·refine gX ?_
          refine bt ?_;refine gH ?_
          refine bt ?_;refine gH ?_
          refine bt ?_;refine gH ?_
          exact jx true hm O
         ·refine gX ?_
          refine br hm (fun hm=>?_) fun hm=>?_
          ·refine gX ?_
           refine bt ?_;refine gH ?_
           refine bt ?_;refine gH ?_
           exact jx true hm O
          ·refine gX ?_
           refine atC hm fun x18 hx18 hm=>?_;refine gH ?_
           refine lmC ?_;refine gH ?_
           refine br hm (fun hm=>?_) fun hm=>?_
           ·refine gX ?_
            refine bt ?_;refine gH ?_
            exact jx true hm O
           ·refine gX ?_
            refine atC hm fun x19 hx19 hm=>?_;refine gH ?_
            refine lmC ?_;refine gH ?_
            refine br hm (fun hm=>?_) fun hm=>?_
            ·refine gX ?_
             exact jx true hm O
            ·refine gX ?_
             refine br hm (fun hm=>?_) fun hm=>?_
             ·refine gX ?_
              refine nc hm fun hm=>?_;refine gH ?_
              refine atF hm fun x20 hx20 hm=>?_;refine gH ?_
              refine jq rfl ?_;refine gH ?_
              refine br hm (fun hm=>?_) fun hm=>?_
              ·refine gX ?_
               exact jx true hm O
              ·refine gX ?_
               refine nc hm fun hm=>?_;refine gH ?_
               refine atF hm fun x21 hx21 hm=>?_;refine gH ?_
               refine jq rfl ?_;refine gH ?_
               refine br hm (fun hm=>?_) fun hm=>?_
               ·refine gX ?_
                refine nc hm fun hm=>?_;refine gH ?_
                refine atF hm fun x22 hx22 hm=>?_;refine gH ?_
                refine jq rfl ?_;refine gH ?_
                exact jx (!ltN x22.b x15.b) hm O
               ·refine gX ?_
                exact jx false hm O
             ·refine gX ?_
              exact jx false hm O
     ·clear hm;rintro v16 base h hm O
      refine gX ?_
      refine br hm (fun hm=>?_) fun hm=>?_
      ·refine gX ?_
       exact fe hm O
      ·refine gX ?_
       refine ldA (O.at (.head _)) ?_;refine gH ?_
       first|refine⟨.inr (.inr (aZ rfl (O.at (.head _)) rfl rfl (lbE rfl) rfl)),?_⟩|refine⟨.inr (.inl (by kernel_rfl)),?_⟩
       refine gX ?_
       refine atC hm fun x23 hx23 hm=>?_;refine gH ?_
       refine dF ?_
       refine gX ?_
       refine atC hm fun x24 hx24 hm=>?_;refine gH ?_
       refine atF hm fun x25 hx25 hm=>?_;refine gH ?_
       refine dF ?_
       refine gX ?_
       refine ldA (O.at (.tail _ (.head _))) ?_;refine gH ?_
       first|refine⟨.inr (.inr (aZ rfl (O.at (.tail _ (.head _))) rfl rfl (lbE rfl) rfl)),?_⟩|refine⟨.inr (.inl (by kernel_rfl)),?_⟩
       refine gX ?_
       refine ca (iC hm O.has) fun r26 hm=>?_;refine gH ?_
       refine⟨.inl (Ext.refl _),?_⟩;refine gH ?_
       refine gX ?_
       refine ldA (O.at (.head _)) ?_;refine gH ?_
       first|refine⟨.inr (.inr (aZ rfl (O.at (.head _)) rfl rfl (lbE rfl) rfl)),?_⟩|refine⟨.inr (.inl (by kernel_rfl)),?_⟩
       refine gX ?_
       refine atC hm fun x27 hx27 hm=>?_;refine gH ?_
       refine dF ?_
       refine gX ?_
       refine atC hm fun x28 hx28 hm=>?_;refine gH ?_
       refine atF hm fun x29 hx29 hm=>?_;refine gH ?_
       refine dF ?_
       refine gX ?_
       refine ldA (O.at (.tail _ (.head _))) ?_;refine gH ?_
       first|refine⟨.inr (.inr (aZ rfl (O.at (.tail _ (.head _))) rfl rfl (lbE rfl) rfl)),?_⟩|refine⟨.inr (.inl (by kernel_rfl)),?_⟩
       refine gX ?_
       refine ca (iC hm O.has) fun r30 hm=>?_;refine gH ?_
       refine⟨.inl (Ext.refl _),?_⟩;refine gH ?_
       refine jn hm 178 [5,6,7,8,10,12] (fun s=>s) (fun v31 h=>Own vars h0 [(sC g2 [((ah 4 al) r1.1.nodes),((ah 1 Value.string) r1.1.names),((ah 3 aA) r1.1.mems),((ah 1 i64) r1.1.outs)]),(sC g5 [((ah 1 n8) r4.inp),((ah 1 n8) r4.state)])] h) (fun v31=>[(176,(.bool v31))]) (fun hm=>?_) ?_
       ·refine gX ?_
        refine br hm (fun hm=>?_) fun hm=>?_
        ·refine gX ?_
         refine bt ?_;refine gH ?_
         exact jx true hm O
        ·refine gX ?_
         refine br hm (fun hm=>?_) fun hm=>?_
         ·refine gX ?_
          exact jx true hm O
         ·refine gX ?_
          refine br hm (fun hm=>?_) fun hm=>?_
          ·refine gX ?_
           exact jx (!r30.1) hm O
          ·refine gX ?_
           exact jx false hm O
       ·clear hm;rintro v31 base h hm O
        refine gX ?_
        refine br hm (fun hm=>?_) fun hm=>?_
        ·refine gX ?_
         exact fe hm O
        ·refine gX ?_
         refine aM hm fun hm=>?_;refine gH ?_
         exact jx (v12+1) hm O
    ·refine gX ?_
     exact jx () hm (O.sel [] (by decide))
   ·clear hm;rintro _ base h hm O
    refine gX ?_
    refine ca (jo hm O.has) fun r33 hm=>?_;refine gX ?_
    exact fe hm O
inductive Rch (r:List N2) (st:Nat->Prop):Nat->Prop
 |base {a:Nat}:st a->Rch r st a
 |step {a b:Nat}:Rch r st a->(⟨a,b⟩:N2)∈r->Rch r st b
def vf (r:List N2) (a:Nat):List Nat:=(r.filter fun x=>x.a==a).map N2.b
theorem wh {r:List N2}{a b:Nat}:b∈vf r a↔(⟨a,b⟩:N2)∈r:=by
 unfold vf
 rw[List.mem_map]
 constructor
 ·rintro⟨⟨a',b'⟩,m,rfl⟩
  obtain⟨m,e⟩:=List.mem_filter.1 m
  have e:a'=a:=by simpa using e
  rw[<- e]
  exact m
 ·intro m
  exact⟨⟨a,b⟩,List.mem_filter.2 ⟨m,by simp⟩,rfl⟩
theorem xp (r:List N2) (a:Nat):(vf r a).length<=r.length:=by
 unfold vf
 rw[List.length_map]
 exact List.length_filter_le _ _
theorem AL (r:List N2) (x:N2) (a:Nat):vf (r++[x]) a=vf r a++if x.a=a then [x.b] else []:=by
 unfold vf
 rw[List.filter_append,List.map_append]
 congr 1
 by_cases e:x.a=a
 ·simp[e]
 ·simp[e]
def cntT (bs:List Bool):Nat:=bs.count true
theorem Dz (bs:List Bool):cntT bs<=bs.length:=List.count_le_length
theorem xn:∀ {bs:List Bool}{a:Nat},bs[a]?=some false->cntT (bs.set a true)=cntT bs+1
 |[],_,h=>by cases h
 |b::bs,0,h=>by
  rw[List.getElem?_cons_zero] at h
  cases h
  unfold cntT
  rw[List.set_cons_zero,List.count_cons,List.count_cons]
  simp
 |b::bs,a+1,h=>by
  rw[List.getElem?_cons_succ] at h
  have:=xn h
  unfold cntT at this ⊢
  rw[List.set_cons_succ,List.count_cons,List.count_cons,this]
  omega
theorem DI {bs:List Bool}{a:Nat}{v:Bool} (h:bs[a]?=some v):bs.getD a false=v:=by rw[List.getD,h];rfl
theorem uv {bs:List Bool}{a b:Nat} (h:a<bs.length):(bs.set a true).getD b false=true↔b=a\/bs.getD b false=true:=by
 by_cases e:b=a
 ·subst e
  rw[List.getD,List.getElem?_set_self h]
  simp
 ·rw[List.getD,List.getElem?_set_ne (fun q=>e q.symm)]
  simp[e]
structure ExpI (r:List N2) (n:Nat) (st:Nat->Prop) (M:Nat) (bs:List Bool) (todo:List Nat):Prop where
 len:bs.length=n
 snd:∀ a,bs.getD a false=true->Rch r st a
 tod:∀ a∈todo,a<n/\Rch r st a
 cls:∀ a b,bs.getD a false=true->(⟨a,b⟩:N2)∈r->bs.getD b false=true\/b∈todo
 st:∀ a,st a->bs.getD a false=true\/a∈todo
 msr:(n-cntT bs)*257+todo.length<=M
theorem ExpI.done {r:List N2}{n M:Nat}{st:Nat->Prop}{bs:List Bool} (I:ExpI r n st M bs []) (a:Nat):bs.getD a false=true↔Rch r st a:=by
 refine⟨I.snd a,fun h=>?_⟩
 induction h with
 |base h=>exact (I.st _ h).resolve_right (fun m=>by cases m)
 |step _ m ih=>exact (I.cls _ _ ih m).resolve_right (fun m=>by cases m)
theorem EJ {a b:Nat}:ltI (Int.ofNat a) (Int.ofNat b)=decide (a<b):=by
 rw[dD]
 by_cases h:a<b
 ·rw[decide_eq_true h];exact decide_eq_true (Int.ofNat_lt.2 h)
 ·rw[decide_eq_false h];exact decide_eq_false (fun q=>h (Int.ofNat_lt.1 q))
def sX (c:Circ) (l:List Flt) (ds:List Nat) (a:Nat):Prop:=∃ i∈ds,(osN c l)[i]?=some a
theorem vm {c:Circ}{l:List Flt}{i:Nat} (h:i<l.length):∃ a,(osN c l)[i]?=some a/\a<(ksF c l).length:=by
 obtain⟨f,hf⟩:=aB h
 refine⟨iB c l f,by unfold osN;rw[List.getElem?_map,hf];rfl,?_⟩
 exact List.idxOf_lt_length_iff.2 (kK.2 ⟨f,List.mem_of_getElem? hf,rfl⟩)
def qT (c:Circ) (l:List Flt) (bs:List Bool) (i:Nat):List Nat:=(List.range i).filter fun m=>bs.getD ((osN c l).getD m 0) false
theorem yq {c:Circ} (C:Cir c) {l:List Flt} (hl:ListOk c l) {d:List Int}{K:List Nat×Nat->Prop}
  (hd:(∃ ds:List Nat,d=ds.map Int.ofNat/\(∀ i∈ds,i<l.length)/\ds.length<=65536/\∀ r bs,DomOk c (ksF c l) r->(∀ a,bs.getD a false=true↔Rch r (sX c l ds) a)->K (qT c l bs l.length,0))\/∃ bad,d=[bad]/\(bad<0\/Int.ofNat l.length<=bad)/\K ([],1)) :
  bL c l d K:=by
 have hlen:=hl.len
 have hks:=xR hl
 have hRl:=pV c l
 unfold bL
 refine mC C hl.len hl.check ⟨(fun q=>absurd rfl (dY.1 q)),fun _=>iI C hl.len hl.stuck fun ps cs P=>⟨by omega,by omega,?_⟩⟩
 refine im (fun s=>∃ r,DomOk c (ksF c l) r/\s.2.length=(ksF c l).length/\∀ a,a<(ksF c l).length->s.2[a]?=some (vf r a)) (fun k hk=>jS C hks P.edge P.cs fun qs r hr=>?_) ?_
 ·have hrl:=hr.len
  refine aW (fun s=>s.2<=r.length/\s.1.length=(ksF c l).length/\∀ a,a<(ksF c l).length->s.1[a]?=some (vf (r.take s.2) a)) (fun s=>r.length-s.2) ?_ ⟨Nat.zero_le _,by rw[List.length_replicate];exact hRl,fun i hi=>?_⟩
  ·rintro⟨fs,t⟩ nx ⟨ht,hb1,hb2⟩ hnx
   dsimp only at ht hb1 hb2
   refine⟨fun q=>?_,fun q=>hk _ ⟨r,hr,hb1,?_⟩⟩
   ·have q:t<r.length:=aT.1 q
    obtain⟨x,hx⟩:=aB q
    have hlt:=hr.lt (List.mem_of_getElem? hx)
    have hfl:=xp (r.take t) x.a
    rw[List.length_take] at hfl
    refine⟨x,hx,by rw[hRl];exact hlt.1,_,hb2 x.a hlt.1,by rw[List.length_singleton];omega,by rw[hRl];exact hlt.1,by omega,hnx _ ⟨q,(List.length_set ..).trans hb1,fun a ha=>?_⟩ (by dsimp only;omega)⟩
    dsimp only
    rw[List.getElem?_set,oG hx,AL]
    by_cases e:x.a=a
    ·subst e
     rw[if_pos rfl,if_pos (by omega),if_pos rfl]
    ·rw[if_neg e,hb2 a ha,if_neg e,List.append_nil]
   ·have q:r.length<=t:=bd.1 q
    rw[List.take_of_length_le q] at hb2
    exact hb2
  ·rw[hRl,List.getElem?_replicate,if_pos hi];rfl
 ·rintro⟨qs,fs⟩ ⟨r,hr,hf1,hf2⟩
  have hrl:=hr.len
  dsimp only at hf1 hf2
  refine⟨by omega,by omega,?_⟩
  rcases hd with⟨ds,rfl,hd,hdl,h⟩|⟨bad,rfl,hb,h⟩
  case inr =>
   refine (show au _ _ from aW (fun s=>s=([],0)) (fun _=>0) ?_ rfl)
   rintro _ nx rfl _
   refine⟨fun _=>⟨bad,rfl,?_⟩,fun q=>absurd (bd.1 q) (by simp)⟩
   refine di (a:=true) (fun G=>⟨fun _=>G,fun e=>?_⟩) ⟨fun _=>h,fun e=>(by cases e)⟩
   have e:ltI bad (Int.ofNat l.length)=false:=by
    have e0:=qu.1 e
    have:(Int.ofNat 0)=0:=rfl
    refine qu.2 ?_
    rcases hb with hb|hb
    ·omega
    ·exact hb
   rw[e];exact G
  refine aF (fun s=>s.2<=ds.length/\s.1.length=s.2/\∀ a,a∈s.1↔sX c l (ds.take s.2) a) (fun s=>ds.length-s.2) (fun s=>s.length=ds.length/\∀ a,a∈s↔sX c l ds a) ?_ ⟨Nat.zero_le _,rfl,fun a=>⟨fun m=>(by cases m),fun ⟨_,m,_⟩=>by cases m⟩⟩ ?_
  ·rintro k ⟨td,i⟩ nx ⟨hi,ht1,ht2⟩ hnx hk
   dsimp only at hi ht1 ht2
   have hml:(ds.map Int.ofNat).length=ds.length:=List.length_map ..
   refine⟨fun q=>?_,fun q=>hk _ ?_⟩
   ·have q:i<ds.length:=hml ▸ aT.1 q
    obtain⟨d,hd1⟩:=aB q
    have hdl2:=hd d (List.mem_of_getElem? hd1)
    obtain⟨a,ha1,ha2⟩:=vm (c:=c) hdl2
    refine⟨Int.ofNat d,by rw[List.getElem?_map,hd1];rfl,?_⟩
    refine di (a:=false) (fun G=>⟨fun e=>?_,fun _=>?_⟩) ⟨(fun e=>by cases e),fun _=>⟨d,rfl,a,ha1,by rw[List.length_singleton];omega,by omega,hnx _ ⟨q,by dsimp only;rw[List.length_append,ht1];rfl,fun b=>?_⟩ (by dsimp only;omega)⟩⟩
    ·rw[EJ,decide_eq_true_eq] at e;omega
    ·rw[EJ,decide_eq_true hdl2];exact G
    ·dsimp only
     rw[ba,ht2,oG hd1]
     unfold sX
     constructor
     ·rintro (⟨j,m,e⟩|rfl)
      ·exact⟨j,List.mem_append_left _ m,e⟩
      ·exact⟨d,ba.2 (.inr rfl),ha1⟩
     ·rintro⟨j,m,e⟩
      rcases ba.1 m with m|rfl
      ·exact .inl ⟨j,m,e⟩
      ·rw[ha1] at e;cases e;exact .inr rfl
   ·have q:ds.length<=i:=hml ▸ bd.1 q
    rw[List.take_of_length_le q] at ht2
    exact⟨by omega,ht2⟩
  ·rintro td ⟨htl,htd⟩
   refine aF (fun s=>ExpI r (ksF c l).length (sX c l ds) ((ksF c l).length*257+ds.length) s.1 s.2) (fun s=>((ksF c l).length-cntT s.1)*257+s.2.length) (fun s=>s.length=(ksF c l).length/\∀ a,s.getD a false=true↔Rch r (sX c l ds) a) ?_ ?_ ?_
   ·rintro k ⟨bs,todo⟩ nx I hnx hk
    dsimp only at I
    refine⟨fun q=>?_,fun q=>hk _ ?_⟩
    ·have q:0<todo.length:=aT.1 q
     rcases List.eq_nil_or_concat todo with e|⟨p,a,e⟩
     ·rw[e] at q;cases q
     ·rw[List.concat_eq_append] at e
      subst e
      have hpl:(p++[a]).length-1=p.length:=by rw[List.length_append,List.length_singleton];omega
      have hlast:(p++[a])[(p++[a]).length-1]?=some a:=by rw[hpl];simp
      have htake:(p++[a]).take ((p++[a]).length-1)=p:=by rw[hpl];simp
      have hm:=I.msr
      obtain⟨han,har⟩:=I.tod a (ba.2 (.inr rfl))
      obtain⟨v,hv⟩:=aB (l:=bs) (i:=a) (by rw[I.len];exact han)
      have hfl:=xp r a
      rw[List.length_append,List.length_singleton] at hm
      have hbig:p.length<=65536*257+65536:=by
       have:(ksF c l).length*257<=65536*257:=Nat.mul_le_mul_right _ hks
       omega
      refine⟨q,by rw[List.length_append,List.length_singleton];omega,a,hlast,q,by rw[List.length_append,List.length_singleton];omega,Nat.sub_le _ _,by rw[hRl];exact han,v,hv,fun e=>?_,fun e=>?_⟩
      ·have e:v=false:=by simpa using e
       subst e
       have hc:=xn hv
       have hcl:=Dz (bs.set a true)
       rw[List.length_set,I.len] at hcl
       rw[htake]
       have hmul:((ksF c l).length-cntT (bs.set a true))*257+257=((ksF c l).length-cntT bs)*257:=by
        rw[hc] at hcl ⊢
        rw[<- Nat.succ_mul]
        congr 1
        omega
       refine⟨by rw[hRl];exact han,false,hv,by rw[hRl];exact han,_,hf2 a han,by omega,hnx _ ⟨(List.length_set ..).trans I.len,fun b hb=>?_,fun b hb=>?_,fun x b hx hb=>?_,fun b hb=>?_,?_⟩ ?_⟩
       ·rcases (uv (by rw[I.len];exact han)).1 hb with rfl|hb
        ·exact har
        ·exact I.snd b hb
       ·rcases List.mem_append.1 hb with m|m
        ·exact I.tod b (ba.2 (.inl m))
        ·have m:=wh.1 m
         exact⟨(hr.lt m).2,.step har m⟩
       ·rcases (uv (by rw[I.len];exact han)).1 hx with rfl|hx
        ·exact .inr (List.mem_append_right _ (wh.2 hb))
        ·rcases I.cls x b hx hb with q1|q1
         ·exact .inl ((uv (by rw[I.len];exact han)).2 (.inr q1))
         ·rcases ba.1 q1 with m|rfl
          ·exact .inr (List.mem_append_left _ m)
          ·exact .inl ((uv (by rw[I.len];exact han)).2 (.inl rfl))
       ·rcases I.st b hb with q1|q1
        ·exact .inl ((uv (by rw[I.len];exact han)).2 (.inr q1))
        ·rcases ba.1 q1 with m|rfl
         ·exact .inr (List.mem_append_left _ m)
         ·exact .inl ((uv (by rw[I.len];exact han)).2 (.inl rfl))
       ·dsimp only
        rw[List.length_append];omega
       ·dsimp only
        rw[List.length_append,List.length_append,List.length_singleton];omega
      ·have e:v=true:=by simpa using e
       subst e
       have hva:=DI hv
       rw[htake]
       refine hnx _ ⟨I.len,I.snd,fun b hb=>I.tod b (ba.2 (.inl hb)),fun x b hx hb=>?_,fun b hb=>?_,by dsimp only;omega⟩ (by dsimp only;rw[List.length_append,List.length_singleton];omega)
       ·rcases I.cls x b hx hb with q1|q1
        ·exact .inl q1
        ·rcases ba.1 q1 with m|rfl
         ·exact .inr m
         ·exact .inl hva
       ·rcases I.st b hb with q1|q1
        ·exact .inl q1
        ·rcases ba.1 q1 with m|rfl
         ·exact .inr m
         ·exact .inl hva
    ·have q:todo.length<=0:=bd.1 q
     have e:todo=[]:=List.length_eq_zero_iff.1 (by omega)
     subst e
     exact⟨I.len,I.done⟩
   ·have hz:∀ a,(List.replicate (ksF c l).length false).getD a false=false:=by
     intro a
     rw[List.getD,List.getElem?_replicate]
     split <;> rfl
    rw[hRl]
    refine⟨List.length_replicate ..,fun a ha=>?_,fun a ha=>?_,fun a b ha _=>?_,fun a ha=>.inr ((htd a).2 ha),?_⟩
    ·dsimp only at ha;rw[hz] at ha;cases ha
    ·have:=(htd a).1 ha
     obtain⟨i,m,e⟩:=this
     obtain⟨b,hb1,hb2⟩:=vm (c:=c) (hd i m)
     rw[hb1] at e;cases e
     exact⟨hb2,.base ⟨i,m,hb1⟩⟩
    ·dsimp only at ha;rw[hz] at ha;cases ha
    ·dsimp only
     rw[htl]
     have:((ksF c l).length-cntT (List.replicate (ksF c l).length false))*257<=(ksF c l).length*257:=Nat.mul_le_mul_right _ (Nat.sub_le _ _)
     omega
   ·rintro bs ⟨hbl,hbs⟩
    have hosl:(osN c l).length=l.length:=List.length_map ..
    refine aF (fun s=>s.2<=l.length/\s.1=qT c l bs s.2) (fun s=>l.length-s.2) (fun s=>s=qT c l bs l.length) ?_ ⟨Nat.zero_le _,rfl⟩ (fun _ e=>e ▸ h r bs hr hbs)
    rintro k ⟨out,i⟩ nx ⟨hi,ho⟩ hnx hk
    dsimp only at hi ho
    refine⟨fun q=>?_,fun q=>hk _ ?_⟩
    ·have q:i<l.length:=hosl ▸ aT.1 q
     obtain⟨a,ha1,ha2⟩:=vm (c:=c) q
     have hol:out.length<=i:=by
      rw[ho];unfold qT
      exact Nat.le_trans (List.length_filter_le _ _) (by rw[List.length_range];exact Nat.le_refl _)
     have hsucc:qT c l bs (i+1)=qT c l bs i++if bs.getD a false=true then [i] else []:=by
      unfold qT
      rw[zC]
      have:(osN c l).getD i 0=a:=by rw[List.getD,ha1];rfl
      rw[this]
     obtain⟨v,hv⟩:=aB (l:=bs) (i:=a) (by rw[hbl];exact ha2)
     have hva:=DI hv
     refine im (fun s=>s=qT c l bs (i+1)) (fun k2 hk2=>⟨a,ha1,by rw[hRl];exact ha2,v,hv,fun e=>⟨by rw[List.length_singleton];omega,hk2 _ ?_⟩,fun e=>hk2 _ ?_⟩) fun s hs=>⟨by omega,hnx _ ⟨q,hs⟩ (by dsimp only;omega)⟩
     ·rw[hsucc,hva,if_pos e,ho]
     ·rw[hsucc,hva,if_neg (by rw[e];decide),ho,List.append_nil]
    ·have q:l.length<=i:=hosl ▸ bd.1 q
     obtain rfl:i=l.length:=by omega
     exact ho
theorem AA {c:Circ} (C:Cir c) {l:List Flt} (hl:ListOk c l) {ds:List Nat} (hd:∀ i∈ds,i<l.length) (hdl:ds.length<=65536) {K:List Nat×Nat->Prop}
  (h:∀ r bs,DomOk c (ksF c l) r->(∀ a,bs.getD a false=true↔Rch r (sX c l ds) a)->K (qT c l bs l.length,0)):bL c l (ds.map Int.ofNat) K :=
 yq C hl (.inl ⟨ds,rfl,hd,hdl,h⟩)
def wC (x:CData):CData:=⟨x.inp,x.dffs,x.data0,x.data1,x.bus,false,x.port0,x.port1,x.port2,x.port3,x.gates,x.outs⟩
theorem Ca {x:CData} (h:CB x):CB (wC x):=⟨h.inp,h.dffs,h.data0,h.data1,h.port0,h.port1,h.port2,h.port3,h.gates,h.outs⟩
theorem Ao {x:CData} (hx:CB x) {K:Circ->Prop} (h:K (fT (wC x))):bZ x K:=yx (Ca hx) h
theorem Bd {x:CData} (hm:x.mem=false):Cir (fT x):=by
 refine⟨Al hm,by rw[mK,hm];rfl,fun i y h=>?_⟩
 rcases zO hm h with⟨_,rfl⟩|⟨_,_,d,_,rfl⟩|⟨h1,_,g,hg⟩
 ·show (0:Nat)<=14;decide
 ·show (14:Nat)<=14;decide
 ·have hi:=aj h
  have hn:(fT x).nodes.length=(cB x).length:=ic _
  have q:=wB x.bus g (ks:=((cB x).take i).map Node.kind) (by rw[List.length_map,List.length_take];omega)
  rw[<- hg] at q
  have:=q.kind
  omega
theorem C7 (c:Circ) (k:Nat):ofN c [k]=(List.range c.nodes.length).filter fun i=>decide (kd c i=k):=by
 unfold ofN kd
 congr 1
 funext i
 rw[Bool.eq_iff_iff]
 simp
def ez (c:Circ):List Flt:=lr 0 (nY c)
theorem sr {c:Circ} (C:Cir c):(nY c).length<=272:=by
 have:=lD C _ (Nat.le_refl _)
 have:=C.len
 unfold nY
 omega
theorem wN {c:Circ} (C:Cir c):(ez c).length<=544:=by
 have:=sr C
 unfold ez
 rw[vT];omega
theorem oM {c:Circ}{f:Flt}:f∈ez c ↔ ∃ s,VS c s/\f=fltS s:=by
 unfold ez lr nY gT
 rw[List.mem_flatMap]
 constructor
 ·rintro⟨x,hx,m⟩
  obtain⟨i,hi,hx⟩:=List.mem_flatMap.1 hx
  unfold tw at hx
  obtain⟨j,hj,rfl⟩:=List.mem_map.1 hx
  have hi:=List.mem_range.1 hi
  have hj:=List.mem_range.1 hj
  simp only[List.mem_cons,List.not_mem_nil,or_false] at m
  rcases m with rfl|rfl
  ·exact⟨⟨i,j,0⟩,⟨hi,by dsimp only;omega,by dsimp only;omega⟩,rfl⟩
  ·exact⟨⟨i,j,1⟩,⟨hi,by dsimp only;omega,by dsimp only;omega⟩,rfl⟩
 ·rintro⟨⟨n,p,v⟩,V,rfl⟩
  have h1:=V.node
  have h2:=V.pin
  have h3:=V.v
  dsimp only at h1 h2 h3
  refine⟨⟨n,Int.ofNat p-Int.ofNat 1⟩,List.mem_flatMap.2 ⟨n,List.mem_range.2 h1,?_⟩,?_⟩
  ·unfold tw
   exact List.mem_map.2 ⟨p,List.mem_range.2 (by omega),rfl⟩
  ·have:v=0\/v=1:=by omega
   simp only[List.mem_cons,List.not_mem_nil,or_false]
   rcases this with rfl|rfl
   ·exact .inl rfl
   ·exact .inr rfl
theorem zm {c:Circ} (C:Cir c):ListOk c (ez c):=by
 refine⟨Nat.le_trans (wN C) (by decide),fun f m _=>?_,fun f m K h=>?_⟩
 ·obtain⟨s,V,rfl⟩:=oM.1 m
  exact yy V
 ·obtain⟨s,V,rfl⟩:=oM.1 m
  exact ub C (yy V) h
theorem za {c:Circ} (C:Cir c) {K:List Flt×Nat->Prop} (h:K (ez c,0)):gS c 0 K:=by
 have:=sr C
 exact⟨nY c,wU C rfl,by decide,by omega,h⟩
theorem Cw (x:CData):0<(fT x).nodes.length:=by
 have hn:(fT x).nodes.length=(cB x).length:=ic _
 rw[hn];exact AS _
theorem A6 {x:CData} (hx:CB x) {K:Circ×List Flt->Prop} (h:∀ c,Cir c->0<c.nodes.length->K (c,ez c)):cd x K:=by
 have C:Cir (fT (wC x)):=Bd rfl
 unfold cd
 exact Ao hx (za C (h _ C (Cw _)))
theorem D1 {c:Circ}{l:List Flt}{i:Nat}{row:List Nat} (h:(RN c l)[i]?=some row):∃ k,(ksF c l)[i]?=some k/\row=lx c l k:=by
 unfold RN at h
 rw[List.getElem?_map] at h
 obtain⟨k,hk,e⟩:=Option.map_eq_some_iff.1 h
 exact⟨k,hk,e.symm⟩
theorem Dx {c:Circ}{l:List Flt}{i:Nat}{row:List Nat} (h:(RN c l)[i]?=some row) {m:Nat} (hm:m∈row):∃ f,l[m]?=some f/\iB c l f=i:=by
 obtain⟨k,hk,rfl⟩:=D1 h
 obtain⟨f,hf,e⟩:=sS.1 hm
 refine⟨f,hf,?_⟩
 unfold iB
 rw[e]
 exact Bw (tV c l) hk
theorem CN {a b:List Nat} (ha:a.length<2 ^ 60) {K:Bool->Prop} (h:K (decide (a=b))):aH a b K:=by
 unfold aH
 by_cases e:a.length=b.length
 ·refine di (a:=false) (fun G=>⟨fun q=>absurd e (dY.1 q),fun _=>?_⟩) ⟨(fun q=>by cases q),fun _=>?_⟩
  ·have:neN a.length a.length=false:=pB.2 rfl
   rw[this];exact G
  ·refine aF (fun i=>i<=a.length/\a.take i=b.take i) (fun i=>a.length-i) (fun _=>a=b) ?_ ⟨Nat.zero_le _,rfl⟩ (fun _ q=>?_)
   ·rintro k i nx ⟨hi,hp⟩ hnx hk
    refine⟨fun q=>?_,fun q=>hk _ ?_⟩
    ·have q:i<a.length:=aT.1 q
     obtain⟨x,hx⟩:=aB q
     obtain⟨y,hy⟩:=aB (l:=b) (i:=i) (by omega)
     refine⟨x,hx,y,hy,fun q2=>?_,fun q2=>⟨by omega,hnx _ ⟨q,?_⟩ (by omega)⟩⟩
     ·have:a≠b:=by
       rintro rfl
       rw[hx] at hy;cases hy
       exact dY.1 q2 rfl
      rw[decide_eq_false this] at h;exact h
     ·rw[oG hx,oG hy,hp,pB.1 q2]
    ·have q:a.length<=i:=bd.1 q
     rw[List.take_of_length_le q,List.take_of_length_le (by omega)] at hp
     exact hp
   ·rw[decide_eq_true q] at h;exact h
 ·have:a≠b:=by rintro rfl;exact e rfl
  rw[decide_eq_false this] at h
  exact di (a:=true) (fun G=>⟨fun _=>G,fun q=>absurd (pB.1 q) e⟩) ⟨fun _=>h,fun q=>by cases q⟩
theorem yU:RN bX (ez bX)=[[0,2,4,6,8],[1,7],[3,9],[5]]:=by decide +kernel
theorem CS:(ksF bX (ez bX)).length=4:=by decide +kernel
theorem Cc:domRaw bX (ksF bX (ez bX)) 3=[⟨1,3⟩,⟨2,3⟩]:=by decide +kernel
theorem zB:osN bX (ez bX)=[0,1,0,2,0,3,0,1,0,2]:=by decide +kernel
theorem sE {r:List N2} (h:DomOk bX (ksF bX (ez bX)) r):r=[⟨1,3⟩,⟨2,3⟩]:=by
 refine tT h.sorted ?_ fun x=>?_
 ·refine List.Pairwise.cons (fun y m=>?_) (List.pairwise_singleton _ _)
  rw[List.mem_singleton] at m
  subst m
  exact .inl (by decide)
 ·rw[h.mem]
  show x∈domRaw bX (ksF bX (ez bX)) 3↔_
  rw[Cc]
theorem zN:jd bX (ez bX) [⟨1,3⟩,⟨2,3⟩] 4=[0,1,3]:=by
 unfold jd kR
 rw[yU]
 decide +kernel
theorem B9 {bs:List Bool} (h:∀ a,bs.getD a false=true↔Rch [⟨1,3⟩,⟨2,3⟩] (sX bX (ez bX) [7]) a):qT bX (ez bX) bs 10=[1,5,7]:=by
 have hst:∀ a,sX bX (ez bX) [7] a↔a=1:=by
  intro a
  unfold sX
  rw[zB]
  constructor
  ·rintro⟨i,m,e⟩
   rw[List.mem_singleton] at m
   subst m
   cases e;rfl
  ·rintro rfl
   exact⟨7,List.mem_singleton.2 rfl,rfl⟩
 have hR:∀ a,Rch [⟨1,3⟩,⟨2,3⟩] (sX bX (ez bX) [7]) a->a=1\/a=3:=by
  intro a ha
  induction ha with
  |base q=>exact .inl ((hst _).1 q)
  |step _ m _ =>
   simp only[List.mem_cons,List.not_mem_nil,or_false,N2.mk.injEq] at m
   omega
 have b0:bs.getD 0 false=false:=by
  rw[Bool.eq_false_iff];intro q
  have:=hR _ ((h 0).1 q);omega
 have b2:bs.getD 2 false=false:=by
  rw[Bool.eq_false_iff];intro q
  have:=hR _ ((h 2).1 q);omega
 have b1:bs.getD 1 false=true:=(h 1).2 (.base ((hst 1).2 rfl))
 have b3:bs.getD 3 false=true:=(h 3).2 (.step (.base ((hst 1).2 rfl)) (by simp))
 unfold qT
 rw[zB]
 have e:(List.range 10).filter (fun m=>bs.getD (([0,1,0,2,0,3,0,1,0,2]:List Nat).getD m 0) false)=(List.range 10).filter (fun m=>([false,true,false,true]:List Bool).getD (([0,1,0,2,0,3,0,1,0,2]:List Nat).getD m 0) false):=by
  refine List.filter_congr fun m hm=>?_
  have hm:=List.mem_range.1 hm
  have key:∀ q,q<4->bs.getD q false=([false,true,false,true]:List Bool).getD q false:=by
   intro q hq
   have:q=0\/q=1\/q=2\/q=3:=by omega
   rcases this with rfl|rfl|rfl|rfl
   ·exact b0
   ·exact b1
   ·exact b2
   ·exact b3
  refine key _ ?_
  have hall:∀ m,m<10->([0,1,0,2,0,3,0,1,0,2]:List Nat).getD m 0<4:=by decide
  exact hall m hm
 rw[e]
 decide
theorem yH {K:Bool->Prop} (h:K true):bI K:=by
 have C:=B4
 have hl:=zm C
 have h0:neN 0 0=false:=pB.2 rfl
 unfold bI cA
 refine za C (rB C hl (nr C hl fun r hr=>Dj C hl fun r2 hr2=>?_))
 have e1:=sE hr
 have e2:=sE hr2
 subst e1 e2
 refine AA (ds:=[7]) C hl (fun i m=>?_) (by decide) fun r3 bs hr3 hbs=>?_
 ·rw[List.mem_singleton] at m
  subst m
  decide
 have e3:=sE hr3
 subst e3
 have hx:=B9 hbs
 have hc:jd bX (ez bX) [⟨1,3⟩,⟨2,3⟩] (ksF bX (ez bX)).length=[0,1,3]:=by rw[CS];exact zN
 have hx:qT bX (ez bX) bs (ez bX).length=[1,5,7]:=hx
 dsimp only
 rw[hc,hx,yU]
 have ik:∀ (a b:List Nat) (K:Bool->Prop),a=b->a.length<2 ^ 60->K true->aH a b K:=fun a b K e q k=>CN q (by rw[decide_eq_true e];exact k)
 refine di (a:=false) (fun G=>⟨fun q=>absurd rfl (dY.1 q),fun _=>⟨fun q=>absurd rfl (dY.1 q),fun _=>⟨fun q=>absurd rfl (dY.1 q),fun _=>⟨fun q=>absurd rfl (dY.1 q),fun _=>⟨fun q=>absurd rfl (dY.1 q),fun _=>G⟩⟩⟩⟩⟩) ⟨(fun q=>by cases q),fun _=>?_⟩
 refine⟨_,rfl,ik _ _ _ rfl (by decide) ⟨fun _=>?_,fun q=>(by cases q)⟩⟩
 refine⟨_,rfl,ik _ _ _ rfl (by decide) ⟨fun _=>?_,fun q=>(by cases q)⟩⟩
 refine⟨_,rfl,ik _ _ _ rfl (by decide) ⟨fun _=>?_,fun q=>(by cases q)⟩⟩
 refine⟨_,rfl,ik _ _ _ rfl (by decide) ⟨fun _=>?_,fun q=>(by cases q)⟩⟩
 refine⟨_,rfl,fun _=>⟨_,rfl,fun _=>?_,fun q=>absurd q (by decide)⟩,fun q=>absurd q (by decide)⟩
 refine ik _ _ _ rfl (by decide) ⟨fun _=>?_,fun q=>(by cases q)⟩
 exact ik _ _ _ rfl (by decide) h
def gO (l:List Nat) (n most:Nat):List Nat:=(List.range n).map fun i=>if l.length=0 then 2 else l.getD (i%l.length) 0%most
theorem qG (l:List Nat) (n most:Nat):gO l (n+1) most=gO l n most++[if l.length=0 then 2 else l.getD (n%l.length) 0%most]:=by
 unfold gO
 rw[List.range_succ,List.map_append];rfl
theorem uc {l:List Nat}{n most:Nat} (h0:0<most) (h4:most<=4):∀ v∈gO l n most,v<=3:=by
 intro v m
 obtain⟨i,_,rfl⟩:=List.mem_map.1 m
 split
 ·decide
 ·have:=Nat.mod_lt (l.getD (i%l.length) 0) h0;omega
theorem uf {l:List Nat}{n most:Nat} (hn:n<=16) (h0:0<most) {K:List Nat->Prop} (h:K (gO l n most)):bo l n most K:=by
 unfold bo
 refine aF (fun s=>s.2<=n/\s.1=gO l s.2 most) (fun s=>n-s.2) (fun r=>r=gO l n most) ?_ ⟨Nat.zero_le _,rfl⟩ fun r q=>q ▸ h
 rintro k ⟨r,i⟩ nx ⟨hi,hr⟩ hnx hk
 dsimp only at hi hr
 have hrl:r.length=i:=by rw[hr];unfold gO;simp
 refine⟨fun q=>?_,fun q=>hk _ ?_⟩
 ·have q:i<n:=aT.1 q
  refine im (fun r2=>r2=gO l (i+1) most) (fun k2 hk2=>⟨fun e=>⟨by rw[List.length_singleton];omega,hk2 _ ?_⟩,fun e=>?_⟩) fun r2 h2=>⟨by omega,hnx _ ⟨q,h2⟩ (by dsimp only;omega)⟩
  ·rw[qG,if_pos (bG.1 e),hr]
  ·have hp:0<l.length:=Nat.pos_of_ne_zero (cD.1 e)
   obtain⟨x,hx⟩:=aB (Nat.mod_lt i hp)
   refine⟨hp,x,hx,h0,by rw[List.length_singleton];omega,hk2 _ ?_⟩
   have:l.getD (i%l.length) 0=x:=by rw[List.getD,hx];rfl
   rw[qG,if_neg (cD.1 e),hr,this]
 ·have q:n<=i:=bd.1 q
  obtain rfl:i=n:=by omega
  exact hr
theorem uu {c:Circ} (hc:c.nodes.length<=16) {k:Nat}{K:Nat->Prop} (h:K (ofN c [k]).length):bn c k K:=by
 unfold bn
 rw[C7] at h
 refine aF (fun s=>s.2<=c.nodes.length/\s.1=((List.range s.2).filter fun i=>decide (kd c i=k)).length) (fun s=>c.nodes.length-s.2) (fun r=>r=((List.range c.nodes.length).filter fun i=>decide (kd c i=k)).length) ?_ ⟨Nat.zero_le _,rfl⟩ (fun _ e=>e ▸ h)
 rintro kk ⟨m,i⟩ nx ⟨hi,hm⟩ hnx hk
 dsimp only at hi hm
 refine⟨fun q=>?_,fun q=>hk _ ?_⟩
 ·have q:i<c.nodes.length:=aT.1 q
  obtain⟨x,hx⟩:=aB q
  have hle:m<=i:=by rw[hm];exact vo
  refine di (a:=((List.range (i+1)).filter fun i=>decide (kd c i=k)).length) (fun g=>⟨x,hx,fun e=>⟨by omega,?_⟩,fun e=>?_⟩) ⟨by omega,hnx _ ⟨q,rfl⟩ (by dsimp only;omega)⟩
  ·rw[zC,if_pos (by rw[fC hx];exact decide_eq_true (bG.1 e)),List.length_append,<- hm] at g;exact g
  ·rw[zC,if_neg (by rw[fC hx,decide_eq_true_eq];exact cD.1 e),List.append_nil,<- hm] at g;exact g
 ·have q:c.nodes.length<=i:=bd.1 q
  have:i=c.nodes.length:=by omega
  subst this
  exact hm
def BI (c:Circ) (z:PData):Pat:=⟨gO z.inp (ofN c [0]).length 4,gO z.state (ofN c [14]).length 3⟩
theorem CZ (c:Circ) (z:PData):PatOk c (BI c z) :=
 ⟨by unfold BI gO;simp,by unfold BI gO;simp,uc (by decide) (by decide),uc (by decide) (by decide)⟩
theorem Dk {c:Circ} (C:Cir c) {z:PData}{K:Pat->Prop} (h:K (BI c z)):ff z c K:=by
 have hlen:=C.len
 have l1:=fW c [0]
 have l2:=fW c [14]
 unfold ff
 exact uu hlen (uf (by omega) (by decide) (uu hlen (uf (by omega) (by decide) h)))
theorem zR {k n:Nat}{r:Rul} (h:steerR k=some r):eqR k n=[r]:=by
 have hk:=nF h
 have:k=5\/k=6\/k=7\/k=8:=by omega
 rcases this with rfl|rfl|rfl|rfl <;> (cases h;unfold eqR;simp)
theorem C3 {c:Circ}{n j:Nat}{r:Rul} (hr:steerR (kd c n)=some r):down c (domPin n j r)=none:=by
 cases e:down c (domPin n j r) with
 |none=>rfl
 |some w =>
  obtain⟨_,_,r',h1,h2,_⟩:=ka.1 e
  rw[zR hr,List.mem_singleton] at h1
  subst h1
  have:=so hr
  omega
theorem Cy {c:Circ} (C:Cir c) {s:Si} (h:VS c s):lvl c (clsN c s)<=lvl c s :=
 zn (P:=fun a d=>lvl c d<=lvl c a) (fun _ _=>Nat.le_refl _) (fun a b d h q=>by have:=wm C a b h;omega) h
theorem Dc {c:Circ} (C:Cir c) {n j:Nat}{r:Rul} (hn:n<c.nodes.length) (hr:steerR (kd c n)=some r):lvl c (clsN c (domOut n r))<lvl c (clsN c (domPin n j r)):=by
 rw[yh (C3 hr)]
 have h1:=Cy C (rG (r:=r) hn)
 have hk:=nF hr
 have h2:lvl c (domOut n r)=2*(16-n)+1:=by unfold lvl domOut;rw[if_pos rfl]
 have h3:lvl c (domPin n j r)=2*(16-n)+2:=by
  unfold lvl domPin
  rw[if_neg (by simp),if_neg (by dsimp only;omega)]
 omega
theorem D6 {c:Circ} (C:Cir c) {ks:List Flt}{r:List N2} (D:DomOk c ks r) {x:N2} (h:x∈r):x.a≠x.b:=by
 obtain⟨n,ru,j,hn,hr,hj,h1,h2,rfl⟩:=qX.1 ((D.mem x).1 h)
 intro e
 dsimp only at e
 have g1:=mN h1
 have g2:=mN h2
 rw[e,g2] at g1
 have:=Dc (j:=j) C hn hr
 rw[vc (Option.some.inj g1)] at this
 omega
structure ClsP (c:Circ) (D:Flt->Prop):Prop where
 same:∀ s t,VS c s->VS c t->clsN c s=clsN c t->D (fltS s)->D (fltS t)
 dom:∀ n j r,n<c.nodes.length->j<(insOf c n).length->steerR (kd c n)=some r->D (fltS (domPin n j r))->D (fltS (domOut n r))
theorem BU {c:Circ} (C:Cir c) {p:Pat} (hp:PatOk c p):ClsP c fun f=>jV c p f=true :=
 ⟨fun _ _ hs ht e h=>(BF C hp hs ht e).symm.trans h,fun _ _ _ hn hj hr h=>Cz C hp hn hj hr h⟩
theorem zk {c:Circ}{f:Flt} (hf:f∈ez c) {i:Nat}{s:Si} (h:iB c (ez c) f=i) (hs:fltS (clsN c s)∈ksF c (ez c)) (hi:(ksF c (ez c)).idxOf (fltS (clsN c s))=i):∃ t,VS c t/\f=fltS t/\clsN c t=clsN c s:=by
 obtain⟨t,vt,rfl⟩:=oM.1 hf
 have h1:=mN (kK.2 ⟨_,hf,rfl⟩:eU c (fltS t)∈ksF c (ez c))
 have h2:=mN hs
 unfold iB at h
 rw[h] at h1
 rw[hi,h1] at h2
 rw[we] at h2
 exact⟨t,vt,rfl,vc (Option.some.inj h2)⟩
theorem ClsP.go {c:Circ}{D:Flt->Prop} (P:ClsP c D) {r:List N2} (R:DomOk c (ksF c (ez c)) r) {x:N2} (h:x∈r) {f g:Flt} (hf:f∈ez c) (hg:g∈ez c) (h1:iB c (ez c) f=x.a) (h2:iB c (ez c) g=x.b) (hd:D f):D g:=by
 obtain⟨n,ru,j,hn,hr,hj,k1,k2,rfl⟩:=qX.1 ((R.mem x).1 h)
 obtain⟨s,vs,rfl,es⟩:=zk hf h1 k1 rfl
 obtain⟨t,vt,rfl,et⟩:=zk hg h2 k2 rfl
 have v1:=wJ (r:=ru) hn hj
 have v2:=rG (r:=ru) hn
 exact P.same _ _ v2 vt et.symm (P.dom n j ru hn hj hr (P.same _ _ vs v1 es hd))
theorem zi {c:Circ} (C:Cir c) {p:Pat} (hp:PatOk c p) {f:Flt} (hf:f∈ez c) {K:Bool×Nat->Prop} (h:K (jV c p f,0)):bS c f p K:=by
 obtain⟨s,vs,rfl⟩:=oM.1 hf
 exact yg C hp (yy vs) h
theorem EF {c:Circ} (C:Cir c):(RN c (ez c)).length<=544:=by
 rw[pV]
 exact Nat.le_trans (rf _ _) (wN C)
theorem CV {c:Circ}{l:List Flt}{i:Nat}{row:List Nat} (h:(RN c l)[i]?=some row) {k m:Nat} (hm:row[k]?=some m):∃ f,l[m]?=some f/\f∈l/\iB c l f=i:=by
 obtain⟨f,h1,h2⟩:=Dx h (List.mem_of_getElem? hm)
 exact⟨f,h1,List.mem_of_getElem? h1,h2⟩
theorem lt0 (a:Nat):ltN a 0=false:=bd.2 (Nat.zero_le _)
theorem tQ {c:Circ}{l:List Flt}{i:Nat} (h:i<(ksF c l).length):∃ row x f,(RN c l)[i]?=some row/\row[0]?=some x/\0<row.length/\l[x]?=some f/\f∈l/\iB c l f=i:=by
 obtain⟨k,x,t,_,hrow,_⟩:=Ci h
 obtain⟨f,h1,h2,h3⟩:=CV hrow (show (x::t)[0]?=some x from rfl)
 exact⟨_,x,f,hrow,rfl,by simp,h1,h2,h3⟩
theorem lz {x:CData} (hx:CB x) {z:PData}{K:Bool->Prop} (h:K true):aX x z K:=by
 unfold aX
 refine A6 hx fun c C hpos=>Dk C ?_
 have hp:=CZ c z
 obtain⟨p,hpe⟩:∃ p,BI c z=p:=⟨_,rfl⟩
 rw[hpe] at hp ⊢
 have hl:=zm C
 refine rB C hl (nr C hl fun r hr=>?_)
 dsimp only
 have hRl:=EF C
 have hRk:=pV c (ez c)
 have hrl:=hr.len
 have n0:neN 0 0=false:=pB.2 rfl
 refine di (a:=false) (fun G=>⟨fun q=>absurd rfl (dY.1 q),fun _=>?_⟩) ⟨(fun q=>by cases q),fun _=>?_⟩
 ·rw[n0];exact G
 ·refine ee (l:=r) ?_ ?_ (yH h)
  ·intro k i nx y hy hi hn
   have hym:=List.mem_of_getElem? hy
   obtain⟨ha,hb⟩:=hr.lt hym
   obtain⟨rowa,xa,fa,a1,a2,a3,a4,a5,a6⟩:=tQ ha
   obtain⟨rowb,xb,fb,b1,b2,b3,b4,b5,b6⟩:=tQ hb
   have hne:=D6 C hr hym
   refine⟨fun _=>⟨y,hy,y,hy,?_⟩,fun q=>by have:=bd.1 q;omega⟩
   refine di (a:=false) (fun G=>⟨fun q=>?_,fun _=>⟨fun q=>?_,fun _=>⟨fun q=>?_,fun _=>⟨fun q=>?_,fun _=>⟨fun q=>?_,fun _=>⟨rowa,a1,fun q=>?_,fun _=>⟨rowb,b1,fun q=>?_,fun _=>⟨fun q=>?_,fun _=>G⟩⟩⟩⟩⟩⟩⟩⟩) ⟨(fun q=>by cases q),fun _=>⟨rowa,a1,xa,a2,fa,a4,zi C hp a5 ⟨rowb,b1,xb,b2,fb,b4,zi C hp b5 ?_⟩⟩⟩
   ·rw[lt0] at q;cases q
   ·rw[lt0] at q;cases q
   ·have:=lp.1 q;omega
   ·have:=lp.1 q;omega
   ·exact absurd (bG.1 q) hne
   ·have:=bG.1 q;omega
   ·have:=bG.1 q;omega
   ·have q:0<i:=aT.1 q
    obtain⟨w,hw⟩:=aB (l:=r) (i:=i-1) (by omega)
    have hlt:n2Lt w y:=by
     obtain⟨q1,rfl⟩:=List.getElem?_eq_some_iff.1 hw
     obtain⟨q2,rfl⟩:=List.getElem?_eq_some_iff.1 hy
     exact List.pairwise_iff_getElem.1 hr.sorted _ _ q1 q2 (by omega)
    unfold n2Lt at hlt
    refine⟨q,by omega,w,hw,fun q2=>?_,fun _=>⟨q,by omega,w,hw,fun q2=>⟨q,by omega,w,hw,?_⟩,fun _=>G⟩⟩
    ·have:=aT.1 q2;omega
    ·have q2:=bG.1 q2
     have:(!ltN w.b y.b)=false:=by rw[Bool.not_eq_false'];exact aT.2 (by omega)
     rw[this];exact G
   ·refine di (a:=false) (fun G=>⟨fun q=>absurd rfl (dY.1 q),fun _=>⟨fun q=>absurd rfl (dY.1 q),fun _=>⟨fun q=>?_,fun _=>G⟩⟩⟩) ⟨(fun q=>by cases q),fun _=>⟨by omega,hn⟩⟩
    have:=(BU C hp).go hr hym a5 b5 a6 b6 q
    dsimp only
    rw[this];exact G
  ·intro k i nx hi hk
   refine⟨fun q=>?_,fun _=>hk⟩
   have:=aT.1 q;omega
theorem CT {x:shP.Den} (w:shP.wf x):∃ y:PData,PB y/\elV (!true) (shP.bb x)=Dn y:=by
 obtain⟨a,b,u⟩:=x
 obtain⟨wa,wb,_⟩:=w
 obtain⟨a',q1,e1⟩:=pQ wa
 obtain⟨b',q2,e2⟩:=pQ wb
 refine⟨⟨a',b'⟩,⟨q1,q2⟩,?_⟩
 show Value.agg ⟨(Sh.slice shB).bb a++((Sh.slice shB).bb b++[])⟩=_
 rw[e1,e2];rfl
def cb:List (Sh×Bool):=[(shC,true),(shP,true)]
theorem ko (x:zI cb) (w:wfL cb x):FnV Tryz.prog NG vars 4 ⟨Bm cb x⟩ (.bool true):=by
 obtain⟨c,z,u⟩:=x
 obtain⟨wc,wz,_⟩:=w
 obtain⟨y,hy,e1⟩:=EN wc
 obtain⟨q,_,e2⟩:=CT wz
 have e:Bm cb (c,z,u)=[bE y,Dn q]:=by
  show [elV (!true) (shC.bb c),elV (!true) (shP.bb z)]=_
  rw[e1,e2]
 rw[e]
 exact FnV.qV (enc:=Value.bool) (r:=true) (PureV.flat rfl) fun h hB=>dV (K:=fun r=>r=true) (lz hy rfl) hB
end Go.Proofs.YtobphhjcadjfjaaGreatDoor
