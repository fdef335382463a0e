/-
  W3, Co5, Cir12, Co7, Co8, Co9, CollapsesCore: parts of the proof.
-/
import Derived.Test.YtobphhjcadjfjaaGreatDoorSc51
namespace Go.Proofs.YtobphhjcadjfjaaGreatDoor
open Go.Abs
set_option maxRecDepth 100000
set_option maxHeartbeats 8000000
def iF (p0:Circ) (p1:List Flt) (p2:List Nat) (K:List Nat×Nat->Prop):Prop:=bK p0 p1 (p2.map Int.ofNat) K
theorem lu {p0:Circ}{p1:List Flt}{p2:List Nat}{K:List Nat×Nat->Prop} (hm:iF p0 p1 p2 K) {h0:Heap} (hB:HasB vars h0):∃ r,K r/\CallD Tryz.prog NG 14 ⟨[aB p0,(ah 5 aw) p1,(ah 1 i64) p2]⟩ h0 ((fun (r:List Nat×Nat)=>Value.tuple ⟨[(aQ 1 i64) (r.1),i64 (r.2)]⟩) r) h0:=by
 have e:ah 1 z64 (p2.map Int.ofNat)=ah 1 i64 p2:=by unfold ah;rw[List.map_map];rfl
 rw[<- e]
 exact kY hm hB
def bp (p0:Circ) (p1:Nat) (K:Nat->Prop):Prop :=
 an (α:=Nat) (fun k2=>ar (S:=(Nat×Nat)) (fun (v3,v4) nx5=>((ltN v4 p0.nodes.length)=true->an (α:=Nat) (fun k7=>∃ x8,p0.nodes[v4]?=some x8/\((eqN x8.kind p1)=true->v3+1<2 ^ 63/\k7 (v3+1))/\((eqN x8.kind p1)=false->k7 v3)) (fun v6=>v4+1<2 ^ 63/\nx5 (v6,(v4+1))))/\((ltN v4 p0.nodes.length)=false->k2 v3)) (0,0)) (fun v1=>K v1)
theorem eU {p0:Circ}{p1:Nat}{K:Nat->Prop} (hm:bp p0 p1 K) {h0:Heap} (hB:HasB vars h0):∃ r,K r/\CallD Tryz.prog NG 19 ⟨[aB p0,n8 p1]⟩ h0 (i64 r) h0:=by
 unfold bp at hm
 refine fw Tryz.func19 hB (enc:=i64) (fun r=>PureV.flat rfl) fun O=>?_;conv=>whnf
 refine gX ?_
 refine fz ?_;refine gH ?_
 apply Cs;conv=>whnf
 apply Cs;refine gH ?_
 refine jn hm 25 [] (fun s=>s) (fun v1 h=>Own vars h0 [] h) (fun v1=>[(5,(i64 v1))]) (fun hm=>?_) ?_
 ·refine gX ?_
  refine lw 25 [1,2] (σ:=(Nat×Nat)) (fun s=>s) (fun (v3,v4) h=>Own vars h0 [] h) (fun (v3,v4)=>[(5,(i64 v3)),(6,(i64 v4))]) (0,0) hm O ?_
  clear hm;rintro⟨v3,v4⟩ nx5 base h hm O
  refine gX ?_
  refine br hm (fun hm=>?_) fun hm=>?_
  ·apply Cs;conv=>whnf
   refine jn hm 25 [1,2,6] (fun s=>s) (fun v6 h=>Own vars h0 [] h) (fun v6=>[(5,(i64 v6))]) (fun hm=>?_) ?_
   ·refine gX ?_
    refine atF hm fun x8 hx8 hm=>?_;refine gX ?_
    refine br hm (fun hm=>?_) fun hm=>?_
    ·refine gX ?_
     refine aL hm fun hm=>?_;refine gH ?_
     exact jx (v3+1) hm O
    ·refine gX ?_
     exact jx v3 hm O
   ·clear hm;rintro v6 base h hm O
    refine gX ?_
    refine aL hm fun hm=>?_;refine gH ?_
    exact jx (v6,(v4+1)) hm O
  ·refine gX ?_
   exact jx v3 hm O
 ·clear hm;rintro v1 base h hm O
  refine gX ?_
  exact fe hm O
def bo (p0:(List Nat)) (p1:Nat) (p2:Nat) (K:(List Nat)->Prop):Prop :=
 an (α:=(List Nat)) (fun k6=>ar (S:=((List Nat)×Nat)) (fun (v8,v9) nx11=>((ltN v9 p1)=true->an (α:=(List Nat)) (fun k15=>((eqN p0.length 0)=true->(v8.length+([2]:(List Nat)).length)*1<=2 ^ 47/\k15 (v8++([2]:(List Nat))))/\((eqN p0.length 0)=false->0<p0.length/\∃ x18,p0[(v9%p0.length)]?=some x18/\0<p2/\(v8.length+([(x18%p2)]:(List Nat)).length)*1<=2 ^ 47/\k15 (v8++([(x18%p2)]:(List Nat))))) (fun v13=>v9+1<2 ^ 63/\nx11 (v13,(v9+1))))/\((ltN v9 p1)=false->k6 v8)) (([]:List Nat),0)) (fun v4=>K v4)
theorem eS {p0:(List Nat)}{p1:Nat}{p2:Nat}{K:(List Nat)->Prop} (hm:bo p0 p1 p2 K) {h0:Heap} (hB:HasB vars h0):∃ r,K r/\CallD Tryz.prog NG 18 ⟨[(ah 1 n8) p0,i64 p1,n8 p2]⟩ h0 ((ah 1 n8) r) h0:=by
 unfold bo at hm
 refine fw Tryz.func18 hB (enc:=(ah 1 n8)) (fun r=>eF (fun _=>ai.cons (PureV.flat rfl) ai.nil)) fun O=>?_;conv=>whnf
 apply Cs;conv=>whnf
 apply Cs;refine gH ?_
 have O:=O.aM (.cells (flatC ((([]:List Nat)).map n8)) false)
 apply Cs;conv=>whnf
 apply Cs;refine gH ?_
 have O:=O.aM (.cells (flatC ((([]:List Nat)).map n8)) false)
 refine jn (σ:=(List Nat)×Option Nat) hm 33 [] (fun s=>s.1) (fun (v4,a3) h=>(a3=none->v4=[])/\Own vars h0 [(a3,.cells (flatC (v4.map n8)) false)] h) (fun (v4,a3)=>[(7,(ag 1 a3 (v4.map n8)))]) (fun hm=>?_) ?_
 ·refine gX ?_
  refine lw 33 [0,1,2] (σ:=((List Nat)×Nat)×Option Nat) (fun s=>s.1) (fun ((v8,v9),a7) h=>(a7=none->v8=[])/\Own vars h0 [(a7,.cells (flatC (v8.map n8)) false)] h) (fun ((v8,v9),a7)=>[(7,(ag 1 a7 (v8.map n8))),(8,(i64 v9))]) ((([]:List Nat),0),none) hm ⟨(fun _=>rfl),(O.sel [0] (by decide))⟩ ?_
  clear hm;rintro⟨⟨v8,v9⟩,a7⟩ nx11 base h hm ⟨ha10,O⟩
  refine gX ?_
  refine br hm (fun hm=>?_) fun hm=>?_
  ·apply Cs;conv=>whnf
   refine jn (σ:=(List Nat)×Option Nat) hm 33 [0,1,2,8] (fun s=>s.1) (fun (v13,a12) h=>(a12=none->v13=[])/\Own vars h0 [(a12,.cells (flatC (v13.map n8)) false)] h) (fun (v13,a12)=>[(7,(ag 1 a12 (v13.map n8)))]) (fun hm=>?_) ?_
   ·refine gX ?_
    refine br hm (fun hm=>?_) fun hm=>?_
    ·refine gX ?_
     refine fz ?_;refine gH ?_
     refine O.apL (enc:=n8) (l:=v8) (new:=([2]:(List Nat))) 1 (.head _) ha10 hm fun a16 h ha17 O hm=>?_;refine gH ?_
     exact jx ((v8++([2]:(List Nat))),a16) hm ⟨ha17,O⟩
    ·refine gX ?_
     refine qY hm fun hm=>?_;refine gH ?_
     refine atF hm fun x18 hx18 hm=>?_;refine gH ?_
     refine qY hm fun hm=>?_;refine gH ?_
     refine fz ?_;refine gH ?_
     refine O.apL (enc:=n8) (l:=v8) (new:=([(x18%p2)]:(List Nat))) 1 (.head _) ha10 hm fun a19 h ha20 O hm=>?_;refine gH ?_
     exact jx ((v8++([(x18%p2)]:(List Nat))),a19) hm ⟨ha20,O⟩
   ·clear hm;rintro⟨v13,a12⟩ base h hm ⟨ha14,O⟩
    refine gX ?_
    refine aL hm fun hm=>?_;refine gH ?_
    exact jx ((v13,(v9+1)),a12) hm ⟨ha14,O⟩
  ·refine gX ?_
   exact jx (v8,a7) hm ⟨ha10,O⟩
 ·clear hm;rintro⟨v4,a3⟩ base h hm ⟨ha5,O⟩
  refine gX ?_
  exact⟨v4,hm,O.ext,fun h2 F=>O.iz F (Nat.le_refl _) (.head _) ha5 (fun _=>rfl)⟩
def ff (p0:PData) (p1:Circ) (K:Pat->Prop):Prop :=
 bp p1 0 (fun r3=>bo p0.inp r3 4 (fun r4=>bp p1 14 (fun r5=>bo p0.state r5 3 (fun r6=>K (⟨r4,r6⟩:Pat)))))
theorem qU {p0:PData}{p1:Circ}{K:Pat->Prop} (hm:ff p0 p1 K) {h0:Heap} (hB:HasB vars h0):∃ r,K r/\CallD Tryz.prog NG 8 ⟨[A0 p0,aB p1]⟩ h0 (lY r) h0:=by
 unfold ff at hm
 refine fw Tryz.func8 hB (enc:=lY) (fun r=>AY _) fun O=>?_;conv=>whnf
 refine gX ?_
 refine fz ?_;refine gH ?_
 refine fz ?_;refine gH ?_
 refine O.new (ak (l:=[(.slice none 0 0),(.slice none 0 0)]) rfl rfl rfl) fun g1 h O=>?_;refine gH ?_
 refine gX ?_
 refine dF ?_
 refine gX ?_
 refine dF ?_
 refine gX ?_
 refine ca (eU hm O.has) fun r3 hm=>?_;refine gH ?_
 refine⟨.inl (Ext.refl _),?_⟩;refine gH ?_
 refine ca (eS hm O.has) fun r4 hm=>?_;refine gH ?_
 refine⟨.inl (Ext.refl _),?_⟩;refine gH ?_
 refine dF ?_
 refine gX ?_
 refine dF ?_
 refine gX ?_
 refine ca (eU hm O.has) fun r5 hm=>?_;refine gH ?_
 refine⟨.inl (Ext.refl _),?_⟩;refine gH ?_
 refine ca (eS hm O.has) fun r6 hm=>?_;refine gH ?_
 refine⟨.inl (Ext.refl _),?_⟩;refine gH ?_
 refine O.stC 2 (.head _) [((ah 1 n8) r4),((ah 1 n8) r6)] fun h O=>?_;refine gH ?_
 refine gX ?_
 refine⟨_,aH rfl rfl (O.at (.head _)) rfl rfl (lbE rfl) rfl,?_⟩;conv=>whnf
 exact fe hm O
def cB  (K:(Circ×(List Flt))->Prop):Prop :=
 ib (⟨([(⟨0,([]:(List Nat)),0,0⟩:Node),(⟨0,([]:(List Nat)),0,0⟩:Node),(⟨5,([0,1]:(List Nat)),0,0⟩:Node)]:(List Node)),([(⟨#[97]⟩:ByteArray),(⟨#[98]⟩:ByteArray),(⟨#[121]⟩:ByteArray)]:(List ByteArray)),([]:(List Memo)),([2]:(List Nat))⟩:Circ) 0 (fun r5=>K ((⟨([(⟨0,([]:(List Nat)),0,0⟩:Node),(⟨0,([]:(List Nat)),0,0⟩:Node),(⟨5,([0,1]:(List Nat)),0,0⟩:Node)]:(List Node)),([(⟨#[97]⟩:ByteArray),(⟨#[98]⟩:ByteArray),(⟨#[121]⟩:ByteArray)]:(List ByteArray)),[],([2]:(List Nat))⟩:Circ),r5.1))
theorem jS  {K:(Circ×(List Flt))->Prop} (hm:cB  K) {h0:Heap} (hB:HasB vars h0):∃ r,K r/\CallD Tryz.prog NG 25 ⟨[]⟩ h0 ((fun (r:(Circ×(List Flt)))=>Value.tuple ⟨[aB (r.1),(ah 5 aw) (r.2)]⟩) r) h0:=by
 unfold cB at hm
 refine fw Tryz.func25 hB (enc:=(fun (r:(Circ×(List Flt)))=>Value.tuple ⟨[aB (r.1),(ah 5 aw) (r.2)]⟩)) (fun r=>PureV.tup (ai.cons (mC _) (ai.cons (eF (fun _=>pF _)) (ai.nil)))) fun O=>?_;conv=>whnf
 refine gX ?_
 refine O.new (ak (l:=[(.slice none 0 0),(.slice none 0 0),(.slice none 0 0),(.slice none 0 0)]) rfl rfl rfl) fun g1 h O=>?_;refine gH ?_
 refine gX ?_
 refine fz ?_;refine gH ?_
 refine NewG.frzW rfl (VLe.els (s:=4) (es':=([(⟨0,([]:(List Nat)),0,0⟩:Node),(⟨0,([]:(List Nat)),0,0⟩:Node),(⟨5,([0,1]:(List Nat)),0,0⟩:Node)]).map al) rfl (cg (enc:=al) (s:=4) (fun _=>rfl) _) (LLe.cons (VLe.refl _ _) (LLe.cons (VLe.nil _ _) (LLe.cons (VLe.refl _ _) (LLe.cons (VLe.refl _ _) (LLe.cons (VLe.refl _ _) (LLe.cons (VLe.nil _ _) (LLe.cons (VLe.refl _ _) (LLe.cons (VLe.refl _ _) (LLe.cons (VLe.refl _ _) (LLe.cons (VLe.refl _ _) (LLe.cons (VLe.refl _ _) (LLe.cons (VLe.refl _ _) (LLe.nil _)))))))))))))) ?_;refine gH ?_
 refine fz ?_;refine gH ?_
 refine fz ?_;refine gH ?_
 refine O.new (ak (l:=[(.slice none 0 0),(.slice none 0 0),(.slice none 0 0),(.slice none 0 0)]) rfl rfl rfl) fun g3 h O=>?_;refine gH ?_
 refine O.stC 4 (.head _) [((ah 4 al) ([(⟨0,([]:(List Nat)),0,0⟩:Node),(⟨0,([]:(List Nat)),0,0⟩:Node),(⟨5,([0,1]:(List Nat)),0,0⟩:Node)]:(List Node))),((ah 1 Value.string) ([(⟨#[97]⟩:ByteArray),(⟨#[98]⟩:ByteArray),(⟨#[121]⟩:ByteArray)]:(List ByteArray))),(.slice none 0 0),((ah 1 i64) ([2]:(List Nat)))] fun h O=>?_;refine gX ?_
 refine ldA (O.at (.head _)) ?_;refine gH ?_
 refine caW (lh hm O.has) (LLe.cons (VLe.agg (LLe.cons (VLe.refl _ _) (LLe.cons (VLe.refl _ _) (LLe.cons (VLe.nil _ _) (LLe.cons (VLe.refl _ _) (LLe.nil _)))))) (LLe.cons (VLe.refl _ _) (LLe.nil _))) fun r5 hm=>?_;refine gX ?_
 refine ldA (O.at (.head _)) ?_;refine gH ?_
 refine O.stC 4 (.tail _ (.head _)) [((ah 4 al) ([(⟨0,([]:(List Nat)),0,0⟩:Node),(⟨0,([]:(List Nat)),0,0⟩:Node),(⟨5,([0,1]:(List Nat)),0,0⟩:Node)]:(List Node))),((ah 1 Value.string) ([(⟨#[97]⟩:ByteArray),(⟨#[98]⟩:ByteArray),(⟨#[121]⟩:ByteArray)]:(List ByteArray))),(.slice none 0 0),((ah 1 i64) ([2]:(List Nat)))] fun h O=>?_;refine gX ?_
 refine⟨_,aH rfl rfl (O.at (.tail _ (.head _))) rfl rfl (lbE rfl) rfl,?_⟩;conv=>whnf
 exact⟨((⟨([(⟨0,([]:(List Nat)),0,0⟩:Node),(⟨0,([]:(List Nat)),0,0⟩:Node),(⟨5,([0,1]:(List Nat)),0,0⟩:Node)]:(List Node)),([(⟨#[97]⟩:ByteArray),(⟨#[98]⟩:ByteArray),(⟨#[121]⟩:ByteArray)]:(List ByteArray)),[],([2]:(List Nat))⟩:Circ),r5.1),hm,O.ext,fun h2 F=>VLe.tup (LLe.cons (VLe.agg (LLe.cons (VLe.refl _ _) (LLe.cons (VLe.refl _ _) (LLe.cons (VLe.nil _ _) (LLe.cons (VLe.refl _ _) (LLe.nil _)))))) (LLe.cons (VLe.refl _ _) (LLe.nil _)))⟩
def aG (p0:(List Nat)) (p1:(List Nat)) (K:Bool->Prop):Prop :=
 an (α:=Bool) (fun k2=>((neN p0.length p1.length)=true->k2 true)/\((neN p0.length p1.length)=false->k2 (neN p0.length p0.length))) (fun v1=>(v1=true->K false)/\(v1=false->an (α:=Unit) (fun k3=>ar (S:=Nat) (fun v4 nx5=>((ltN v4 p0.length)=true->∃ x6,p0[v4]?=some x6/\∃ x7,p1[v4]?=some x7/\((neN x6 x7)=true->K false)/\((neN x6 x7)=false->v4+1<2 ^ 63/\nx5 (v4+1)))/\((ltN v4 p0.length)=false->k3 ())) 0) (fun _=>K true)))
theorem bk {p0:(List Nat)}{p1:(List Nat)}{K:Bool->Prop} (hm:aG p0 p1 K) {h0:Heap} (hB:HasB vars h0):∃ r,K r/\CallD Tryz.prog NG 15 ⟨[(aQ 1 i64) p0,(ah 1 i64) p1]⟩ h0 (Value.bool r) h0:=by
 unfold aG at hm
 refine fw Tryz.func15 hB (enc:=Value.bool) (fun r=>PureV.flat rfl) fun O=>?_;conv=>whnf
 apply Cs;conv=>whnf
 apply Cs;refine gH ?_
 apply Cs;conv=>whnf
 refine jn hm 33 [0,1] (fun s=>s) (fun v1 h=>Own vars h0 [] h) (fun v1=>[(17,(.bool v1))]) (fun hm=>?_) ?_
 ·refine gX ?_
  refine lmC ?_;refine gH ?_
  refine br hm (fun hm=>?_) fun hm=>?_
  ·refine gX ?_
   exact jx true hm O
  ·refine gX ?_
   refine cpC ?_;refine gH ?_
   refine lmC ?_;refine gH ?_
   exact jx (neN p0.length p0.length) hm O
 ·clear hm;rintro v1 base h hm O
  refine gX ?_
  refine br hm (fun hm=>?_) fun hm=>?_
  ·refine gX ?_
   exact fe hm O
  ·apply Cs;conv=>whnf
   refine jn hm 33 [] (fun s=>s) (fun _ h=>Own vars h0 [] h) (fun _=>[]) (fun hm=>?_) ?_
   ·refine gX ?_
    refine lw 33 [0,1] (σ:=Nat) (fun s=>s) (fun v4 h=>Own vars h0 [] h) (fun v4=>[(5,(i64 v4))]) 0 hm O ?_
    clear hm;rintro v4 nx5 base h hm O
    refine gX ?_
    refine lmC ?_;refine gX ?_
    refine br hm (fun hm=>?_) fun hm=>?_
    ·refine gX ?_
     refine atC hm fun x6 hx6 hm=>?_;refine gH ?_
     refine atF hm fun x7 hx7 hm=>?_;refine gX ?_
     refine br hm (fun hm=>?_) fun hm=>?_
     ·refine gX ?_
      exact fe hm O
     ·refine gX ?_
      refine aL hm fun hm=>?_;refine gH ?_
      exact jx (v4+1) hm O
    ·refine gX ?_
     exact jx () hm O
   ·clear hm;rintro _ base h hm O
    refine gX ?_
    exact fe hm O
def aZ  (K:Bool->Prop):Prop :=
 cB  (fun r1=>bN r1.1 r1.2 (fun r4=>bq r1.1 r1.2 (fun r5=>cv r1.1 r1.2 (fun r6=>iF r1.1 r1.2 ([7]:(List Nat)) (fun r7=>an (α:=Bool) (fun k9=>((neN r4.2 0)=true->k9 true)/\((neN r4.2 0)=false->((neN r5.2 0)=true->k9 true)/\((neN r5.2 0)=false->((neN r6.2 0)=true->k9 true)/\((neN r6.2 0)=false->((neN r7.2 0)=true->k9 true)/\((neN r7.2 0)=false->((neN r4.1.length 4)=true->k9 true)/\((neN r4.1.length 4)=false->k9 (neN r5.1.length 2))))))) (fun v8=>(v8=true->K false)/\(v8=false->∃ x10,r4.1[0]?=some x10/\aG x10 ([0,2,4,6,8]:(List Nat)) (fun r11=>(r11=true->∃ x12,r4.1[1]?=some x12/\aG x12 ([1,7]:(List Nat)) (fun r13=>(r13=true->∃ x14,r4.1[2]?=some x14/\aG x14 ([3,9]:(List Nat)) (fun r15=>(r15=true->∃ x16,r4.1[3]?=some x16/\aG x16 ([5]:(List Nat)) (fun r17=>(r17=true->∃ x18,r5.1[0]?=some x18/\(((eqN x18.a 1)&&((eqN x18.b 3)&&true))=true->∃ x19,r5.1[1]?=some x19/\(((eqN x19.a 2)&&((eqN x19.b 3)&&true))=true->aG r6.1 ([0,1,3]:(List Nat)) (fun r20=>(r20=true->aG r7.1 ([1,5,7]:(List Nat)) (fun r21=>K r21))/\(r20=false->K false)))/\(((eqN x19.a 2)&&((eqN x19.b 3)&&true))=false->K false))/\(((eqN x18.a 1)&&((eqN x18.b 3)&&true))=false->K false))/\(r17=false->K false)))/\(r15=false->K false)))/\(r13=false->K false)))/\(r11=false->K false)))))))))
theorem cQ  {K:Bool->Prop} (hm:aZ  K) {h0:Heap} (hB:HasB vars h0):∃ r,K r/\CallD Tryz.prog NG 11 ⟨[]⟩ h0 (Value.bool r) h0:=by
 unfold aZ at hm
 refine fw Tryz.func11 hB (enc:=Value.bool) (fun r=>PureV.flat rfl) fun O=>?_;conv=>whnf
 refine gX ?_
 refine ca (jS hm O.has) fun r1 hm=>?_;refine gH ?_
 refine O.new (ak (l:=[nS,nS,nS,nS]) rfl rfl rfl) fun g2 h O=>?_;refine gH ?_
 refine O.stC 4 (.head _) [((ah 4 al) r1.1.nodes),((ah 1 Value.string) r1.1.names),((ah 3 az) r1.1.mems),((ah 1 i64) r1.1.outs)] fun h O=>?_;refine gX ?_
 refine ldA (O.at (.head _)) ?_;refine gH ?_
 refine ca (fW hm O.has) fun r4 hm=>?_;refine gX ?_
 refine ldA (O.at (.head _)) ?_;refine gH ?_
 refine ca (eT hm O.has) fun r5 hm=>?_;refine gX ?_
 refine ldA (O.at (.head _)) ?_;refine gH ?_
 refine ca (iB hm O.has) fun r6 hm=>?_;refine gX ?_
 refine ldA (O.at (.head _)) ?_;refine gH ?_
 refine fz ?_;refine gH ?_
 refine ca (lu hm O.has) fun r7 hm=>?_;refine gH ?_
 apply Cs;conv=>whnf
 refine jn hm 114 [3,5,7,9] (fun s=>s) (fun v8 h=>Own vars h0 [] h) (fun v8=>[(63,(.bool v8))]) (fun hm=>?_) ?_
 ·refine gX ?_
  refine br hm (fun hm=>?_) fun hm=>?_
  ·refine gX ?_
   refine bt ?_;refine gH ?_
   refine bt ?_;refine gH ?_
   refine bt ?_;refine gH ?_
   refine bt ?_;refine gH ?_
   exact jx true hm (O.sel [] (by decide))
  ·refine gX ?_
   refine br hm (fun hm=>?_) fun hm=>?_
   ·refine gX ?_
    refine bt ?_;refine gH ?_
    refine bt ?_;refine gH ?_
    refine bt ?_;refine gH ?_
    exact jx true hm (O.sel [] (by decide))
   ·refine gX ?_
    refine br hm (fun hm=>?_) fun hm=>?_
    ·refine gX ?_
     refine bt ?_;refine gH ?_
     refine bt ?_;refine gH ?_
     exact jx true hm (O.sel [] (by decide))
    ·refine gX ?_
     refine br hm (fun hm=>?_) fun hm=>?_
     ·refine gX ?_
      refine bt ?_;refine gH ?_
      exact jx true hm (O.sel [] (by decide))
     ·refine gX ?_
      refine lmC ?_;refine gH ?_
      refine br hm (fun hm=>?_) fun hm=>?_
      ·refine gX ?_
       exact jx true hm (O.sel [] (by decide))
      ·refine gX ?_
       exact jx (neN r5.1.length 2) hm (O.sel [] (by decide))
 ·clear hm;rintro v8 base h hm O
  refine gX ?_
  refine br hm (fun hm=>?_) fun hm=>?_
  ·refine gX ?_
   exact fe hm O
  ·refine gX ?_
   refine atC hm fun x10 hx10 hm=>?_;refine gH ?_
   refine fz ?_;refine gH ?_
   refine ca (bk hm O.has) fun r11 hm=>?_;refine gH ?_
   refine br hm (fun hm=>?_) fun hm=>?_
   ·refine gX ?_
    refine atC hm fun x12 hx12 hm=>?_;refine gH ?_
    refine fz ?_;refine gH ?_
    refine ca (bk hm O.has) fun r13 hm=>?_;refine gH ?_
    refine br hm (fun hm=>?_) fun hm=>?_
    ·refine gX ?_
     refine atC hm fun x14 hx14 hm=>?_;refine gH ?_
     refine fz ?_;refine gH ?_
     refine ca (bk hm O.has) fun r15 hm=>?_;refine gH ?_
     refine br hm (fun hm=>?_) fun hm=>?_
     ·refine gX ?_
      refine atC hm fun x16 hx16 hm=>?_;refine gH ?_
      refine fz ?_;refine gH ?_
      refine ca (bk hm O.has) fun r17 hm=>?_;refine gH ?_
      refine br hm (fun hm=>?_) fun hm=>?_
      ·refine gX ?_
       refine atF hm fun x18 hx18 hm=>?_;refine gH ?_
       refine⟨.bool ((eqN x18.a 1)&&((eqN x18.b 3)&&true)),by kernel_rfl,?_⟩;refine gH ?_
       refine br hm (fun hm=>?_) fun hm=>?_
       ·refine gX ?_
        refine atF hm fun x19 hx19 hm=>?_;refine gH ?_
        refine⟨.bool ((eqN x19.a 2)&&((eqN x19.b 3)&&true)),by kernel_rfl,?_⟩;refine gH ?_
        refine br hm (fun hm=>?_) fun hm=>?_
        ·refine gX ?_
         refine fz ?_;refine gH ?_
         refine ca (bk hm O.has) fun r20 hm=>?_;refine gH ?_
         refine br hm (fun hm=>?_) fun hm=>?_
         ·refine gX ?_
          refine fz ?_;refine gH ?_
          refine ca (bk hm O.has) fun r21 hm=>?_;refine gX ?_
          exact fe hm O
         ·refine gX ?_
          exact fe hm O
        ·refine gX ?_
         refine bf ?_;refine gX ?_
         exact fe hm O
       ·refine gX ?_
        refine bf ?_;refine gH ?_
        refine bf ?_;refine gX ?_
        exact fe hm O
      ·refine gX ?_
       refine bf ?_;refine gH ?_
       refine bf ?_;refine gH ?_
       refine bf ?_;refine gX ?_
       exact fe hm O
     ·refine gX ?_
      refine bf ?_;refine gH ?_
      refine bf ?_;refine gH ?_
      refine bf ?_;refine gH ?_
      refine bf ?_;refine gX ?_
      exact fe hm O
    ·refine gX ?_
     refine bf ?_;refine gH ?_
     refine bf ?_;refine gH ?_
     refine bf ?_;refine gH ?_
     refine bf ?_;refine gH ?_
     refine bf ?_;refine gX ?_
     exact fe hm O
   ·refine gX ?_
    refine bf ?_;refine gH ?_
    refine bf ?_;refine gH ?_
    refine bf ?_;refine gH ?_
    refine bf ?_;refine gH ?_
    refine bf ?_;refine gH ?_
    refine bf ?_;refine gX ?_
    exact fe hm O
def cd (p0:CData) (K:(Circ×(List Flt))->Prop):Prop :=
 cb p0 (fun r3=>ib r3 0 (fun r6=>K (r3,r6.1)))
theorem kq {p0:CData}{K:(Circ×(List Flt))->Prop} (hm:cd p0 K) {h0:Heap} (hB:HasB vars h0):∃ r,K r/\CallD Tryz.prog NG 7 ⟨[bH p0]⟩ h0 ((fun (r:(Circ×(List Flt)))=>Value.tuple ⟨[aB (r.1),(ah 5 aw) (r.2)]⟩) r) h0:=by
 unfold cd at hm
 refine fw Tryz.func7 hB (enc:=(fun (r:(Circ×(List Flt)))=>Value.tuple ⟨[aB (r.1),(ah 5 aw) (r.2)]⟩)) (fun r=>PureV.tup (ai.cons (mC _) (ai.cons (eF (fun _=>pF _)) (ai.nil)))) fun O=>?_;conv=>whnf
 refine gX ?_
 refine fz ?_;refine gH ?_
 refine O.new (ak (l:=[(.slice none 0 0),(.slice none 0 0),(.slice none 0 0),(.slice none 0 0)]) rfl rfl rfl) fun g1 h O=>?_;refine gH ?_
 refine gX ?_
 refine ca (iR hm O.has) fun r3 hm=>?_;refine gH ?_
 refine O.new (ak (l:=[(.slice none 0 0),(.slice none 0 0),(.slice none 0 0),(.slice none 0 0)]) rfl rfl rfl) fun g4 h O=>?_;refine gH ?_
 refine O.stC 4 (.head _) [((ah 4 al) r3.nodes),((ah 1 Value.string) r3.names),((ah 3 az) r3.mems),((ah 1 i64) r3.outs)] fun h O=>?_;refine gX ?_
 refine ldA (O.at (.head _)) ?_;refine gH ?_
 refine ca (lh hm O.has) fun r6 hm=>?_;refine gX ?_
 refine ldA (O.at (.head _)) ?_;refine gH ?_
 refine O.stC 4 (.tail _ (.head _)) [((ah 4 al) r3.nodes),((ah 1 Value.string) r3.names),((ah 3 az) r3.mems),((ah 1 i64) r3.outs)] fun h O=>?_;refine gX ?_
 refine⟨_,aH rfl rfl (O.at (.tail _ (.head _))) rfl rfl (lbE rfl) rfl,?_⟩;conv=>whnf
 exact⟨(r3,r6.1),hm,O.ext,fun h2 F=>VLe.tup (LLe.cons (VLe.refl _ _) (LLe.cons (VLe.refl _ _) (LLe.nil _)))⟩
def bw (p0:CData) (p1:(List PData)) (K:Bool->Prop):Prop :=
 ((ltN 20 p1.length)=true->aZ  (fun r1=>K r1))/\((ltN 20 p1.length)=false->cd p0 (fun r2=>cv r2.1 r2.2 (fun r5=>bN r2.1 r2.2 (fun r6=>bq r2.1 r2.2 (fun r7=>an (α:=Bool) (fun k9=>((neN r5.2 0)=true->k9 true)/\((neN r5.2 0)=false->((neN r6.2 0)=true->k9 true)/\((neN r6.2 0)=false->k9 (neN r7.2 0)))) (fun v8=>(v8=true->K false)/\(v8=false->an (α:=(List (Nat×Bool))) (fun k13=>ar (S:=((List (Nat×Bool))×Nat)) (fun (v14,v15) nx16=>((ltN v15 r7.1.length)=true->∃ x17,r7.1[v15]?=some x17/\v15+1<2 ^ 63/\nx16 ((iQ v14 x17.b true),(v15+1)))/\((ltN v15 r7.1.length)=false->k13 v14)) (([]:List (Nat×Bool)),0)) (fun v12=>an (α:=Nat) (fun k19=>ar (S:=(Nat×Nat)) (fun (v20,v21) nx22=>((ltN v21 r6.1.length)=true->an (α:=Nat) (fun k24=>(((cc v12 v21).getD false)=true->k24 v20)/\(((cc v12 v21).getD false)=false->an (α:=Bool) (fun k26=>((!ltN v20 r5.1.length)=true->k26 true)/\((!ltN v20 r5.1.length)=false->∃ x27,r6.1[v21]?=some x27/\((eqN x27.length 0)=true->k26 true)/\((eqN x27.length 0)=false->∃ x28,r5.1[v20]?=some x28/\∃ x29,r6.1[v21]?=some x29/\∃ x30,x29[0]?=some x30/\k26 (neN x28 x30)))) (fun v25=>(v25=true->K false)/\(v25=false->v20+1<2 ^ 63/\k24 (v20+1))))) (fun v23=>v21+1<2 ^ 63/\nx22 (v23,(v21+1))))/\((ltN v21 r6.1.length)=false->k19 v20)) (0,0)) (fun v18=>((neN v18 r5.1.length)=true->K false)/\((neN v18 r5.1.length)=false->1*r2.2.length<=2 ^ 48/\r2.2.length<2 ^ 63/\an (α:=(List Bool)) (fun k34=>ar (S:=((List Bool)×Nat)) (fun (v35,v36) nx37=>((ltN v36 p1.length)=true->an (α:=(List Bool)) (fun k39=>ar (S:=((List Bool)×Nat)) (fun (v40,v41) nx42=>((ltN v41 r2.2.length)=true->an (α:=(List Bool)) (fun k44=>∃ x45,r2.2[v41]?=some x45/\∃ x46,p1[v36]?=some x46/\ff x46 r2.1 (fun r47=>ct r2.1 x45 r47 (fun r48=>((neN r48.2 0)=true->K false)/\((neN r48.2 0)=false->v41<r2.2.length/\∃ x49,v40[v41]?=some x49/\(x49=true->v41<r2.2.length/\∃ x50,v40[v41]?=some x50/\k44 (v40.set v41 true))/\(x49=false->v41<r2.2.length/\∃ x51,v40[v41]?=some x51/\k44 (v40.set v41 r48.1)))))) (fun v43=>v41+1<2 ^ 63/\nx42 (v43,(v41+1))))/\((ltN v41 r2.2.length)=false->k39 v40)) (v35,0)) (fun v38=>v36+1<2 ^ 63/\nx37 (v38,(v36+1))))/\((ltN v36 p1.length)=false->k34 v35)) ((List.replicate r2.2.length (false:Bool)),0)) (fun v33=>an (α:=Unit) (fun k52=>ar (S:=Nat) (fun v53 nx54=>((ltN v53 r5.1.length)=true->∃ x55,r5.1[v53]?=some x55/\x55<r2.2.length/\∃ x56,v33[x55]?=some x56/\((!x56)=true->aZ  (fun r57=>K r57))/\((!x56)=false->v53+1<2 ^ 63/\nx54 (v53+1)))/\((ltN v53 r5.1.length)=false->k52 ())) 0) (fun _=>an (α:=Unit) (fun k58=>ar (S:=Nat) (fun v59 nx60=>((ltN v59 r2.2.length)=true->v59<r2.2.length/\∃ x61,v33[v59]?=some x61/\((!x61)=true->K false)/\((!x61)=false->v59+1<2 ^ 63/\nx60 (v59+1)))/\((ltN v59 r2.2.length)=false->k58 ())) 0) (fun _=>aZ  (fun r62=>K r62))))))))))))))
theorem fN {p0:CData}{p1:(List PData)}{K:Bool->Prop} (hm:bw p0 p1 K) {h0:Heap} (hB:HasB vars h0):∃ r,K r/\CallD Tryz.prog NG 5 ⟨[bH p0,(ah 2 A0) p1]⟩ h0 (Value.bool r) h0:=by
 unfold bw at hm
 refine fw Tryz.func5 hB (enc:=Value.bool) (fun r=>PureV.flat rfl) fun O=>?_;conv=>whnf
 refine gX ?_
 refine fz ?_;refine gX ?_
 refine br hm (fun hm=>?_) fun hm=>?_
 ·refine gX ?_
  refine ca (cQ hm O.has) fun r1 hm=>?_;refine gX ?_
  exact fe hm O
 ·refine gX ?_
  refine ca (kq hm O.has) fun r2 hm=>?_;refine gH ?_
  refine O.new (ak (l:=[nS,nS,nS,nS]) rfl rfl rfl) fun g3 h O=>?_;refine gH ?_
  refine O.stC 4 (.head _) [((ah 4 al) r2.1.nodes),((ah 1 Value.string) r2.1.names),((ah 3 az) r2.1.mems),((ah 1 i64) r2.1.outs)] fun h O=>?_;refine gX ?_
  refine ldA (O.at (.head _)) ?_;refine gH ?_
  refine ca (iB hm O.has) fun r5 hm=>?_;refine gX ?_
  refine ldA (O.at (.head _)) ?_;refine gH ?_
  refine ca (fW hm O.has) fun r6 hm=>?_;refine gX ?_
  refine ldA (O.at (.head _)) ?_;refine gH ?_
  refine ca (eT hm O.has) fun r7 hm=>?_;refine gH ?_
  apply Cs;conv=>whnf
  refine jn hm 183 [1,5,6,7,9,11] (fun s=>s) (fun v8 h=>Own vars h0 [(sC g3 [((ah 4 al) r2.1.nodes),((ah 1 Value.string) r2.1.names),((ah 3 az) r2.1.mems),((ah 1 i64) r2.1.outs)])] h) (fun v8=>[(60,(.bool v8))]) (fun hm=>?_) ?_
  ·refine gX ?_
   refine br hm (fun hm=>?_) fun hm=>?_
   ·refine gX ?_
    refine bt ?_;refine gH ?_
    exact jx true hm O
   ·refine gX ?_
    refine br hm (fun hm=>?_) fun hm=>?_
    ·refine gX ?_
     exact jx true hm O
    ·refine gX ?_
     exact jx (neN r7.2 0) hm O
  ·clear hm;rintro v8 base h hm O
   refine gX ?_
   refine br hm (fun hm=>?_) fun hm=>?_
   ·refine gX ?_
    exact fe hm O
   ·refine gX ?_
    refine O.new ((rfl:anew _ _ _=some (.map (bF i64 Value.bool ([]:List (Nat×Bool))),fun g=>.map (some g)))) fun g10 h O=>?_;refine gH ?_
    refine jn hm 183 [1,5,6,7,9,13] (fun s=>s) (fun v12 h=>Own vars h0 [(sC g3 [((ah 4 al) r2.1.nodes),((ah 1 Value.string) r2.1.names),((ah 3 az) r2.1.mems),((ah 1 i64) r2.1.outs)]),((some g10),.map (bF i64 Value.bool v12))] h) (fun v12=>[]) (fun hm=>?_) ?_
    ·refine gX ?_
     refine lw 183 [1,5,6,7,9,11,13] (σ:=((List (Nat×Bool))×Nat)) (fun s=>s) (fun (v14,v15) h=>Own vars h0 [(sC g3 [((ah 4 al) r2.1.nodes),((ah 1 Value.string) r2.1.names),((ah 3 az) r2.1.mems),((ah 1 i64) r2.1.outs)]),((some g10),.map (bF i64 Value.bool v14))] h) (fun (v14,v15)=>[(14,(i64 v15))]) (([]:List (Nat×Bool)),0) hm (O.sel [1,0] (by decide)) ?_
     clear hm;rintro⟨v14,v15⟩ nx16 base h hm O
     refine gX ?_
     refine br hm (fun hm=>?_) fun hm=>?_
     ·refine gX ?_
      refine atF hm fun x17 hx17 hm=>?_;refine gH ?_
      refine lp rfl ?_;refine gH ?_
      refine O.vd (ek:=i64) (ev:=Value.bool) (m:=v14) (k:=x17.b) (v:=true) (.tail _ (.head _)) rfl rfl rfl mB rfl rfl rfl fun h O=>?_;refine gX ?_
      refine aL hm fun hm=>?_;refine gH ?_
      exact jx ((iQ v14 x17.b true),(v15+1)) hm O
     ·refine gX ?_
      exact jx v14 hm O
    ·clear hm;rintro v12 base h hm O
     conv=>whnf
     apply Cs;conv=>whnf
     apply Cs;refine gH ?_
     refine jn hm 183 [1,5,6,7] (fun s=>s) (fun v18 h=>Own vars h0 [(sC g3 [((ah 4 al) r2.1.nodes),((ah 1 Value.string) r2.1.names),((ah 3 az) r2.1.mems),((ah 1 i64) r2.1.outs)])] h) (fun v18=>[(15,(i64 v18))]) (fun hm=>?_) ?_
     ·refine gX ?_
      refine lw 183 [1,5,6,7,9,13] (σ:=(Nat×Nat)) (fun s=>s) (fun (v20,v21) h=>Own vars h0 [(sC g3 [((ah 4 al) r2.1.nodes),((ah 1 Value.string) r2.1.names),((ah 3 az) r2.1.mems),((ah 1 i64) r2.1.outs)]),((some g10),.map (bF i64 Value.bool v12))] h) (fun (v20,v21)=>[(15,(i64 v20)),(16,(i64 v21))]) (0,0) hm O ?_
      clear hm;rintro⟨v20,v21⟩ nx22 base h hm O
      refine gX ?_
      refine lmC ?_;refine gX ?_
      refine br hm (fun hm=>?_) fun hm=>?_
      ·apply Cs;conv=>whnf
       refine jn hm 183 [1,5,6,7,9,13,16] (fun s=>s) (fun v23 h=>Own vars h0 [(sC g3 [((ah 4 al) r2.1.nodes),((ah 1 Value.string) r2.1.names),((ah 3 az) r2.1.mems),((ah 1 i64) r2.1.outs)]),((some g10),.map (bF i64 Value.bool v12))] h) (fun v23=>[(15,(i64 v23))]) (fun hm=>?_) ?_
       ·refine gX ?_
        refine⟨_,zF (ek:=i64) (ev:=Value.bool) (m:=v12) (k:=v21) (z:=false) rfl rfl rfl rfl (by kernel_rfl) mB (O.at (.tail _ (.head _))) rfl rfl,?_⟩;refine gX ?_
        refine br hm (fun hm=>?_) fun hm=>?_
        ·refine gX ?_
         exact jx v20 hm O
        ·apply Cs;conv=>whnf
         apply Cs;conv=>whnf
         refine jn hm 183 [1,5,6,7,9,13,15,16] (fun s=>s) (fun v25 h=>Own vars h0 [(sC g3 [((ah 4 al) r2.1.nodes),((ah 1 Value.string) r2.1.names),((ah 3 az) r2.1.mems),((ah 1 i64) r2.1.outs)]),((some g10),.map (bF i64 Value.bool v12))] h) (fun v25=>[(107,(.bool v25))]) (fun hm=>?_) ?_
         ·refine gX ?_
          refine lmC ?_;refine gH ?_
          refine br hm (fun hm=>?_) fun hm=>?_
          ·refine gX ?_
           refine bt ?_;refine gH ?_
           exact jx true hm O
          ·refine gX ?_
           refine atC hm fun x27 hx27 hm=>?_;refine gH ?_
           refine dF ?_
           refine gX ?_
           refine lmC ?_;refine gH ?_
           refine br hm (fun hm=>?_) fun hm=>?_
           ·refine gX ?_
            exact jx true hm O
           ·refine gX ?_
            refine atC hm fun x28 hx28 hm=>?_;refine gH ?_
            refine atC hm fun x29 hx29 hm=>?_;refine gH ?_
            refine dF ?_
            refine gX ?_
            refine atC hm fun x30 hx30 hm=>?_;refine gH ?_
            exact jx (neN x28 x30) hm O
         ·clear hm;rintro v25 base h hm O
          refine gX ?_
          refine br hm (fun hm=>?_) fun hm=>?_
          ·refine gX ?_
           exact fe hm O
          ·refine gX ?_
           refine aL hm fun hm=>?_;refine gH ?_
           exact jx (v20+1) hm O
       ·clear hm;rintro v23 base h hm O
        refine gX ?_
        refine aL hm fun hm=>?_;refine gH ?_
        exact jx (v23,(v21+1)) hm O
      ·refine gX ?_
       exact jx v20 hm (O.sel [0] (by decide))
     ·clear hm;rintro v18 base h hm O
      refine gX ?_
      refine lmC ?_;refine gX ?_
      refine br hm (fun hm=>?_) fun hm=>?_
      ·refine gX ?_
       exact fe hm O
      ·refine gX ?_
       refine O.mkL (enc:=Value.bool) 1 1 false hm fun g31 h O hm=>?_;refine gH ?_
       refine jn hm 183 [6,7,17] (fun s=>s) (fun v33 h=>Own vars h0 [(sC g31 (flatC (v33.map Value.bool)))] h) (fun v33=>[]) (fun hm=>?_) ?_
       ·refine gX ?_
        refine lw 183 [1,5,6,7,17] (σ:=((List Bool)×Nat)) (fun s=>s) (fun (v35,v36) h=>Own vars h0 [(sC g3 [((ah 4 al) r2.1.nodes),((ah 1 Value.string) r2.1.names),((ah 3 az) r2.1.mems),((ah 1 i64) r2.1.outs)]),(sC g31 (flatC (v35.map Value.bool)))] h) (fun (v35,v36)=>[(18,(i64 v36))]) ((List.replicate r2.2.length (false:Bool)),0) hm (O.sel [1,0] (by decide)) ?_
        clear hm;rintro⟨v35,v36⟩ nx37 base h hm O
        refine gX ?_
        refine br hm (fun hm=>?_) fun hm=>?_
        ·apply Cs;conv=>whnf
         refine jn hm 183 [1,5,6,7,17,18] (fun s=>s) (fun v38 h=>Own vars h0 [(sC g3 [((ah 4 al) r2.1.nodes),((ah 1 Value.string) r2.1.names),((ah 3 az) r2.1.mems),((ah 1 i64) r2.1.outs)]),(sC g31 (flatC (v38.map Value.bool)))] h) (fun v38=>[]) (fun hm=>?_) ?_
         ·refine gX ?_
          refine lw 183 [1,5,6,7,17,18] (σ:=((List Bool)×Nat)) (fun s=>s) (fun (v40,v41) h=>Own vars h0 [(sC g3 [((ah 4 al) r2.1.nodes),((ah 1 Value.string) r2.1.names),((ah 3 az) r2.1.mems),((ah 1 i64) r2.1.outs)]),(sC g31 (flatC (v40.map Value.bool)))] h) (fun (v40,v41)=>[(19,(i64 v41))]) (v35,0) hm O ?_
          clear hm;rintro⟨v40,v41⟩ nx42 base h hm O
          refine gX ?_
          refine br hm (fun hm=>?_) fun hm=>?_
          ·apply Cs;conv=>whnf
           refine jn hm 183 [1,5,6,7,17,18,19] (fun s=>s) (fun v43 h=>Own vars h0 [(sC g3 [((ah 4 al) r2.1.nodes),((ah 1 Value.string) r2.1.names),((ah 3 az) r2.1.mems),((ah 1 i64) r2.1.outs)]),(sC g31 (flatC (v43.map Value.bool)))] h) (fun v43=>[]) (fun hm=>?_) ?_
           ·refine gX ?_
            refine ldA (O.at (.head _)) ?_;refine gH ?_
            first|refine⟨.inr (.inr (bh rfl (O.at (.head _)) rfl rfl (lbE rfl) rfl)),?_⟩|refine⟨.inr (.inl (by kernel_rfl)),?_⟩
            refine gX ?_
            refine atF hm fun x45 hx45 hm=>?_;refine gH ?_
            refine dF ?_
            refine gX ?_
            refine atF hm fun x46 hx46 hm=>?_;refine gH ?_
            refine dF ?_
            refine gX ?_
            refine ldA (O.at (.head _)) ?_;refine gH ?_
            first|refine⟨.inr (.inr (bh rfl (O.at (.head _)) rfl rfl (lbE rfl) rfl)),?_⟩|refine⟨.inr (.inl (by kernel_rfl)),?_⟩
            refine gX ?_
            refine ca (qU hm O.has) fun r47 hm=>?_;refine gH ?_
            refine⟨.inl (Ext.refl _),?_⟩;refine gH ?_
            refine ca (mT hm O.has) fun r48 hm=>?_;refine gH ?_
            refine⟨.inl (Ext.refl _),?_⟩;refine gH ?_
            refine gX ?_
            refine br hm (fun hm=>?_) fun hm=>?_
            ·refine gX ?_
             exact fe hm O
            ·refine gX ?_
             refine ix 1 hm fun x49 hx49 hm=>?_;refine gH ?_
             refine ldE (s:=1) (i:=0) (O.at (.tail _ (.head _))) hx49 ?_;refine gH ?_
             refine br hm (fun hm=>?_) fun hm=>?_
             ·refine gX ?_
              refine ix 1 hm fun x50 hx50 hm=>?_;refine gH ?_
              refine O.stE 1 (.tail _ (.head _)) hx50 true fun h O=>?_;refine gH ?_
              exact jx (v40.set v41 true) hm O
             ·refine gX ?_
              refine ix 1 hm fun x51 hx51 hm=>?_;refine gH ?_
              refine O.stE 1 (.tail _ (.head _)) hx51 r48.1 fun h O=>?_;refine gH ?_
              exact jx (v40.set v41 r48.1) hm O
           ·clear hm;rintro v43 base h hm O
            refine gX ?_
            refine aL hm fun hm=>?_;refine gH ?_
            exact jx (v43,(v41+1)) hm O
          ·refine gX ?_
           exact jx v40 hm O
         ·clear hm;rintro v38 base h hm O
          refine gX ?_
          refine aL hm fun hm=>?_;refine gH ?_
          exact jx (v38,(v36+1)) hm O
        ·refine gX ?_
         exact jx v35 hm (O.sel [1] (by decide))
       ·clear hm;rintro v33 base h hm O
        conv=>whnf
        refine jn hm 183 [6,17] (fun s=>s) (fun _ h=>Own vars h0 [(sC g31 (flatC (v33.map Value.bool)))] h) (fun _=>[]) (fun hm=>?_) ?_
        ·refine gX ?_
         refine lw 183 [6,7,17] (σ:=Nat) (fun s=>s) (fun v53 h=>Own vars h0 [(sC g31 (flatC (v33.map Value.bool)))] h) (fun v53=>[(22,(i64 v53))]) 0 hm O ?_
         clear hm;rintro v53 nx54 base h hm O
         refine gX ?_
         refine lmC ?_;refine gX ?_
         refine br hm (fun hm=>?_) fun hm=>?_
         ·refine gX ?_
          refine atC hm fun x55 hx55 hm=>?_;refine gH ?_
          refine ix 1 hm fun x56 hx56 hm=>?_;refine gH ?_
          refine ldE (s:=1) (i:=0) (O.at (.head _)) hx56 ?_;refine gX ?_
          refine br hm (fun hm=>?_) fun hm=>?_
          ·refine gX ?_
           refine ca (cQ hm O.has) fun r57 hm=>?_;refine gX ?_
           exact fe hm O
          ·refine gX ?_
           refine aL hm fun hm=>?_;refine gH ?_
           exact jx (v53+1) hm O
         ·refine gX ?_
          exact jx () hm O
        ·clear hm;rintro _ base h hm O
         conv=>whnf
         refine jn hm 183 [] (fun s=>s) (fun _ h=>Own vars h0 [] h) (fun _=>[]) (fun hm=>?_) ?_
         ·refine gX ?_
          refine lw 183 [6,17] (σ:=Nat) (fun s=>s) (fun v59 h=>Own vars h0 [(sC g31 (flatC (v33.map Value.bool)))] h) (fun v59=>[(23,(i64 v59))]) 0 hm O ?_
          clear hm;rintro v59 nx60 base h hm O
          refine gX ?_
          refine br hm (fun hm=>?_) fun hm=>?_
          ·refine gX ?_
           refine ix 1 hm fun x61 hx61 hm=>?_;refine gH ?_
           refine ldE (s:=1) (i:=0) (O.at (.head _)) hx61 ?_;refine gX ?_
           refine br hm (fun hm=>?_) fun hm=>?_
           ·refine gX ?_
            exact fe hm O
           ·refine gX ?_
            refine aL hm fun hm=>?_;refine gH ?_
            exact jx (v59+1) hm O
          ·refine gX ?_
           exact jx () hm (O.sel [] (by decide))
         ·clear hm;rintro _ base h hm O
          refine gX ?_
          refine ca (cQ hm O.has) fun r62 hm=>?_;refine gX ?_
          exact fe hm O
inductive Rch (r:List N2) (st:Nat->Prop):Nat->Prop
 |base {a:Nat}:st a->Rch r st a
 |step {a b:Nat}:Rch r st a->(⟨a,b⟩:N2)∈r->Rch r st b
def vr (r:List N2) (a:Nat):List Nat:=(r.filter fun x=>x.a==a).map N2.b
theorem xu {r:List N2}{a b:Nat}:b∈vr r a↔(⟨a,b⟩:N2)∈r:=by
 unfold vr
 rw[List.mem_map]
 constructor
 ·rintro⟨⟨a',b'⟩,m,rfl⟩
  obtain⟨m,e⟩:=List.mem_filter.1 m
  have e:a'=a:=by simpa using e
  rw[<- e]
  exact m
 ·intro m
  exact⟨⟨a,b⟩,List.mem_filter.2 ⟨m,by simp⟩,rfl⟩
theorem wT (r:List N2) (a:Nat):(vr r a).length<=r.length:=by
 unfold vr
 rw[List.length_map]
 exact List.length_filter_le _ _
theorem AK (r:List N2) (x:N2) (a:Nat):vr (r++[x]) a=vr r a++if x.a=a then [x.b] else []:=by
 unfold vr
 rw[List.filter_append,List.map_append]
 congr 1
 by_cases e:x.a=a
 ·simp[e]
 ·simp[e]
def cntT (bs:List Bool):Nat:=bs.count true
theorem Dc (bs:List Bool):cntT bs<=bs.length:=List.count_le_length
theorem we:∀ {bs:List Bool}{a:Nat},bs[a]?=some false->cntT (bs.set a true)=cntT bs+1
 |[],_,h=>by cases h
 |b::bs,0,h=>by
  rw[List.getElem?_cons_zero] at h
  cases h
  unfold cntT
  rw[List.set_cons_zero,List.count_cons,List.count_cons]
  simp
 |b::bs,a+1,h=>by
  rw[List.getElem?_cons_succ] at h
  have:=we h
  unfold cntT at this ⊢
  rw[List.set_cons_succ,List.count_cons,List.count_cons,this]
  omega
theorem DM {bs:List Bool}{a:Nat}{v:Bool} (h:bs[a]?=some v):bs.getD a false=v:=by rw[List.getD,h];rfl
theorem uq {bs:List Bool}{a b:Nat} (h:a<bs.length):(bs.set a true).getD b false=true↔b=a\/bs.getD b false=true:=by
 by_cases e:b=a
 ·subst e
  rw[List.getD,List.getElem?_set_self h]
  simp
 ·rw[List.getD,List.getElem?_set_ne (fun q=>e q.symm)]
  simp[e]
structure ExpI (r:List N2) (n:Nat) (st:Nat->Prop) (M:Nat) (bs:List Bool) (todo:List Nat):Prop where
 len:bs.length=n
 snd:∀ a,bs.getD a false=true->Rch r st a
 tod:∀ a∈todo,a<n/\Rch r st a
 cls:∀ a b,bs.getD a false=true->(⟨a,b⟩:N2)∈r->bs.getD b false=true\/b∈todo
 st:∀ a,st a->bs.getD a false=true\/a∈todo
 msr:(n-cntT bs)*257+todo.length<=M
theorem ExpI.done {r:List N2}{n M:Nat}{st:Nat->Prop}{bs:List Bool} (I:ExpI r n st M bs []) (a:Nat):bs.getD a false=true↔Rch r st a:=by
 refine⟨I.snd a,fun h=>?_⟩
 induction h with
 |base h=>exact (I.st _ h).resolve_right (fun m=>by cases m)
 |step _ m ih=>exact (I.cls _ _ ih m).resolve_right (fun m=>by cases m)
theorem Ff {a b:Nat}:ltI (Int.ofNat a) (Int.ofNat b)=decide (a<b):=by
 rw[dz]
 by_cases h:a<b
 ·rw[decide_eq_true h];exact decide_eq_true (Int.ofNat_lt.2 h)
 ·rw[decide_eq_false h];exact decide_eq_false (fun q=>h (Int.ofNat_lt.1 q))
def sw (c:Circ) (l:List Flt) (ds:List Nat) (a:Nat):Prop:=∃ i∈ds,(osN c l)[i]?=some a
theorem vu {c:Circ}{l:List Flt}{i:Nat} (h:i<l.length):∃ a,(osN c l)[i]?=some a/\a<(ksF c l).length:=by
 obtain⟨f,hf⟩:=aC h
 refine⟨fh c l f,by unfold osN;rw[List.getElem?_map,hf];rfl,?_⟩
 exact List.idxOf_lt_length_iff.2 (iN.2 ⟨f,List.mem_of_getElem? hf,rfl⟩)
def qX (c:Circ) (l:List Flt) (bs:List Bool) (i:Nat):List Nat:=(List.range i).filter fun m=>bs.getD ((osN c l).getD m 0) false
theorem yS {c:Circ} (C:Cir c) {l:List Flt} (hl:ListOk c l) {d:List Int}{K:List Nat×Nat->Prop}
  (hd:(∃ ds:List Nat,d=ds.map Int.ofNat/\(∀ i∈ds,i<l.length)/\ds.length<=65536/\∀ r bs,DomOk c (ksF c l) r->(∀ a,bs.getD a false=true↔Rch r (sw c l ds) a)->K (qX c l bs l.length,0))\/∃ bad,d=[bad]/\(bad<0\/Int.ofNat l.length<=bad)/\K ([],1)) :
  bK c l d K:=by
 have hlen:=hl.len
 have hks:=yN hl
 have hRl:=pM c l
 unfold bK
 refine mM C hl.len hl.check ⟨(fun q=>absurd rfl (dQ.1 q)),fun _=>iY C hl.len hl.stuck fun ps cs P=>⟨by omega,by omega,?_⟩⟩
 refine fX (fun s=>∃ r,DomOk c (ksF c l) r/\s.2.length=(ksF c l).length/\∀ a,a<(ksF c l).length->s.2[a]?=some (vr r a)) (fun k hk=>jT C hks P.edge P.cs fun qs r hr=>?_) ?_
 ·have hrl:=hr.len
  refine aW (fun s=>s.2<=r.length/\s.1.length=(ksF c l).length/\∀ a,a<(ksF c l).length->s.1[a]?=some (vr (r.take s.2) a)) (fun s=>r.length-s.2) ?_ ⟨Nat.zero_le _,by rw[List.length_replicate];exact hRl,fun i hi=>?_⟩
  ·rintro⟨fs,t⟩ nx ⟨ht,hb1,hb2⟩ hnx
   dsimp only at ht hb1 hb2
   refine⟨fun q=>?_,fun q=>hk _ ⟨r,hr,hb1,?_⟩⟩
   ·have q:t<r.length:=aT.1 q
    obtain⟨x,hx⟩:=aC q
    have hlt:=hr.lt (List.mem_of_getElem? hx)
    have hfl:=wT (r.take t) x.a
    rw[List.length_take] at hfl
    refine⟨x,hx,by rw[hRl];exact hlt.1,_,hb2 x.a hlt.1,by rw[List.length_singleton];omega,by rw[hRl];exact hlt.1,by omega,hnx _ ⟨q,(List.length_set ..).trans hb1,fun a ha=>?_⟩ (by dsimp only;omega)⟩
    dsimp only
    rw[List.getElem?_set,lL hx,AK]
    by_cases e:x.a=a
    ·subst e
     rw[if_pos rfl,if_pos (by omega),if_pos rfl]
    ·rw[if_neg e,hb2 a ha,if_neg e,List.append_nil]
   ·have q:r.length<=t:=bb.1 q
    rw[List.take_of_length_le q] at hb2
    exact hb2
  ·rw[hRl,List.getElem?_replicate,if_pos hi];rfl
 ·rintro⟨qs,fs⟩ ⟨r,hr,hf1,hf2⟩
  have hrl:=hr.len
  dsimp only at hf1 hf2
  refine⟨by omega,by omega,?_⟩
  rcases hd with⟨ds,rfl,hd,hdl,h⟩|⟨bad,rfl,hb,h⟩
  case inr =>
   refine (show ar _ _ from aW (fun s=>s=([],0)) (fun _=>0) ?_ rfl)
   rintro _ nx rfl _
   refine⟨fun _=>⟨bad,rfl,?_⟩,fun q=>absurd (bb.1 q) (by simp)⟩
   refine dE (a:=true) (fun G=>⟨fun _=>G,fun e=>?_⟩) ⟨fun _=>h,fun e=>(by cases e)⟩
   have e:ltI bad (Int.ofNat l.length)=false:=by
    have e0:=qG.1 e
    have:(Int.ofNat 0)=0:=rfl
    refine qG.2 ?_
    rcases hb with hb|hb
    ·omega
    ·exact hb
   rw[e];exact G
  refine aA (fun s=>s.2<=ds.length/\s.1.length=s.2/\∀ a,a∈s.1↔sw c l (ds.take s.2) a) (fun s=>ds.length-s.2) (fun s=>s.length=ds.length/\∀ a,a∈s↔sw c l ds a) ?_ ⟨Nat.zero_le _,rfl,fun a=>⟨fun m=>(by cases m),fun ⟨_,m,_⟩=>by cases m⟩⟩ ?_
  ·rintro k ⟨td,i⟩ nx ⟨hi,ht1,ht2⟩ hnx hk
   dsimp only at hi ht1 ht2
   have hml:(ds.map Int.ofNat).length=ds.length:=List.length_map ..
   refine⟨fun q=>?_,fun q=>hk _ ?_⟩
   ·have q:i<ds.length:=hml ▸ aT.1 q
    obtain⟨d,hd1⟩:=aC q
    have hdl2:=hd d (List.mem_of_getElem? hd1)
    obtain⟨a,ha1,ha2⟩:=vu (c:=c) hdl2
    refine⟨Int.ofNat d,by rw[List.getElem?_map,hd1];rfl,?_⟩
    refine dE (a:=false) (fun G=>⟨fun e=>?_,fun _=>?_⟩) ⟨(fun e=>by cases e),fun _=>⟨d,rfl,a,ha1,by rw[List.length_singleton];omega,by omega,hnx _ ⟨q,by dsimp only;rw[List.length_append,ht1];rfl,fun b=>?_⟩ (by dsimp only;omega)⟩⟩
    ·rw[Ff,decide_eq_true_eq] at e;omega
    ·rw[Ff,decide_eq_true hdl2];exact G
    ·dsimp only
     rw[aX,ht2,lL hd1]
     unfold sw
     constructor
     ·rintro (⟨j,m,e⟩|rfl)
      ·exact⟨j,List.mem_append_left _ m,e⟩
      ·exact⟨d,aX.2 (.inr rfl),ha1⟩
     ·rintro⟨j,m,e⟩
      rcases aX.1 m with m|rfl
      ·exact .inl ⟨j,m,e⟩
      ·rw[ha1] at e;cases e;exact .inr rfl
   ·have q:ds.length<=i:=hml ▸ bb.1 q
    rw[List.take_of_length_le q] at ht2
    exact⟨by omega,ht2⟩
  ·rintro td ⟨htl,htd⟩
   refine aA (fun s=>ExpI r (ksF c l).length (sw c l ds) ((ksF c l).length*257+ds.length) s.1 s.2) (fun s=>((ksF c l).length-cntT s.1)*257+s.2.length) (fun s=>s.length=(ksF c l).length/\∀ a,s.getD a false=true↔Rch r (sw c l ds) a) ?_ ?_ ?_
   ·rintro k ⟨bs,todo⟩ nx I hnx hk
    dsimp only at I
    refine⟨fun q=>?_,fun q=>hk _ ?_⟩
    ·have q:0<todo.length:=aT.1 q
     rcases List.eq_nil_or_concat todo with e|⟨p,a,e⟩
     ·rw[e] at q;cases q
     ·rw[List.concat_eq_append] at e
      subst e
      have hpl:(p++[a]).length-1=p.length:=by rw[List.length_append,List.length_singleton];omega
      have hlast:(p++[a])[(p++[a]).length-1]?=some a:=by rw[hpl];simp
      have htake:(p++[a]).take ((p++[a]).length-1)=p:=by rw[hpl];simp
      have hm:=I.msr
      obtain⟨han,har⟩:=I.tod a (aX.2 (.inr rfl))
      obtain⟨v,hv⟩:=aC (l:=bs) (i:=a) (by rw[I.len];exact han)
      have hfl:=wT r a
      rw[List.length_append,List.length_singleton] at hm
      have hbig:p.length<=65536*257+65536:=by
       have:(ksF c l).length*257<=65536*257:=Nat.mul_le_mul_right _ hks
       omega
      refine⟨q,by rw[List.length_append,List.length_singleton];omega,a,hlast,q,by rw[List.length_append,List.length_singleton];omega,Nat.sub_le _ _,by rw[hRl];exact han,v,hv,fun e=>?_,fun e=>?_⟩
      ·have e:v=false:=by simpa using e
       subst e
       have hc:=we hv
       have hcl:=Dc (bs.set a true)
       rw[List.length_set,I.len] at hcl
       rw[htake]
       have hmul:((ksF c l).length-cntT (bs.set a true))*257+257=((ksF c l).length-cntT bs)*257:=by
        rw[hc] at hcl ⊢
        rw[<- Nat.succ_mul]
        congr 1
        omega
       refine⟨by rw[hRl];exact han,false,hv,by rw[hRl];exact han,_,hf2 a han,by omega,hnx _ ⟨(List.length_set ..).trans I.len,fun b hb=>?_,fun b hb=>?_,fun x b hx hb=>?_,fun b hb=>?_,?_⟩ ?_⟩
       ·rcases (uq (by rw[I.len];exact han)).1 hb with rfl|hb
        ·exact har
        ·exact I.snd b hb
       ·rcases List.mem_append.1 hb with m|m
        ·exact I.tod b (aX.2 (.inl m))
        ·have m:=xu.1 m
         exact⟨(hr.lt m).2,.step har m⟩
       ·rcases (uq (by rw[I.len];exact han)).1 hx with rfl|hx
        ·exact .inr (List.mem_append_right _ (xu.2 hb))
        ·rcases I.cls x b hx hb with q1|q1
         ·exact .inl ((uq (by rw[I.len];exact han)).2 (.inr q1))
         ·rcases aX.1 q1 with m|rfl
          ·exact .inr (List.mem_append_left _ m)
          ·exact .inl ((uq (by rw[I.len];exact han)).2 (.inl rfl))
       ·rcases I.st b hb with q1|q1
        ·exact .inl ((uq (by rw[I.len];exact han)).2 (.inr q1))
        ·rcases aX.1 q1 with m|rfl
         ·exact .inr (List.mem_append_left _ m)
         ·exact .inl ((uq (by rw[I.len];exact han)).2 (.inl rfl))
       ·dsimp only
        rw[List.length_append];omega
       ·dsimp only
        rw[List.length_append,List.length_append,List.length_singleton];omega
      ·have e:v=true:=by simpa using e
       subst e
       have hva:=DM hv
       rw[htake]
       refine hnx _ ⟨I.len,I.snd,fun b hb=>I.tod b (aX.2 (.inl hb)),fun x b hx hb=>?_,fun b hb=>?_,by dsimp only;omega⟩ (by dsimp only;rw[List.length_append,List.length_singleton];omega)
       ·rcases I.cls x b hx hb with q1|q1
        ·exact .inl q1
        ·rcases aX.1 q1 with m|rfl
         ·exact .inr m
         ·exact .inl hva
       ·rcases I.st b hb with q1|q1
        ·exact .inl q1
        ·rcases aX.1 q1 with m|rfl
         ·exact .inr m
         ·exact .inl hva
    ·have q:todo.length<=0:=bb.1 q
     have e:todo=[]:=List.length_eq_zero_iff.1 (by omega)
     subst e
     exact⟨I.len,I.done⟩
   ·have hz:∀ a,(List.replicate (ksF c l).length false).getD a false=false:=by
     intro a
     rw[List.getD,List.getElem?_replicate]
     split <;> rfl
    rw[hRl]
    refine⟨List.length_replicate ..,fun a ha=>?_,fun a ha=>?_,fun a b ha _=>?_,fun a ha=>.inr ((htd a).2 ha),?_⟩
    ·dsimp only at ha;rw[hz] at ha;cases ha
    ·have:=(htd a).1 ha
     obtain⟨i,m,e⟩:=this
     obtain⟨b,hb1,hb2⟩:=vu (c:=c) (hd i m)
     rw[hb1] at e;cases e
     exact⟨hb2,.base ⟨i,m,hb1⟩⟩
    ·dsimp only at ha;rw[hz] at ha;cases ha
    ·dsimp only
     rw[htl]
     have:((ksF c l).length-cntT (List.replicate (ksF c l).length false))*257<=(ksF c l).length*257:=Nat.mul_le_mul_right _ (Nat.sub_le _ _)
     omega
   ·rintro bs ⟨hbl,hbs⟩
    have hosl:(osN c l).length=l.length:=List.length_map ..
    refine aA (fun s=>s.2<=l.length/\s.1=qX c l bs s.2) (fun s=>l.length-s.2) (fun s=>s=qX c l bs l.length) ?_ ⟨Nat.zero_le _,rfl⟩ (fun _ e=>e ▸ h r bs hr hbs)
    rintro k ⟨out,i⟩ nx ⟨hi,ho⟩ hnx hk
    dsimp only at hi ho
    refine⟨fun q=>?_,fun q=>hk _ ?_⟩
    ·have q:i<l.length:=hosl ▸ aT.1 q
     obtain⟨a,ha1,ha2⟩:=vu (c:=c) q
     have hol:out.length<=i:=by
      rw[ho];unfold qX
      exact Nat.le_trans (List.length_filter_le _ _) (by rw[List.length_range];exact Nat.le_refl _)
     have hsucc:qX c l bs (i+1)=qX c l bs i++if bs.getD a false=true then [i] else []:=by
      unfold qX
      rw[zB]
      have:(osN c l).getD i 0=a:=by rw[List.getD,ha1];rfl
      rw[this]
     obtain⟨v,hv⟩:=aC (l:=bs) (i:=a) (by rw[hbl];exact ha2)
     have hva:=DM hv
     refine fX (fun s=>s=qX c l bs (i+1)) (fun k2 hk2=>⟨a,ha1,by rw[hRl];exact ha2,v,hv,fun e=>⟨by rw[List.length_singleton];omega,hk2 _ ?_⟩,fun e=>hk2 _ ?_⟩) fun s hs=>⟨by omega,hnx _ ⟨q,hs⟩ (by dsimp only;omega)⟩
     ·rw[hsucc,hva,if_pos e,ho]
     ·rw[hsucc,hva,if_neg (by rw[e];decide),ho,List.append_nil]
    ·have q:l.length<=i:=hosl ▸ bb.1 q
     obtain rfl:i=l.length:=by omega
     exact ho
theorem zV {c:Circ} (C:Cir c) {l:List Flt} (hl:ListOk c l) {ds:List Nat} (hd:∀ i∈ds,i<l.length) (hdl:ds.length<=65536) {K:List Nat×Nat->Prop}
  (h:∀ r bs,DomOk c (ksF c l) r->(∀ a,bs.getD a false=true↔Rch r (sw c l ds) a)->K (qX c l bs l.length,0)):bK c l (ds.map Int.ofNat) K :=
 yS C hl (.inl ⟨ds,rfl,hd,hdl,h⟩)
def wv (x:CData):CData:=⟨x.inp,x.dffs,x.data0,x.data1,x.bus,false,x.port0,x.port1,x.port2,x.port3,x.gates,x.outs⟩
theorem Bv {x:CData} (h:CB x):CB (wv x):=⟨h.inp,h.dffs,h.data0,h.data1,h.port0,h.port1,h.port2,h.port3,h.gates,h.outs⟩
theorem zJ {x:CData} (hx:CB x) {K:Circ->Prop} (h:K (gf (wv x))):cb x K:=xZ (Bv hx) h
theorem Cw {x:CData} (hm:x.mem=false):Cir (gf x):=by
 refine⟨zZ hm,by rw[mG,hm];rfl,fun i y h=>?_⟩
 rcases Ai hm h with⟨_,rfl⟩|⟨_,_,d,_,rfl⟩|⟨h1,_,g,hg⟩
 ·show (0:Nat)<=14;decide
 ·show (14:Nat)<=14;decide
 ·have hi:=aj h
  have hn:(gf x).nodes.length=(cC x).length:=iu _
  have q:=xo x.bus g (ks:=((cC x).take i).map Node.kind) (by rw[List.length_map,List.length_take];omega)
  rw[<- hg] at q
  have:=q.kind
  omega
theorem C8 (c:Circ) (k:Nat):ofN c [k]=(List.range c.nodes.length).filter fun i=>decide (kd c i=k):=by
 unfold ofN kd
 congr 1
 funext i
 rw[Bool.eq_iff_iff]
 simp
def bc (c:Circ):List Flt:=lr 0 (nQ c)
theorem rT {c:Circ} (C:Cir c):(nQ c).length<=272:=by
 have:=lP C _ (Nat.le_refl _)
 have:=C.len
 unfold nQ
 omega
theorem rK {c:Circ} (C:Cir c):(bc c).length<=544:=by
 have:=rT C
 unfold bc
 rw[xD];omega
theorem js {c:Circ}{f:Flt}:f∈bc c ↔ ∃ s,VS c s/\f=fltS s:=by
 unfold bc lr nQ ic
 rw[List.mem_flatMap]
 constructor
 ·rintro⟨x,hx,m⟩
  obtain⟨i,hi,hx⟩:=List.mem_flatMap.1 hx
  unfold tI at hx
  obtain⟨j,hj,rfl⟩:=List.mem_map.1 hx
  have hi:=List.mem_range.1 hi
  have hj:=List.mem_range.1 hj
  simp only[List.mem_cons,List.not_mem_nil,or_false] at m
  rcases m with rfl|rfl
  ·exact⟨⟨i,j,0⟩,⟨hi,by dsimp only;omega,by dsimp only;omega⟩,rfl⟩
  ·exact⟨⟨i,j,1⟩,⟨hi,by dsimp only;omega,by dsimp only;omega⟩,rfl⟩
 ·rintro⟨⟨n,p,v⟩,V,rfl⟩
  have h1:=V.node
  have h2:=V.pin
  have h3:=V.v
  dsimp only at h1 h2 h3
  refine⟨⟨n,Int.ofNat p-Int.ofNat 1⟩,List.mem_flatMap.2 ⟨n,List.mem_range.2 h1,?_⟩,?_⟩
  ·unfold tI
   exact List.mem_map.2 ⟨p,List.mem_range.2 (by omega),rfl⟩
  ·have:v=0\/v=1:=by omega
   simp only[List.mem_cons,List.not_mem_nil,or_false]
   rcases this with rfl|rfl
   ·exact .inl rfl
   ·exact .inr rfl
theorem zp {c:Circ} (C:Cir c):ListOk c (bc c):=by
 refine⟨Nat.le_trans (rK C) (by decide),fun f m _=>?_,fun f m K h=>?_⟩
 ·obtain⟨s,V,rfl⟩:=js.1 m
  exact xW V
 ·obtain⟨s,V,rfl⟩:=js.1 m
  exact tQ C (xW V) h
theorem zH {c:Circ} (C:Cir c) {K:List Flt×Nat->Prop} (h:K (bc c,0)):ib c 0 K:=by
 have:=rT C
 exact⟨nQ c,wM C rfl,by decide,by omega,h⟩
theorem B2 (x:CData):0<(gf x).nodes.length:=by
 have hn:(gf x).nodes.length=(cC x).length:=iu _
 rw[hn];exact A3 _
theorem BU {x:CData} (hx:CB x) {K:Circ×List Flt->Prop} (h:∀ c,Cir c->0<c.nodes.length->K (c,bc c)):cd x K:=by
 have C:Cir (gf (wv x)):=Cw rfl
 unfold cd
 exact zJ hx (zH C (h _ C (B2 _)))
theorem zP {c:Circ}{l:List Flt}{f g:Flt} (hf:f∈l) (hg:g∈l):fh c l f=fh c l g↔dP c f=dP c g:=by
 constructor
 ·intro e
  have h1:=mL (iN.2 ⟨f,hf,rfl⟩:dP c f∈ksF c l)
  have h2:=mL (iN.2 ⟨g,hg,rfl⟩:dP c g∈ksF c l)
  unfold fh at e
  rw[e,h2] at h1
  exact (Option.some.inj h1).symm
 ·intro e
  unfold fh;rw[e]
theorem D8 {c:Circ}{l:List Flt}{i:Nat}{row:List Nat} (h:(RN c l)[i]?=some row):∃ k,(ksF c l)[i]?=some k/\row=lq c l k:=by
 unfold RN at h
 rw[List.getElem?_map] at h
 obtain⟨k,hk,e⟩:=Option.map_eq_some_iff.1 h
 exact⟨k,hk,e.symm⟩
theorem CG {c:Circ}{l:List Flt}{i:Nat}{row:List Nat} (h:(RN c l)[i]?=some row) {m:Nat} (hm:m∈row):∃ f,l[m]?=some f/\fh c l f=i:=by
 obtain⟨k,hk,rfl⟩:=D8 h
 obtain⟨f,hf,e⟩:=sN.1 hm
 refine⟨f,hf,?_⟩
 unfold fh
 rw[e]
 exact Bm (ui c l) hk
theorem Dj {a b:List Nat} (ha:a.length<2 ^ 60) {K:Bool->Prop} (h:K (decide (a=b))):aG a b K:=by
 unfold aG
 by_cases e:a.length=b.length
 ·refine dE (a:=false) (fun G=>⟨fun q=>absurd e (dQ.1 q),fun _=>?_⟩) ⟨(fun q=>by cases q),fun _=>?_⟩
  ·have:neN a.length a.length=false:=oC.2 rfl
   rw[this];exact G
  ·refine aA (fun i=>i<=a.length/\a.take i=b.take i) (fun i=>a.length-i) (fun _=>a=b) ?_ ⟨Nat.zero_le _,rfl⟩ (fun _ q=>?_)
   ·rintro k i nx ⟨hi,hp⟩ hnx hk
    refine⟨fun q=>?_,fun q=>hk _ ?_⟩
    ·have q:i<a.length:=aT.1 q
     obtain⟨x,hx⟩:=aC q
     obtain⟨y,hy⟩:=aC (l:=b) (i:=i) (by omega)
     refine⟨x,hx,y,hy,fun q2=>?_,fun q2=>⟨by omega,hnx _ ⟨q,?_⟩ (by omega)⟩⟩
     ·have:a≠b:=by
       rintro rfl
       rw[hx] at hy;cases hy
       exact dQ.1 q2 rfl
      rw[decide_eq_false this] at h;exact h
     ·rw[lL hx,lL hy,hp,oC.1 q2]
    ·have q:a.length<=i:=bb.1 q
     rw[List.take_of_length_le q,List.take_of_length_le (by omega)] at hp
     exact hp
   ·rw[decide_eq_true q] at h;exact h
 ·have:a≠b:=by rintro rfl;exact e rfl
  rw[decide_eq_false this] at h
  exact dE (a:=true) (fun G=>⟨fun _=>G,fun q=>absurd (oC.1 q) e⟩) ⟨fun _=>h,fun q=>by cases q⟩
theorem zq:RN bX (bc bX)=[[0,2,4,6,8],[1,7],[3,9],[5]]:=by decide +kernel
theorem CS:(ksF bX (bc bX)).length=4:=by decide +kernel
theorem BK:domRaw bX (ksF bX (bc bX)) 3=[⟨1,3⟩,⟨2,3⟩]:=by decide +kernel
theorem zj:osN bX (bc bX)=[0,1,0,2,0,3,0,1,0,2]:=by decide +kernel
theorem tt {r:List N2} (h:DomOk bX (ksF bX (bc bX)) r):r=[⟨1,3⟩,⟨2,3⟩]:=by
 refine pK h.sorted ?_ fun x=>?_
 ·refine List.Pairwise.cons (fun y m=>?_) (List.pairwise_singleton _ _)
  rw[List.mem_singleton] at m
  subst m
  exact .inl (by decide)
 ·rw[h.mem]
  show x∈domRaw bX (ksF bX (bc bX)) 3↔_
  rw[BK]
theorem AI:bZ bX (bc bX) [⟨1,3⟩,⟨2,3⟩] 4=[0,1,3]:=by
 unfold bZ ft
 rw[zq]
 decide +kernel
theorem Cu {bs:List Bool} (h:∀ a,bs.getD a false=true↔Rch [⟨1,3⟩,⟨2,3⟩] (sw bX (bc bX) [7]) a):qX bX (bc bX) bs 10=[1,5,7]:=by
 have hst:∀ a,sw bX (bc bX) [7] a↔a=1:=by
  intro a
  unfold sw
  rw[zj]
  constructor
  ·rintro⟨i,m,e⟩
   rw[List.mem_singleton] at m
   subst m
   cases e;rfl
  ·rintro rfl
   exact⟨7,List.mem_singleton.2 rfl,rfl⟩
 have hR:∀ a,Rch [⟨1,3⟩,⟨2,3⟩] (sw bX (bc bX) [7]) a->a=1\/a=3:=by
  intro a ha
  induction ha with
  |base q=>exact .inl ((hst _).1 q)
  |step _ m _ =>
   simp only[List.mem_cons,List.not_mem_nil,or_false,N2.mk.injEq] at m
   omega
 have b0:bs.getD 0 false=false:=by
  rw[Bool.eq_false_iff];intro q
  have:=hR _ ((h 0).1 q);omega
 have b2:bs.getD 2 false=false:=by
  rw[Bool.eq_false_iff];intro q
  have:=hR _ ((h 2).1 q);omega
 have b1:bs.getD 1 false=true:=(h 1).2 (.base ((hst 1).2 rfl))
 have b3:bs.getD 3 false=true:=(h 3).2 (.step (.base ((hst 1).2 rfl)) (by simp))
 unfold qX
 rw[zj]
 have e:(List.range 10).filter (fun m=>bs.getD (([0,1,0,2,0,3,0,1,0,2]:List Nat).getD m 0) false)=(List.range 10).filter (fun m=>([false,true,false,true]:List Bool).getD (([0,1,0,2,0,3,0,1,0,2]:List Nat).getD m 0) false):=by
  refine List.filter_congr fun m hm=>?_
  have hm:=List.mem_range.1 hm
  have key:∀ q,q<4->bs.getD q false=([false,true,false,true]:List Bool).getD q false:=by
   intro q hq
   have:q=0\/q=1\/q=2\/q=3:=by omega
   rcases this with rfl|rfl|rfl|rfl
   ·exact b0
   ·exact b1
   ·exact b2
   ·exact b3
  refine key _ ?_
  have hall:∀ m,m<10->([0,1,0,2,0,3,0,1,0,2]:List Nat).getD m 0<4:=by decide
  exact hall m hm
 rw[e]
 decide
theorem nR {K:Bool->Prop} (h:K true):aZ K:=by
 have C:=AS
 have hl:=zp C
 have h0:neN 0 0=false:=oC.2 rfl
 unfold aZ cB
 refine zH C (tp C hl (nj C hl fun r hr=>yU C hl fun r2 hr2=>?_))
 have e1:=tt hr
 have e2:=tt hr2
 subst e1 e2
 refine zV (ds:=[7]) C hl (fun i m=>?_) (by decide) fun r3 bs hr3 hbs=>?_
 ·rw[List.mem_singleton] at m
  subst m
  decide
 have e3:=tt hr3
 subst e3
 have hx:=Cu hbs
 have hc:bZ bX (bc bX) [⟨1,3⟩,⟨2,3⟩] (ksF bX (bc bX)).length=[0,1,3]:=by rw[CS];exact AI
 have hx:qX bX (bc bX) bs (bc bX).length=[1,5,7]:=hx
 dsimp only
 rw[hc,hx,zq]
 have ik:∀ (a b:List Nat) (K:Bool->Prop),a=b->a.length<2 ^ 60->K true->aG a b K:=fun a b K e q k=>Dj q (by rw[decide_eq_true e];exact k)
 refine dE (a:=false) (fun G=>⟨fun q=>absurd rfl (dQ.1 q),fun _=>⟨fun q=>absurd rfl (dQ.1 q),fun _=>⟨fun q=>absurd rfl (dQ.1 q),fun _=>⟨fun q=>absurd rfl (dQ.1 q),fun _=>⟨fun q=>absurd rfl (dQ.1 q),fun _=>G⟩⟩⟩⟩⟩) ⟨(fun q=>by cases q),fun _=>?_⟩
 refine⟨_,rfl,ik _ _ _ rfl (by decide) ⟨fun _=>?_,fun q=>(by cases q)⟩⟩
 refine⟨_,rfl,ik _ _ _ rfl (by decide) ⟨fun _=>?_,fun q=>(by cases q)⟩⟩
 refine⟨_,rfl,ik _ _ _ rfl (by decide) ⟨fun _=>?_,fun q=>(by cases q)⟩⟩
 refine⟨_,rfl,ik _ _ _ rfl (by decide) ⟨fun _=>?_,fun q=>(by cases q)⟩⟩
 refine⟨_,rfl,fun _=>⟨_,rfl,fun _=>?_,fun q=>absurd q (by decide)⟩,fun q=>absurd q (by decide)⟩
 refine ik _ _ _ rfl (by decide) ⟨fun _=>?_,fun q=>(by cases q)⟩
 exact ik _ _ _ rfl (by decide) h
def gV (l:List Nat) (n most:Nat):List Nat:=(List.range n).map fun i=>if l.length=0 then 2 else l.getD (i%l.length) 0%most
theorem qQ (l:List Nat) (n most:Nat):gV l (n+1) most=gV l n most++[if l.length=0 then 2 else l.getD (n%l.length) 0%most]:=by
 unfold gV
 rw[List.range_succ,List.map_append];rfl
theorem tY {l:List Nat}{n most:Nat} (h0:0<most) (h4:most<=4):∀ v∈gV l n most,v<=3:=by
 intro v m
 obtain⟨i,_,rfl⟩:=List.mem_map.1 m
 split
 ·decide
 ·have:=Nat.mod_lt (l.getD (i%l.length) 0) h0;omega
theorem ur {l:List Nat}{n most:Nat} (hn:n<=16) (h0:0<most) {K:List Nat->Prop} (h:K (gV l n most)):bo l n most K:=by
 unfold bo
 refine aA (fun s=>s.2<=n/\s.1=gV l s.2 most) (fun s=>n-s.2) (fun r=>r=gV l n most) ?_ ⟨Nat.zero_le _,rfl⟩ fun r q=>q ▸ h
 rintro k ⟨r,i⟩ nx ⟨hi,hr⟩ hnx hk
 dsimp only at hi hr
 have hrl:r.length=i:=by rw[hr];unfold gV;simp
 refine⟨fun q=>?_,fun q=>hk _ ?_⟩
 ·have q:i<n:=aT.1 q
  refine fX (fun r2=>r2=gV l (i+1) most) (fun k2 hk2=>⟨fun e=>⟨by rw[List.length_singleton];omega,hk2 _ ?_⟩,fun e=>?_⟩) fun r2 h2=>⟨by omega,hnx _ ⟨q,h2⟩ (by dsimp only;omega)⟩
  ·rw[qQ,if_pos (bP.1 e),hr]
  ·have hp:0<l.length:=Nat.pos_of_ne_zero (cD.1 e)
   obtain⟨x,hx⟩:=aC (Nat.mod_lt i hp)
   refine⟨hp,x,hx,h0,by rw[List.length_singleton];omega,hk2 _ ?_⟩
   have:l.getD (i%l.length) 0=x:=by rw[List.getD,hx];rfl
   rw[qQ,if_neg (cD.1 e),hr,this]
 ·have q:n<=i:=bb.1 q
  obtain rfl:i=n:=by omega
  exact hr
theorem uM {c:Circ} (hc:c.nodes.length<=16) {k:Nat}{K:Nat->Prop} (h:K (ofN c [k]).length):bp c k K:=by
 unfold bp
 rw[C8] at h
 refine aA (fun s=>s.2<=c.nodes.length/\s.1=((List.range s.2).filter fun i=>decide (kd c i=k)).length) (fun s=>c.nodes.length-s.2) (fun r=>r=((List.range c.nodes.length).filter fun i=>decide (kd c i=k)).length) ?_ ⟨Nat.zero_le _,rfl⟩ (fun _ e=>e ▸ h)
 rintro kk ⟨m,i⟩ nx ⟨hi,hm⟩ hnx hk
 dsimp only at hi hm
 refine⟨fun q=>?_,fun q=>hk _ ?_⟩
 ·have q:i<c.nodes.length:=aT.1 q
  obtain⟨x,hx⟩:=aC q
  have hle:m<=i:=by rw[hm];exact vB
  refine dE (a:=((List.range (i+1)).filter fun i=>decide (kd c i=k)).length) (fun g=>⟨x,hx,fun e=>⟨by omega,?_⟩,fun e=>?_⟩) ⟨by omega,hnx _ ⟨q,rfl⟩ (by dsimp only;omega)⟩
  ·rw[zB,if_pos (by rw[fE hx];exact decide_eq_true (bP.1 e)),List.length_append,<- hm] at g;exact g
  ·rw[zB,if_neg (by rw[fE hx,decide_eq_true_eq];exact cD.1 e),List.append_nil,<- hm] at g;exact g
 ·have q:c.nodes.length<=i:=bb.1 q
  have:i=c.nodes.length:=by omega
  subst this
  exact hm
def xU (c:Circ) (z:PData):Pat:=⟨gV z.inp (ofN c [0]).length 4,gV z.state (ofN c [14]).length 3⟩
theorem vn (c:Circ) (z:PData):PatOk c (xU c z) :=
 ⟨by unfold xU gV;simp,by unfold xU gV;simp,tY (by decide) (by decide),tY (by decide) (by decide)⟩
theorem CK {c:Circ} (C:Cir c) {z:PData}{K:Pat->Prop} (h:K (xU c z)):ff z c K:=by
 have hlen:=C.len
 have l1:=fT c [0]
 have l2:=fT c [14]
 unfold ff
 exact uM hlen (ur (by omega) (by decide) (uM hlen (ur (by omega) (by decide) h)))
theorem AL {k n:Nat}{r:Rul} (h:steerR k=some r):eqR k n=[r]:=by
 have hk:=nY h
 have:k=5\/k=6\/k=7\/k=8:=by omega
 rcases this with rfl|rfl|rfl|rfl <;> (cases h;unfold eqR;simp)
theorem CQ {c:Circ}{n j:Nat}{r:Rul} (hr:steerR (kd c n)=some r):down c (domPin n j r)=none:=by
 cases e:down c (domPin n j r) with
 |none=>rfl
 |some w =>
  obtain⟨_,_,r',h1,h2,_⟩:=kl.1 e
  rw[AL hr,List.mem_singleton] at h1
  subst h1
  have:=sS hr
  omega
theorem CI {c:Circ} (C:Cir c) {s:Si} (h:VS c s):lvl c (clsN c s)<=lvl c s :=
 zf (P:=fun a d=>lvl c d<=lvl c a) (fun _ _=>Nat.le_refl _) (fun a b d h q=>by have:=xk C a b h;omega) h
theorem CM {c:Circ} (C:Cir c) {n j:Nat}{r:Rul} (hn:n<c.nodes.length) (hr:steerR (kd c n)=some r):lvl c (clsN c (domOut n r))<lvl c (clsN c (domPin n j r)):=by
 rw[yL (CQ hr)]
 have h1:=CI C (sW (r:=r) hn)
 have hk:=nY hr
 have h2:lvl c (domOut n r)=2*(16-n)+1:=by unfold lvl domOut;rw[if_pos rfl]
 have h3:lvl c (domPin n j r)=2*(16-n)+2:=by
  unfold lvl domPin
  rw[if_neg (by simp),if_neg (by dsimp only;omega)]
 omega
structure ClsP (c:Circ) (D:Flt->Prop):Prop where
 same:∀ s t,VS c s->VS c t->clsN c s=clsN c t->D (fltS s)->D (fltS t)
 dom:∀ n j r,n<c.nodes.length->j<(insOf c n).length->steerR (kd c n)=some r->D (fltS (domPin n j r))->D (fltS (domOut n r))
theorem wD {c:Circ} (C:Cir c) {p:Pat} (hp:PatOk c p):ClsP c fun f=>iP c p f=true :=
 ⟨fun _ _ hs ht e h=>(Cd C hp hs ht e).symm.trans h,fun _ _ _ hn hj hr h=>Dh C hp hn hj hr h⟩
theorem ClsP.one {c:Circ}{D:Flt->Prop} (P:ClsP c D) {f g:Flt} (hf:f∈bc c) (hg:g∈bc c) (h:fh c (bc c) f=fh c (bc c) g) (hd:D f):D g:=by
 have e:=(zP hf hg).1 h
 obtain⟨s,vs,rfl⟩:=js.1 hf
 obtain⟨t,vt,rfl⟩:=js.1 hg
 rw[ko,ko] at e
 exact P.same s t vs vt (vp e) hd
theorem DF {c:Circ} (C:Cir c) {p:Pat} (hp:PatOk c p) {f:Flt} (hf:f∈bc c) {K:Bool×Nat->Prop} (h:K (iP c p f,0)):ct c f p K:=by
 obtain⟨s,vs,rfl⟩:=js.1 hf
 exact yn C hp (xW vs) h
theorem EK {c:Circ} (C:Cir c):(RN c (bc c)).length<=544:=by
 rw[pM]
 exact Nat.le_trans (ri _ _) (rK C)
theorem Dq {c:Circ}{l:List Flt}{i:Nat}{row:List Nat} (h:(RN c l)[i]?=some row) {k m:Nat} (hm:row[k]?=some m):∃ f,l[m]?=some f/\f∈l/\fh c l f=i:=by
 obtain⟨f,h1,h2⟩:=CG h (List.mem_of_getElem? hm)
 exact⟨f,h1,List.mem_of_getElem? h1,h2⟩
theorem pj {c:Circ}{l:List Flt}{i:Nat} (h:i<(ksF c l).length):∃ row x f,(RN c l)[i]?=some row/\row[0]?=some x/\0<row.length/\l[x]?=some f/\f∈l/\fh c l f=i:=by
 obtain⟨k,x,t,_,hrow,_⟩:=Cc h
 obtain⟨f,h1,h2,h3⟩:=Dq hrow (show (x::t)[0]?=some x from rfl)
 exact⟨_,x,f,hrow,rfl,by simp,h1,h2,h3⟩
theorem nB (c:Circ) (l:List Flt) (r:List N2) (i:Nat):∀ n,i<=n->∃ s,bZ c l r n=bZ c l r i++s
 |0,h=>by
  obtain rfl:i=0:=by omega
  exact⟨[],rfl⟩
 |n+1,h=>by
  by_cases q:i=n+1
  ·subst q;exact⟨[],by simp⟩
  ·obtain⟨s,e⟩:=nB c l r i n (by omega)
   exact⟨s++ft c l r n,by rw[eE,e,List.append_assoc]⟩
theorem BJ {r:List N2}{i:Nat}:eh r i=true ↔ ∃ x∈r,x.b=i:=by
 unfold eh
 rw[List.any_eq_true]
 constructor
 ·rintro⟨x,m,e⟩;exact⟨x,m,by simpa using e⟩
 ·rintro⟨x,m,e⟩;exact⟨x,m,by simpa using e⟩
theorem B6 {c:Circ} (C:Cir c) {D:Flt->Prop} (P:ClsP c D) {r:List N2} (R:DomOk c (ksF c (bc c)) r)
  (h:∀ j∈bZ c (bc c) r (ksF c (bc c)).length,∀ f,(bc c)[j]?=some f->D f):∀ f∈bc c,D f:=by
 have key:∀ n s,VS c s->34-lvl c (clsN c s)<n->D (fltS s):=by
  intro n
  induction n with
  |zero=>intro s _ h;omega
  |succ n ih =>
   intro s vs hn
   have hf:fltS s∈bc c:=js.2 ⟨s,vs,rfl⟩
   have hk:fltS (clsN c s)∈ksF c (bc c):=iN.2 ⟨_,hf,ko c s⟩
   obtain⟨i,hi⟩:∃ i,fh c (bc c) (fltS s)=i:=⟨_,rfl⟩
   have hil:i<(ksF c (bc c)).length:=by
    rw[<- hi];unfold fh
    rw[ko]
    exact List.idxOf_lt_length_iff.2 hk
   by_cases q:eh r i=true
   ·obtain⟨x,hx,hxb⟩:=BJ.1 q
    obtain⟨m,ru,j,hm,hr,hj,k1,k2,rfl⟩:=vK.1 ((R.mem x).1 hx)
    dsimp only at hxb
    have v1:=xr (r:=ru) hm hj
    have v2:=sW (r:=ru) hm
    have e:clsN c (domOut m ru)=clsN c s:=by
     have g1:=mL k2
     have g2:=mL hk
     unfold fh at hi
     rw[ko] at hi
     rw[hxb] at g1
     rw[hi,g1] at g2
     exact vp (Option.some.inj g2)
    have hl:=CM (j:=j) C hm hr
    rw[e] at hl
    have h34:=Cg c (clsN c (domPin m j ru))
    exact P.same _ _ v2 vs e (P.dom m j ru hm hj hr (ih _ v1 (by omega)))
   ·have q:eh r i=false:=by simpa using q
    obtain⟨row,x,f,a1,a2,_,a4,a5,a6⟩:=pj (c:=c) hil
    have hc:x∈bZ c (bc c) r (ksF c (bc c)).length:=by
     obtain⟨t,e⟩:=nB c (bc c) r (i+1) _ hil
     rw[e,eE]
     refine List.mem_append_left _ (List.mem_append_right _ ?_)
     unfold ft
     rw[if_neg (by rw[q];decide)]
     have e1:(RN c (bc c)).getD i []=row:=by rw[List.getD,a1];rfl
     have e2:row.getD 0 0=x:=by rw[List.getD,a2];rfl
     rw[e1,e2]
     exact List.mem_singleton.2 rfl
    exact P.one a5 hf (a6.trans hi.symm) (h x hc f a4)
 intro f hf
 obtain⟨s,vs,rfl⟩:=js.1 hf
 exact key _ s vs (Nat.lt_succ_self _)
def om (c:Circ) (zs:List PData) (t:Nat) (f:Flt):Bool:=(zs.take t).any fun z=>iP c (xU c z) f
theorem uO {c:Circ}{zs:List PData}{t:Nat}{z:PData} (h:zs[t]?=some z) (f:Flt):om c zs (t+1) f=(om c zs t f||iP c (xU c z) f):=by
 unfold om
 rw[lL h,List.any_append]
 simp
theorem qc {x:CData} (hx:CB x) {zs:List PData}{K:Bool->Prop} (h:K true):bw x zs K:=by
 unfold bw
 refine⟨fun _=>nR h,fun hz=>?_⟩
 have hz:zs.length<=20:=bb.1 hz
 refine BU hx fun c C hpos=>?_
 have hl:=zp C
 have hll:=rK C
 refine yU C hl fun r0 hr0=>tp C hl (nj C hl fun r hr=>?_)
 obtain rfl:=hr0.eq hr
 clear hr0
 dsimp only
 have hRl:=EK C
 have hRk:=pM c (bc c)
 have hrl:=hr.len
 have n0:neN 0 0=false:=oC.2 rfl
 obtain⟨n,hn⟩:∃ n,(ksF c (bc c)).length=n:=⟨_,rfl⟩
 rw[hn]
 have hcl:=kU c (bc c) r0 n
 refine dE (a:=false) (fun G=>⟨fun q=>absurd rfl (dQ.1 q),fun _=>⟨fun q=>absurd rfl (dQ.1 q),fun _=>?_⟩⟩) ⟨(fun q=>by cases q),fun _=>?_⟩
 ·rw[n0];exact G
 refine aA (fun s=>s.2<=r0.length/\∀ i,(cc s.1 i).getD false=eh (r0.take s.2) i) (fun s=>r0.length-s.2) (fun s=>∀ i,(cc s i).getD false=eh r0 i) ?_ ⟨Nat.zero_le _,fun i=>rfl⟩ ?_
 ·rintro k ⟨m,t⟩ nx ⟨ht,hm⟩ hnx hk
  dsimp only at ht hm
  refine⟨fun q=>?_,fun q=>hk _ ?_⟩
  ·have q:t<r0.length:=aT.1 q
   obtain⟨y,hy⟩:=aC q
   refine⟨y,hy,by omega,hnx _ ⟨q,fun i=>?_⟩ (by dsimp only;omega)⟩
   dsimp only
   rw[sq,lL hy]
   unfold eh
   rw[List.any_append]
   by_cases e:i=y.b
   ·subst e
    rw[if_pos rfl];simp
   ·rw[if_neg e,hm i]
    unfold eh
    have:(y.b==i)=false:=by simp;omega
    simp[this]
  ·have q:r0.length<=t:=bb.1 q
   rw[List.take_of_length_le q] at hm
   exact hm
 intro lm hlm
 refine aA (fun s=>s.2<=n/\s.1=(bZ c (bc c) r0 s.2).length) (fun s=>n-s.2) (fun s=>s=(bZ c (bc c) r0 n).length) ?_ ⟨Nat.zero_le _,rfl⟩ ?_
 ·rintro k ⟨q0,i⟩ nx ⟨hi,hq⟩ hnx hk
  dsimp only at hi hq
  refine⟨fun q=>?_,fun q=>hk _ ?_⟩
  ·have q:i<n:=by have:=aT.1 q;omega
   obtain⟨row,y,f,a1,a2,a3,a4,a5,a6⟩:=pj (c:=c) (l:=bc c) (i:=i) (by omega)
   have hol:=kU c (bc c) r0 i
   have hone:ft c (bc c) r0 i=if eh r0 i=true then [] else [y]:=by
    have e1:(RN c (bc c)).getD i []=row:=by rw[List.getD,a1];rfl
    have e2:row.getD 0 0=y:=by rw[List.getD,a2];rfl
    unfold ft
    rw[e1,e2]
   refine fX (fun s=>s=(bZ c (bc c) r0 (i+1)).length) (fun k2 hk2=>⟨fun e=>?_,fun e=>?_⟩) fun s hs=>⟨by omega,hnx _ ⟨q,hs⟩ (by dsimp only;omega)⟩
   ·rw[hlm] at e
    refine hk2 _ ?_
    rw[eE,hone,if_pos e,List.append_nil,hq]
   ·rw[hlm] at e
    have hs:bZ c (bc c) r0 (i+1)=bZ c (bc c) r0 i++[y]:=by rw[eE,hone,if_neg (by rw[e];decide)]
    obtain⟨t,ht⟩:=nB c (bc c) r0 (i+1) n q
    have hget:(bZ c (bc c) r0 n)[q0]?=some y:=by
     rw[ht,hs,hq,List.append_assoc]
     simp
    have hlt:=aj hget
    refine dE (a:=false) (fun G=>⟨fun q2=>?_,fun _=>⟨row,a1,fun q2=>?_,fun _=>⟨y,hget,row,a1,y,a2,?_⟩⟩⟩) ⟨(fun q=>by cases q),fun _=>⟨by omega,hk2 _ ?_⟩⟩
    ·have:=mj.1 q2;omega
    ·have:=bP.1 q2;omega
    ·have:neN y y=false:=oC.2 rfl
     rw[this];exact G
    ·rw[hs,List.length_append,<- hq];rfl
  ·have q:n<=i:=by have:=bb.1 q;omega
   obtain rfl:i=n:=by omega
   exact hq
 rintro _ rfl
 refine⟨fun q=>absurd rfl (dQ.1 q),fun _=>⟨by omega,by omega,?_⟩⟩
 refine aA (fun s=>s.2<=zs.length/\s.1.length=(bc c).length/\∀ (j:Nat) (f:Flt),(bc c)[j]?=some f->s.1[j]?=some (om c zs s.2 f)) (fun s=>zs.length-s.2) (fun s:List Bool=>s.length=(bc c).length/\∀ (j:Nat) (f:Flt),(bc c)[j]?=some f->s[j]?=some (om c zs zs.length f)) ?_ ⟨Nat.zero_le _,List.length_replicate ..,fun j f hj=>?_⟩ ?_
 ·rintro k ⟨hb,t⟩ nx ⟨ht,hbl,hbv⟩ hnx hk
  dsimp only at ht hbl hbv
  refine⟨fun q=>?_,fun q=>hk _ ?_⟩
  ·have q:t<zs.length:=aT.1 q
   obtain⟨z,hz1⟩:=aC q
   have hp:=vn c z
   refine aA (fun s=>s.2<=(bc c).length/\s.1.length=(bc c).length/\∀ (j:Nat) (f:Flt),(bc c)[j]?=some f->s.1[j]?=some (om c zs (if j<s.2 then t+1 else t) f)) (fun s=>(bc c).length-s.2) (fun s:List Bool=>s.length=(bc c).length/\∀ (j:Nat) (f:Flt),(bc c)[j]?=some f->s[j]?=some (om c zs (t+1) f)) ?_ ⟨Nat.zero_le _,hbl,fun j f hj=>by dsimp only;rw[if_neg (Nat.not_lt_zero _)];exact hbv j f hj⟩ fun s hs=>⟨by omega,hnx _ ⟨q,hs.1,hs.2⟩ (by dsimp only;omega)⟩
   rintro k2 ⟨hc,m⟩ nx2 ⟨hm,hcl2,hcv⟩ hnx2 hk2
   dsimp only at hm hcl2 hcv
   refine⟨fun q2=>?_,fun q2=>hk2 _ ?_⟩
   ·have q2:m<(bc c).length:=aT.1 q2
    obtain⟨f,hf⟩:=aC q2
    have hfm:=List.mem_of_getElem? hf
    have hcm:=hcv m f hf
    rw[if_neg (Nat.lt_irrefl _)] at hcm
    have step:∀ v,v=om c zs (t+1) f->∀ j g,(bc c)[j]?=some g->(hc.set m v)[j]?=some (om c zs (if j<m+1 then t+1 else t) g):=by
     intro v hv j g hg
     by_cases e:m=j
     ·subst e
      rw[hf] at hg;cases hg
      rw[List.getElem?_set_self (by omega),if_pos (Nat.lt_succ_self _),hv]
     ·rw[List.getElem?_set_ne e,hcv j g hg]
      by_cases q3:j<m
      ·rw[if_pos q3,if_pos (by omega)]
      ·rw[if_neg q3,if_neg (by omega)]
    refine fX (fun s=>s=hc.set m (om c zs (t+1) f)) (fun k3 hk3=>⟨f,hf,z,hz1,CK C (DF C hp hfm ⟨fun q3=>absurd rfl (dQ.1 q3),fun _=>⟨q2,_,hcm,fun e=>⟨q2,_,hcm,hk3 _ ?_⟩,fun e=>⟨q2,_,hcm,hk3 _ ?_⟩⟩⟩)⟩) fun s hs=>⟨by omega,hnx2 _ ⟨q2,by rw[hs];exact (List.length_set ..).trans hcl2,by rw[hs];exact step _ rfl⟩ (by dsimp only;omega)⟩
    ·rw[uO hz1,e];rfl
    ·rw[uO hz1,e];rfl
   ·have q2:(bc c).length<=m:=bb.1 q2
    refine⟨hcl2,fun j f hj=>?_⟩
    rw[hcv j f hj,if_pos (by have:=aj hj;omega)]
  ·have q:zs.length<=t:=bb.1 q
   obtain rfl:t=zs.length:=by omega
   exact⟨hbl,hbv⟩
 ·dsimp only
  rw[List.getElem?_replicate,if_pos (aj hj)];rfl
 rintro hb ⟨hbl,hbv⟩
 have coreI:∀ i j:Nat,(bZ c (bc c) r0 n)[i]?=some j->∃ f:Flt,(bc c)[j]?=some f:=by
  intro i j hj
  have m:=List.mem_of_getElem? hj
  unfold bZ at m
  obtain⟨i',hi',m⟩:=List.mem_flatMap.1 m
  have hi':=List.mem_range.1 hi'
  obtain⟨row,y,f,a1,a2,_,a4,_,_⟩:=pj (c:=c) (l:=bc c) (i:=i') (by omega)
  unfold ft at m
  split at m
  ·cases m
  ·rw[List.mem_singleton] at m
   have e1:(RN c (bc c)).getD i' []=row:=by rw[List.getD,a1];rfl
   have e2:row.getD 0 0=y:=by rw[List.getD,a2];rfl
   rw[e1,e2] at m
   subst m
   exact⟨f,a4⟩
 refine aA (fun i:Nat=>i<=(bZ c (bc c) r0 n).length/\∀ (q j:Nat) (f:Flt),q<i->(bZ c (bc c) r0 n)[q]?=some j->(bc c)[j]?=some f->om c zs zs.length f=true) (fun i=>(bZ c (bc c) r0 n).length-i) (fun _=>∀ f∈bc c,om c zs zs.length f=true) ?_ ⟨Nat.zero_le _,fun q j f hq=>absurd hq (Nat.not_lt_zero _)⟩ ?_
 ·rintro k i nx ⟨hi,hI⟩ hnx hk
  refine⟨fun q=>?_,fun q=>hk _ ?_⟩
  ·have q:i<(bZ c (bc c) r0 n).length:=aT.1 q
   obtain⟨j,hj⟩:=aC q
   obtain⟨f,hf⟩:=coreI i j hj
   have hjl:=aj hf
   refine⟨j,hj,hjl,_,hbv j f hf,fun _=>nR h,fun e=>⟨by omega,hnx _ ⟨q,fun q2 j2 f2 h1 h2 h3=>?_⟩ (by omega)⟩⟩
   by_cases e2:q2=i
   ·subst e2
    rw[hj] at h2;cases h2
    rw[hf] at h3;cases h3
    simpa using e
   ·exact hI q2 j2 f2 (by omega) h2 h3
  ·have q:(bZ c (bc c) r0 n).length<=i:=bb.1 q
   have P:ClsP c fun f=>om c zs zs.length f=true:=by
    have any:∀ f,om c zs zs.length f=true ↔ ∃ z∈zs,iP c (xU c z) f=true:=by
     intro f
     unfold om
     rw[List.take_length,List.any_eq_true]
    constructor
    ·intro s t vs vt e hd
     obtain⟨z,m,hd⟩:=(any _).1 hd
     exact (any _).2 ⟨z,m,(wD C (vn c z)).same s t vs vt e hd⟩
    ·intro a b ru ha hb2 hru hd
     obtain⟨z,m,hd⟩:=(any _).1 hd
     exact (any _).2 ⟨z,m,(wD C (vn c z)).dom a b ru ha hb2 hru hd⟩
   refine B6 C P hr fun j m f hf=>?_
   rw[hn] at m
   obtain⟨q2,hq2⟩:=List.mem_iff_getElem?.1 m
   exact hI q2 j f (by have:=aj hq2;omega) hq2 hf
 intro _ hall
 refine eI (l:=bc c) ?_ ?_ (nR h)
 ·intro k i nx f hf hi hn2
  refine⟨fun q=>⟨aT.1 q,_,hbv i f hf,fun e=>?_,fun _=>⟨by omega,hn2⟩⟩,fun q=>by have:=bb.1 q;omega⟩
  rw[hall f (List.mem_of_getElem? hf)] at e
  cases e
 ·intro k i nx hi hk
  refine⟨fun q=>?_,fun _=>hk⟩
  have:=aT.1 q;omega
def di:List (Sh×Bool):=[(shC,true),(.slice shP,false)]
theorem nV (x:zK di) (w:wfL di x):FnV Tryz.prog NG vars 5 ⟨Ci di x⟩ (.bool true):=by
 obtain⟨c,z,u⟩:=x
 obtain⟨wc,wz,_⟩:=w
 obtain⟨y,hy,e1⟩:=E5 wc
 obtain⟨q,_,e2⟩:=BH wz
 have e:Ci di (c,z,u)=[bH y,ah 2 A0 q]:=by
  show [elV (!true) (shC.ba c),elV (!false) ((Sh.slice shP).ba z)]=_
  rw[e1,e2];rfl
 rw[e]
 exact FnV.rl (enc:=Value.bool) (r:=true) (PureV.flat rfl) fun h hB=>fN (K:=fun r=>r=true) (qc hy rfl) hB
end Go.Proofs.YtobphhjcadjfjaaGreatDoor
