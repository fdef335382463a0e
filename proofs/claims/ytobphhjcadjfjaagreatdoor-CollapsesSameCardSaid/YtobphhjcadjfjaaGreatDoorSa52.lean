/-
  W3, Co5, Cir12, Co7, Co8, Arg14, CollapsesSame: parts of the proof.
-/
import Derived.Test.YtobphhjcadjfjaaGreatDoorSa51
namespace Go.Proofs.YtobphhjcadjfjaaGreatDoor
open Go.Abs
set_option maxRecDepth 100000
set_option maxHeartbeats 8000000
def iq (p0:Circ) (p1:List Flt) (p2:List Nat) (K:List Nat×Nat->Prop):Prop:=bH p0 p1 (p2.map Int.ofNat) K
theorem kT {p0:Circ}{p1:List Flt}{p2:List Nat}{K:List Nat×Nat->Prop} (hm:iq p0 p1 p2 K) {h0:Heap} (hB:HasB vars h0):∃ r,K r/\CallD Tryz.prog NG 14 ⟨[aA p0,(ah 5 aw) p1,(ah 1 i64) p2]⟩ h0 ((fun (r:List Nat×Nat)=>Value.tuple ⟨[(aQ 1 i64) (r.1),i64 (r.2)]⟩) r) h0:=by
 have e:ah 1 z64 (p2.map Int.ofNat)=ah 1 i64 p2:=by unfold ah;rw[List.map_map];rfl
 rw[<- e]
 exact km hm hB
def bn (p0:Circ) (p1:Nat) (K:Nat->Prop):Prop :=
 an (α:=Nat) (fun k2=>au (S:=(Nat×Nat)) (fun (v3,v4) nx5=>((ltN v4 p0.nodes.length)=true->an (α:=Nat) (fun k7=>∃ x8,p0.nodes[v4]?=some x8/\((eqN x8.kind p1)=true->v3+1<2 ^ 63/\k7 (v3+1))/\((eqN x8.kind p1)=false->k7 v3)) (fun v6=>v4+1<2 ^ 63/\nx5 (v6,(v4+1))))/\((ltN v4 p0.nodes.length)=false->k2 v3)) (0,0)) (fun v1=>K v1)
theorem eN {p0:Circ}{p1:Nat}{K:Nat->Prop} (hm:bn p0 p1 K) {h0:Heap} (hB:HasB vars h0):∃ r,K r/\CallD Tryz.prog NG 19 ⟨[aA p0,n8 p1]⟩ h0 (i64 r) h0:=by
 unfold bn at hm
 refine fw Tryz.func19 hB (enc:=i64) (fun r=>PureV.flat rfl) fun O=>?_;conv=>whnf
 refine gX ?_
 refine fz ?_;refine gH ?_
 apply Cs;conv=>whnf
 apply Cs;refine gH ?_
 refine jn hm 25 [] (fun s=>s) (fun v1 h=>Own vars h0 [] h) (fun v1=>[(5,(i64 v1))]) (fun hm=>?_) ?_
 ·refine gX ?_
  refine lw 25 [1,2] (σ:=(Nat×Nat)) (fun s=>s) (fun (v3,v4) h=>Own vars h0 [] h) (fun (v3,v4)=>[(5,(i64 v3)),(6,(i64 v4))]) (0,0) hm O ?_
  clear hm;rintro⟨v3,v4⟩ nx5 base h hm O
  refine gX ?_
  refine br hm (fun hm=>?_) fun hm=>?_
  ·apply Cs;conv=>whnf
   refine jn hm 25 [1,2,6] (fun s=>s) (fun v6 h=>Own vars h0 [] h) (fun v6=>[(5,(i64 v6))]) (fun hm=>?_) ?_
   ·refine gX ?_
    refine atF hm fun x8 hx8 hm=>?_;refine gX ?_
    refine br hm (fun hm=>?_) fun hm=>?_
    ·refine gX ?_
     refine aL hm fun hm=>?_;refine gH ?_
     exact jx (v3+1) hm O
    ·refine gX ?_
     exact jx v3 hm O
   ·clear hm;rintro v6 base h hm O
    refine gX ?_
    refine aL hm fun hm=>?_;refine gH ?_
    exact jx (v6,(v4+1)) hm O
  ·refine gX ?_
   exact jx v3 hm O
 ·clear hm;rintro v1 base h hm O
  refine gX ?_
  exact fe hm O
def bm (p0:(List Nat)) (p1:Nat) (p2:Nat) (K:(List Nat)->Prop):Prop :=
 an (α:=(List Nat)) (fun k6=>au (S:=((List Nat)×Nat)) (fun (v8,v9) nx11=>((ltN v9 p1)=true->an (α:=(List Nat)) (fun k15=>((eqN p0.length 0)=true->(v8.length+([2]:(List Nat)).length)*1<=2 ^ 47/\k15 (v8++([2]:(List Nat))))/\((eqN p0.length 0)=false->0<p0.length/\∃ x18,p0[(v9%p0.length)]?=some x18/\0<p2/\(v8.length+([(x18%p2)]:(List Nat)).length)*1<=2 ^ 47/\k15 (v8++([(x18%p2)]:(List Nat))))) (fun v13=>v9+1<2 ^ 63/\nx11 (v13,(v9+1))))/\((ltN v9 p1)=false->k6 v8)) (([]:List Nat),0)) (fun v4=>K v4)
theorem eO {p0:(List Nat)}{p1:Nat}{p2:Nat}{K:(List Nat)->Prop} (hm:bm p0 p1 p2 K) {h0:Heap} (hB:HasB vars h0):∃ r,K r/\CallD Tryz.prog NG 18 ⟨[(ah 1 n8) p0,i64 p1,n8 p2]⟩ h0 ((ah 1 n8) r) h0:=by
 unfold bm at hm
 refine fw Tryz.func18 hB (enc:=(ah 1 n8)) (fun r=>ew (fun _=>ai.cons (PureV.flat rfl) ai.nil)) fun O=>?_;conv=>whnf
 apply Cs;conv=>whnf
 apply Cs;refine gH ?_
 have O:=O.aM (.cells (flatC ((([]:List Nat)).map n8)) false)
 apply Cs;conv=>whnf
 apply Cs;refine gH ?_
 have O:=O.aM (.cells (flatC ((([]:List Nat)).map n8)) false)
 refine jn (σ:=(List Nat)×Option Nat) hm 33 [] (fun s=>s.1) (fun (v4,a3) h=>(a3=none->v4=[])/\Own vars h0 [(a3,.cells (flatC (v4.map n8)) false)] h) (fun (v4,a3)=>[(7,(ag 1 a3 (v4.map n8)))]) (fun hm=>?_) ?_
 ·refine gX ?_
  refine lw 33 [0,1,2] (σ:=((List Nat)×Nat)×Option Nat) (fun s=>s.1) (fun ((v8,v9),a7) h=>(a7=none->v8=[])/\Own vars h0 [(a7,.cells (flatC (v8.map n8)) false)] h) (fun ((v8,v9),a7)=>[(7,(ag 1 a7 (v8.map n8))),(8,(i64 v9))]) ((([]:List Nat),0),none) hm ⟨(fun _=>rfl),(O.sel [0] (by decide))⟩ ?_
  clear hm;rintro⟨⟨v8,v9⟩,a7⟩ nx11 base h hm ⟨ha10,O⟩
  refine gX ?_
  refine br hm (fun hm=>?_) fun hm=>?_
  ·apply Cs;conv=>whnf
   refine jn (σ:=(List Nat)×Option Nat) hm 33 [0,1,2,8] (fun s=>s.1) (fun (v13,a12) h=>(a12=none->v13=[])/\Own vars h0 [(a12,.cells (flatC (v13.map n8)) false)] h) (fun (v13,a12)=>[(7,(ag 1 a12 (v13.map n8)))]) (fun hm=>?_) ?_
   ·refine gX ?_
    refine br hm (fun hm=>?_) fun hm=>?_
    ·refine gX ?_
     refine fz ?_;refine gH ?_
     refine O.apL (enc:=n8) (l:=v8) (new:=([2]:(List Nat))) 1 (.head _) ha10 hm fun a16 h ha17 O hm=>?_;refine gH ?_
     exact jx ((v8++([2]:(List Nat))),a16) hm ⟨ha17,O⟩
    ·refine gX ?_
     refine qE hm fun hm=>?_;refine gH ?_
     refine atF hm fun x18 hx18 hm=>?_;refine gH ?_
     refine qE hm fun hm=>?_;refine gH ?_
     refine fz ?_;refine gH ?_
     refine O.apL (enc:=n8) (l:=v8) (new:=([(x18%p2)]:(List Nat))) 1 (.head _) ha10 hm fun a19 h ha20 O hm=>?_;refine gH ?_
     exact jx ((v8++([(x18%p2)]:(List Nat))),a19) hm ⟨ha20,O⟩
   ·clear hm;rintro⟨v13,a12⟩ base h hm ⟨ha14,O⟩
    refine gX ?_
    refine aL hm fun hm=>?_;refine gH ?_
    exact jx ((v13,(v9+1)),a12) hm ⟨ha14,O⟩
  ·refine gX ?_
   exact jx (v8,a7) hm ⟨ha10,O⟩
 ·clear hm;rintro⟨v4,a3⟩ base h hm ⟨ha5,O⟩
  refine gX ?_
  exact⟨v4,hm,O.ext,fun h2 F=>O.ig F (Nat.le_refl _) (.head _) ha5 (fun _=>rfl)⟩
def eV (p0:PData) (p1:Circ) (K:Pat->Prop):Prop :=
 bn p1 0 (fun r3=>bm p0.inp r3 4 (fun r4=>bn p1 14 (fun r5=>bm p0.state r5 3 (fun r6=>K (⟨r4,r6⟩:Pat)))))
theorem qC {p0:PData}{p1:Circ}{K:Pat->Prop} (hm:eV p0 p1 K) {h0:Heap} (hB:HasB vars h0):∃ r,K r/\CallD Tryz.prog NG 8 ⟨[CC p0,aA p1]⟩ h0 (lH r) h0:=by
 unfold eV at hm
 refine fw Tryz.func8 hB (enc:=lH) (fun r=>Bx _) fun O=>?_;conv=>whnf
 refine gX ?_
 refine fz ?_;refine gH ?_
 refine fz ?_;refine gH ?_
 refine O.new (ak (l:=[(.slice none 0 0),(.slice none 0 0)]) rfl rfl rfl) fun g1 h O=>?_;refine gH ?_
 refine gX ?_
 refine dF ?_
 refine gX ?_
 refine dF ?_
 refine gX ?_
 refine ca (eN hm O.has) fun r3 hm=>?_;refine gH ?_
 refine⟨.inl (Ext.refl _),?_⟩;refine gH ?_
 refine ca (eO hm O.has) fun r4 hm=>?_;refine gH ?_
 refine⟨.inl (Ext.refl _),?_⟩;refine gH ?_
 refine dF ?_
 refine gX ?_
 refine dF ?_
 refine gX ?_
 refine ca (eN hm O.has) fun r5 hm=>?_;refine gH ?_
 refine⟨.inl (Ext.refl _),?_⟩;refine gH ?_
 refine ca (eO hm O.has) fun r6 hm=>?_;refine gH ?_
 refine⟨.inl (Ext.refl _),?_⟩;refine gH ?_
 refine O.stC 2 (.head _) [((ah 1 n8) r4),((ah 1 n8) r6)] fun h O=>?_;refine gH ?_
 refine gX ?_
 refine⟨_,aH rfl rfl (O.at (.head _)) rfl rfl (lbE rfl) rfl,?_⟩;conv=>whnf
 exact fe hm O
def cz  (K:(Circ×(List Flt))->Prop):Prop :=
 gN (⟨([(⟨0,([]:(List Nat)),0,0⟩:Node),(⟨0,([]:(List Nat)),0,0⟩:Node),(⟨5,([0,1]:(List Nat)),0,0⟩:Node)]:(List Node)),([(⟨#[97]⟩:ByteArray),(⟨#[98]⟩:ByteArray),(⟨#[121]⟩:ByteArray)]:(List ByteArray)),([]:(List Memo)),([2]:(List Nat))⟩:Circ) 0 (fun r5=>K ((⟨([(⟨0,([]:(List Nat)),0,0⟩:Node),(⟨0,([]:(List Nat)),0,0⟩:Node),(⟨5,([0,1]:(List Nat)),0,0⟩:Node)]:(List Node)),([(⟨#[97]⟩:ByteArray),(⟨#[98]⟩:ByteArray),(⟨#[121]⟩:ByteArray)]:(List ByteArray)),[],([2]:(List Nat))⟩:Circ),r5.1))
theorem jH  {K:(Circ×(List Flt))->Prop} (hm:cz  K) {h0:Heap} (hB:HasB vars h0):∃ r,K r/\CallD Tryz.prog NG 25 ⟨[]⟩ h0 ((fun (r:(Circ×(List Flt)))=>Value.tuple ⟨[aA (r.1),(ah 5 aw) (r.2)]⟩) r) h0:=by
 unfold cz at hm
 refine fw Tryz.func25 hB (enc:=(fun (r:(Circ×(List Flt)))=>Value.tuple ⟨[aA (r.1),(ah 5 aw) (r.2)]⟩)) (fun r=>PureV.tup (ai.cons (mz _) (ai.cons (ew (fun _=>pj _)) (ai.nil)))) fun O=>?_;conv=>whnf
 refine gX ?_
 refine O.new (ak (l:=[(.slice none 0 0),(.slice none 0 0),(.slice none 0 0),(.slice none 0 0)]) rfl rfl rfl) fun g1 h O=>?_;refine gH ?_
 refine gX ?_
 refine fz ?_;refine gH ?_
 refine NewG.frzW rfl (VLe.els (s:=4) (es':=([(⟨0,([]:(List Nat)),0,0⟩:Node),(⟨0,([]:(List Nat)),0,0⟩:Node),(⟨5,([0,1]:(List Nat)),0,0⟩:Node)]).map al) rfl (bZ (enc:=al) (s:=4) (fun _=>rfl) _) (LLe.cons (VLe.refl _ _) (LLe.cons (VLe.nil _ _) (LLe.cons (VLe.refl _ _) (LLe.cons (VLe.refl _ _) (LLe.cons (VLe.refl _ _) (LLe.cons (VLe.nil _ _) (LLe.cons (VLe.refl _ _) (LLe.cons (VLe.refl _ _) (LLe.cons (VLe.refl _ _) (LLe.cons (VLe.refl _ _) (LLe.cons (VLe.refl _ _) (LLe.cons (VLe.refl _ _) (LLe.nil _)))))))))))))) ?_;refine gH ?_
 refine fz ?_;refine gH ?_
 refine fz ?_;refine gH ?_
 refine O.new (ak (l:=[(.slice none 0 0),(.slice none 0 0),(.slice none 0 0),(.slice none 0 0)]) rfl rfl rfl) fun g3 h O=>?_;refine gH ?_
 refine O.stC 4 (.head _) [((ah 4 al) ([(⟨0,([]:(List Nat)),0,0⟩:Node),(⟨0,([]:(List Nat)),0,0⟩:Node),(⟨5,([0,1]:(List Nat)),0,0⟩:Node)]:(List Node))),((ah 1 Value.string) ([(⟨#[97]⟩:ByteArray),(⟨#[98]⟩:ByteArray),(⟨#[121]⟩:ByteArray)]:(List ByteArray))),(.slice none 0 0),((ah 1 i64) ([2]:(List Nat)))] fun h O=>?_;refine gX ?_
 refine ldA (O.at (.head _)) ?_;refine gH ?_
 refine caW (kP hm O.has) (LLe.cons (VLe.agg (LLe.cons (VLe.refl _ _) (LLe.cons (VLe.refl _ _) (LLe.cons (VLe.nil _ _) (LLe.cons (VLe.refl _ _) (LLe.nil _)))))) (LLe.cons (VLe.refl _ _) (LLe.nil _))) fun r5 hm=>?_;refine gX ?_
 refine ldA (O.at (.head _)) ?_;refine gH ?_
 refine O.stC 4 (.tail _ (.head _)) [((ah 4 al) ([(⟨0,([]:(List Nat)),0,0⟩:Node),(⟨0,([]:(List Nat)),0,0⟩:Node),(⟨5,([0,1]:(List Nat)),0,0⟩:Node)]:(List Node))),((ah 1 Value.string) ([(⟨#[97]⟩:ByteArray),(⟨#[98]⟩:ByteArray),(⟨#[121]⟩:ByteArray)]:(List ByteArray))),(.slice none 0 0),((ah 1 i64) ([2]:(List Nat)))] fun h O=>?_;refine gX ?_
 refine⟨_,aH rfl rfl (O.at (.tail _ (.head _))) rfl rfl (lbE rfl) rfl,?_⟩;conv=>whnf
 exact⟨((⟨([(⟨0,([]:(List Nat)),0,0⟩:Node),(⟨0,([]:(List Nat)),0,0⟩:Node),(⟨5,([0,1]:(List Nat)),0,0⟩:Node)]:(List Node)),([(⟨#[97]⟩:ByteArray),(⟨#[98]⟩:ByteArray),(⟨#[121]⟩:ByteArray)]:(List ByteArray)),[],([2]:(List Nat))⟩:Circ),r5.1),hm,O.ext,fun h2 F=>VLe.tup (LLe.cons (VLe.agg (LLe.cons (VLe.refl _ _) (LLe.cons (VLe.refl _ _) (LLe.cons (VLe.nil _ _) (LLe.cons (VLe.refl _ _) (LLe.nil _)))))) (LLe.cons (VLe.refl _ _) (LLe.nil _)))⟩
def aG (p0:(List Nat)) (p1:(List Nat)) (K:Bool->Prop):Prop :=
 an (α:=Bool) (fun k2=>((neN p0.length p1.length)=true->k2 true)/\((neN p0.length p1.length)=false->k2 (neN p0.length p0.length))) (fun v1=>(v1=true->K false)/\(v1=false->an (α:=Unit) (fun k3=>au (S:=Nat) (fun v4 nx5=>((ltN v4 p0.length)=true->∃ x6,p0[v4]?=some x6/\∃ x7,p1[v4]?=some x7/\((neN x6 x7)=true->K false)/\((neN x6 x7)=false->v4+1<2 ^ 63/\nx5 (v4+1)))/\((ltN v4 p0.length)=false->k3 ())) 0) (fun _=>K true)))
theorem bh {p0:(List Nat)}{p1:(List Nat)}{K:Bool->Prop} (hm:aG p0 p1 K) {h0:Heap} (hB:HasB vars h0):∃ r,K r/\CallD Tryz.prog NG 15 ⟨[(aQ 1 i64) p0,(ah 1 i64) p1]⟩ h0 (Value.bool r) h0:=by
 unfold aG at hm
 refine fw Tryz.func15 hB (enc:=Value.bool) (fun r=>PureV.flat rfl) fun O=>?_;conv=>whnf
 apply Cs;conv=>whnf
 apply Cs;refine gH ?_
 apply Cs;conv=>whnf
 refine jn hm 33 [0,1] (fun s=>s) (fun v1 h=>Own vars h0 [] h) (fun v1=>[(17,(.bool v1))]) (fun hm=>?_) ?_
 ·refine gX ?_
  refine lmC ?_;refine gH ?_
  refine br hm (fun hm=>?_) fun hm=>?_
  ·refine gX ?_
   exact jx true hm O
  ·refine gX ?_
   refine cpC ?_;refine gH ?_
   refine lmC ?_;refine gH ?_
   exact jx (neN p0.length p0.length) hm O
 ·clear hm;rintro v1 base h hm O
  refine gX ?_
  refine br hm (fun hm=>?_) fun hm=>?_
  ·refine gX ?_
   exact fe hm O
  ·apply Cs;conv=>whnf
   refine jn hm 33 [] (fun s=>s) (fun _ h=>Own vars h0 [] h) (fun _=>[]) (fun hm=>?_) ?_
   ·refine gX ?_
    refine lw 33 [0,1] (σ:=Nat) (fun s=>s) (fun v4 h=>Own vars h0 [] h) (fun v4=>[(5,(i64 v4))]) 0 hm O ?_
    clear hm;rintro v4 nx5 base h hm O
    refine gX ?_
    refine lmC ?_;refine gX ?_
    refine br hm (fun hm=>?_) fun hm=>?_
    ·refine gX ?_
     refine atC hm fun x6 hx6 hm=>?_;refine gH ?_
     refine atF hm fun x7 hx7 hm=>?_;refine gX ?_
     refine br hm (fun hm=>?_) fun hm=>?_
     ·refine gX ?_
      exact fe hm O
     ·refine gX ?_
      refine aL hm fun hm=>?_;refine gH ?_
      exact jx (v4+1) hm O
    ·refine gX ?_
     exact jx () hm O
   ·clear hm;rintro _ base h hm O
    refine gX ?_
    exact fe hm O
def bJ  (K:Bool->Prop):Prop :=
 cz  (fun r1=>bG r1.1 r1.2 (fun r4=>bI r1.1 r1.2 (fun r5=>cZ r1.1 r1.2 (fun r6=>iq r1.1 r1.2 ([7]:(List Nat)) (fun r7=>an (α:=Bool) (fun k9=>((neN r4.2 0)=true->k9 true)/\((neN r4.2 0)=false->((neN r5.2 0)=true->k9 true)/\((neN r5.2 0)=false->((neN r6.2 0)=true->k9 true)/\((neN r6.2 0)=false->((neN r7.2 0)=true->k9 true)/\((neN r7.2 0)=false->((neN r4.1.length 4)=true->k9 true)/\((neN r4.1.length 4)=false->k9 (neN r5.1.length 2))))))) (fun v8=>(v8=true->K false)/\(v8=false->∃ x10,r4.1[0]?=some x10/\aG x10 ([0,2,4,6,8]:(List Nat)) (fun r11=>(r11=true->∃ x12,r4.1[1]?=some x12/\aG x12 ([1,7]:(List Nat)) (fun r13=>(r13=true->∃ x14,r4.1[2]?=some x14/\aG x14 ([3,9]:(List Nat)) (fun r15=>(r15=true->∃ x16,r4.1[3]?=some x16/\aG x16 ([5]:(List Nat)) (fun r17=>(r17=true->∃ x18,r5.1[0]?=some x18/\(((eqN x18.a 1)&&((eqN x18.b 3)&&true))=true->∃ x19,r5.1[1]?=some x19/\(((eqN x19.a 2)&&((eqN x19.b 3)&&true))=true->aG r6.1 ([0,1,3]:(List Nat)) (fun r20=>(r20=true->aG r7.1 ([1,5,7]:(List Nat)) (fun r21=>K r21))/\(r20=false->K false)))/\(((eqN x19.a 2)&&((eqN x19.b 3)&&true))=false->K false))/\(((eqN x18.a 1)&&((eqN x18.b 3)&&true))=false->K false))/\(r17=false->K false)))/\(r15=false->K false)))/\(r13=false->K false)))/\(r11=false->K false)))))))))
theorem jc  {K:Bool->Prop} (hm:bJ  K) {h0:Heap} (hB:HasB vars h0):∃ r,K r/\CallD Tryz.prog NG 11 ⟨[]⟩ h0 (Value.bool r) h0:=by
 unfold bJ at hm
 refine fw Tryz.func11 hB (enc:=Value.bool) (fun r=>PureV.flat rfl) fun O=>?_;conv=>whnf
 refine gX ?_
 refine ca (jH hm O.has) fun r1 hm=>?_;refine gH ?_
 refine O.new (ak (l:=[nS,nS,nS,nS]) rfl rfl rfl) fun g2 h O=>?_;refine gH ?_
 refine O.stC 4 (.head _) [((ah 4 al) r1.1.nodes),((ah 1 Value.string) r1.1.names),((ah 3 az) r1.1.mems),((ah 1 i64) r1.1.outs)] fun h O=>?_;refine gX ?_
 refine ldA (O.at (.head _)) ?_;refine gH ?_
 refine ca (fX hm O.has) fun r4 hm=>?_;refine gX ?_
 refine ldA (O.at (.head _)) ?_;refine gH ?_
 refine ca (jd hm O.has) fun r5 hm=>?_;refine gX ?_
 refine ldA (O.at (.head _)) ?_;refine gH ?_
 refine ca (mH hm O.has) fun r6 hm=>?_;refine gX ?_
 refine ldA (O.at (.head _)) ?_;refine gH ?_
 refine fz ?_;refine gH ?_
 refine ca (kT hm O.has) fun r7 hm=>?_;refine gH ?_
 apply Cs;conv=>whnf
 refine jn hm 114 [3,5,7,9] (fun s=>s) (fun v8 h=>Own vars h0 [] h) (fun v8=>[(63,(.bool v8))]) (fun hm=>?_) ?_
 ·refine gX ?_
  refine br hm (fun hm=>?_) fun hm=>?_
  ·refine gX ?_
   refine bt ?_;refine gH ?_
   refine bt ?_;refine gH ?_
   refine bt ?_;refine gH ?_
   refine bt ?_;refine gH ?_
   exact jx true hm (O.sel [] (by decide))
  ·refine gX ?_
   refine br hm (fun hm=>?_) fun hm=>?_
   ·refine gX ?_
    refine bt ?_;refine gH ?_
    refine bt ?_;refine gH ?_
    refine bt ?_;refine gH ?_
    exact jx true hm (O.sel [] (by decide))
   ·refine gX ?_
    refine br hm (fun hm=>?_) fun hm=>?_
    ·refine gX ?_
     refine bt ?_;refine gH ?_
     refine bt ?_;refine gH ?_
     exact jx true hm (O.sel [] (by decide))
    ·refine gX ?_
     refine br hm (fun hm=>?_) fun hm=>?_
     ·refine gX ?_
      refine bt ?_;refine gH ?_
      exact jx true hm (O.sel [] (by decide))
     ·refine gX ?_
      refine lmC ?_;refine gH ?_
      refine br hm (fun hm=>?_) fun hm=>?_
      ·refine gX ?_
       exact jx true hm (O.sel [] (by decide))
      ·refine gX ?_
       exact jx (neN r5.1.length 2) hm (O.sel [] (by decide))
 ·clear hm;rintro v8 base h hm O
  refine gX ?_
  refine br hm (fun hm=>?_) fun hm=>?_
  ·refine gX ?_
   exact fe hm O
  ·refine gX ?_
   refine atC hm fun x10 hx10 hm=>?_;refine gH ?_
   refine fz ?_;refine gH ?_
   refine ca (bh hm O.has) fun r11 hm=>?_;refine gH ?_
   refine br hm (fun hm=>?_) fun hm=>?_
   ·refine gX ?_
    refine atC hm fun x12 hx12 hm=>?_;refine gH ?_
    refine fz ?_;refine gH ?_
    refine ca (bh hm O.has) fun r13 hm=>?_;refine gH ?_
    refine br hm (fun hm=>?_) fun hm=>?_
    ·refine gX ?_
     refine atC hm fun x14 hx14 hm=>?_;refine gH ?_
     refine fz ?_;refine gH ?_
     refine ca (bh hm O.has) fun r15 hm=>?_;refine gH ?_
     refine br hm (fun hm=>?_) fun hm=>?_
     ·refine gX ?_
      refine atC hm fun x16 hx16 hm=>?_;refine gH ?_
      refine fz ?_;refine gH ?_
      refine ca (bh hm O.has) fun r17 hm=>?_;refine gH ?_
      refine br hm (fun hm=>?_) fun hm=>?_
      ·refine gX ?_
       refine atF hm fun x18 hx18 hm=>?_;refine gH ?_
       refine⟨.bool ((eqN x18.a 1)&&((eqN x18.b 3)&&true)),by kernel_rfl,?_⟩;refine gH ?_
       refine br hm (fun hm=>?_) fun hm=>?_
       ·refine gX ?_
        refine atF hm fun x19 hx19 hm=>?_;refine gH ?_
        refine⟨.bool ((eqN x19.a 2)&&((eqN x19.b 3)&&true)),by kernel_rfl,?_⟩;refine gH ?_
        refine br hm (fun hm=>?_) fun hm=>?_
        ·refine gX ?_
         refine fz ?_;refine gH ?_
         refine ca (bh hm O.has) fun r20 hm=>?_;refine gH ?_
         refine br hm (fun hm=>?_) fun hm=>?_
         ·refine gX ?_
          refine fz ?_;refine gH ?_
          refine ca (bh hm O.has) fun r21 hm=>?_;refine gX ?_
          exact fe hm O
         ·refine gX ?_
          exact fe hm O
        ·refine gX ?_
         refine bf ?_;refine gX ?_
         exact fe hm O
       ·refine gX ?_
        refine bf ?_;refine gH ?_
        refine bf ?_;refine gX ?_
        exact fe hm O
      ·refine gX ?_
       refine bf ?_;refine gH ?_
       refine bf ?_;refine gH ?_
       refine bf ?_;refine gX ?_
       exact fe hm O
     ·refine gX ?_
      refine bf ?_;refine gH ?_
      refine bf ?_;refine gH ?_
      refine bf ?_;refine gH ?_
      refine bf ?_;refine gX ?_
      exact fe hm O
    ·refine gX ?_
     refine bf ?_;refine gH ?_
     refine bf ?_;refine gH ?_
     refine bf ?_;refine gH ?_
     refine bf ?_;refine gH ?_
     refine bf ?_;refine gX ?_
     exact fe hm O
   ·refine gX ?_
    refine bf ?_;refine gH ?_
    refine bf ?_;refine gH ?_
    refine bf ?_;refine gH ?_
    refine bf ?_;refine gH ?_
    refine bf ?_;refine gH ?_
    refine bf ?_;refine gX ?_
    exact fe hm O
def cb (p0:CData) (K:(Circ×(List Flt))->Prop):Prop :=
 bY p0 (fun r3=>gN r3 0 (fun r6=>K (r3,r6.1)))
theorem kh {p0:CData}{K:(Circ×(List Flt))->Prop} (hm:cb p0 K) {h0:Heap} (hB:HasB vars h0):∃ r,K r/\CallD Tryz.prog NG 7 ⟨[bD p0]⟩ h0 ((fun (r:(Circ×(List Flt)))=>Value.tuple ⟨[aA (r.1),(ah 5 aw) (r.2)]⟩) r) h0:=by
 unfold cb at hm
 refine fw Tryz.func7 hB (enc:=(fun (r:(Circ×(List Flt)))=>Value.tuple ⟨[aA (r.1),(ah 5 aw) (r.2)]⟩)) (fun r=>PureV.tup (ai.cons (mz _) (ai.cons (ew (fun _=>pj _)) (ai.nil)))) fun O=>?_;conv=>whnf
 refine gX ?_
 refine fz ?_;refine gH ?_
 refine O.new (ak (l:=[(.slice none 0 0),(.slice none 0 0),(.slice none 0 0),(.slice none 0 0)]) rfl rfl rfl) fun g1 h O=>?_;refine gH ?_
 refine gX ?_
 refine ca (iy hm O.has) fun r3 hm=>?_;refine gH ?_
 refine O.new (ak (l:=[(.slice none 0 0),(.slice none 0 0),(.slice none 0 0),(.slice none 0 0)]) rfl rfl rfl) fun g4 h O=>?_;refine gH ?_
 refine O.stC 4 (.head _) [((ah 4 al) r3.nodes),((ah 1 Value.string) r3.names),((ah 3 az) r3.mems),((ah 1 i64) r3.outs)] fun h O=>?_;refine gX ?_
 refine ldA (O.at (.head _)) ?_;refine gH ?_
 refine ca (kP hm O.has) fun r6 hm=>?_;refine gX ?_
 refine ldA (O.at (.head _)) ?_;refine gH ?_
 refine O.stC 4 (.tail _ (.head _)) [((ah 4 al) r3.nodes),((ah 1 Value.string) r3.names),((ah 3 az) r3.mems),((ah 1 i64) r3.outs)] fun h O=>?_;refine gX ?_
 refine⟨_,aH rfl rfl (O.at (.tail _ (.head _))) rfl rfl (lbE rfl) rfl,?_⟩;conv=>whnf
 exact⟨(r3,r6.1),hm,O.ext,fun h2 F=>VLe.tup (LLe.cons (VLe.refl _ _) (LLe.cons (VLe.refl _ _) (LLe.nil _)))⟩
def bo (p0:CData) (p1:PData) (K:Bool->Prop):Prop :=
 cb p0 (fun r1=>eV p1 r1.1 (fun r4=>bG r1.1 r1.2 (fun r7=>an (α:=Bool) (fun k9=>((neN r7.2 0)=true->k9 true)/\((neN r7.2 0)=false->k9 (eqN r7.1.length 0))) (fun v8=>(v8=true->K false)/\(v8=false->an (α:=Unit) (fun k10=>au (S:=Nat) (fun v11 nx12=>((ltN v11 r7.1.length)=true->an (α:=Unit) (fun k13=>au (S:=(Bool×Nat)) (fun (v14,v15) nx16=>∃ x17,r7.1[v11]?=some x17/\((ltN v15 x17.length)=true->an (α:=Bool) (fun k19=>∃ x20,r7.1[v11]?=some x20/\∃ x21,x20[v15]?=some x21/\((ltN x21 0)=true->k19 true)/\((ltN x21 0)=false->∃ x22,r7.1[v11]?=some x22/\∃ x23,x22[v15]?=some x23/\k19 (!ltN x23 r1.2.length))) (fun v18=>(v18=true->K false)/\(v18=false->∃ x24,r7.1[v11]?=some x24/\∃ x25,x24[v15]?=some x25/\∃ x26,r1.2[x25]?=some x26/\cq r1.1 x26 r4 (fun r27=>an (α:=Bool) (fun k29=>((neN r27.2 0)=true->k29 true)/\((neN r27.2 0)=false->((ltN 0 v15)=true->k29 (r27.1 != v14))/\((ltN 0 v15)=false->k29 false))) (fun v28=>(v28=true->K false)/\(v28=false->v15+1<2 ^ 63/\nx16 (r27.1,(v15+1))))))))/\((ltN v15 x17.length)=false->k13 ())) (false,0)) (fun _=>v11+1<2 ^ 63/\nx12 (v11+1)))/\((ltN v11 r7.1.length)=false->k10 ())) 0) (fun _=>bJ  (fun r30=>K r30)))))))
theorem fE {p0:CData}{p1:PData}{K:Bool->Prop} (hm:bo p0 p1 K) {h0:Heap} (hB:HasB vars h0):∃ r,K r/\CallD Tryz.prog NG 3 ⟨[bD p0,CC p1]⟩ h0 (Value.bool r) h0:=by
 unfold bo at hm
 refine fw Tryz.func3 hB (enc:=Value.bool) (fun r=>PureV.flat rfl) fun O=>?_;conv=>whnf
 refine gX ?_
 refine fz ?_;refine gH ?_
 refine fz ?_;refine gX ?_
 refine ca (kh hm O.has) fun r1 hm=>?_;refine gH ?_
 refine O.new (ak (l:=[nS,nS,nS,nS]) rfl rfl rfl) fun g2 h O=>?_;refine gH ?_
 refine O.stC 4 (.head _) [((ah 4 al) r1.1.nodes),((ah 1 Value.string) r1.1.names),((ah 3 az) r1.1.mems),((ah 1 i64) r1.1.outs)] fun h O=>?_;refine gX ?_
 refine ldA (O.at (.head _)) ?_;refine gH ?_
 refine ca (qC hm O.has) fun r4 hm=>?_;refine gH ?_
 refine O.new (ak (l:=[nS,nS]) rfl rfl rfl) fun g5 h O=>?_;refine gH ?_
 refine O.stC 2 (.head _) [((ah 1 n8) r4.inp),((ah 1 n8) r4.state)] fun h O=>?_;refine gX ?_
 refine ldA (O.at (.tail _ (.head _))) ?_;refine gH ?_
 refine ca (fX hm O.has) fun r7 hm=>?_;refine gH ?_
 apply Cs;conv=>whnf
 refine jn hm 100 [5,6,7,8] (fun s=>s) (fun v8 h=>Own vars h0 [(sC g2 [((ah 4 al) r1.1.nodes),((ah 1 Value.string) r1.1.names),((ah 3 az) r1.1.mems),((ah 1 i64) r1.1.outs)]),(sC g5 [((ah 1 n8) r4.inp),((ah 1 n8) r4.state)])] h) (fun v8=>[(35,(.bool v8))]) (fun hm=>?_) ?_
 ·refine gX ?_
  refine br hm (fun hm=>?_) fun hm=>?_
  ·refine gX ?_
   exact jx true hm (O.sel [1,0] (by decide))
  ·refine gX ?_
   refine lmC ?_;refine gH ?_
   exact jx (eqN r7.1.length 0) hm (O.sel [1,0] (by decide))
 ·clear hm;rintro v8 base h hm O
  refine gX ?_
  refine br hm (fun hm=>?_) fun hm=>?_
  ·refine gX ?_
   exact fe hm O
  ·apply Cs;conv=>whnf
   refine jn hm 100 [] (fun s=>s) (fun _ h=>Own vars h0 [] h) (fun _=>[]) (fun hm=>?_) ?_
   ·refine gX ?_
    refine lw 100 [5,6,7,8] (σ:=Nat) (fun s=>s) (fun v11 h=>Own vars h0 [(sC g2 [((ah 4 al) r1.1.nodes),((ah 1 Value.string) r1.1.names),((ah 3 az) r1.1.mems),((ah 1 i64) r1.1.outs)]),(sC g5 [((ah 1 n8) r4.inp),((ah 1 n8) r4.state)])] h) (fun v11=>[(10,(i64 v11))]) 0 hm O ?_
    clear hm;rintro v11 nx12 base h hm O
    refine gX ?_
    refine lmC ?_;refine gX ?_
    refine br hm (fun hm=>?_) fun hm=>?_
    ·apply Cs;conv=>whnf
     refine jn hm 100 [5,6,7,8,10] (fun s=>s) (fun _ h=>Own vars h0 [(sC g2 [((ah 4 al) r1.1.nodes),((ah 1 Value.string) r1.1.names),((ah 3 az) r1.1.mems),((ah 1 i64) r1.1.outs)]),(sC g5 [((ah 1 n8) r4.inp),((ah 1 n8) r4.state)])] h) (fun _=>[]) (fun hm=>?_) ?_
     ·refine gX ?_
      refine lw 100 [5,6,7,8,10] (σ:=(Bool×Nat)) (fun s=>s) (fun (v14,v15) h=>Own vars h0 [(sC g2 [((ah 4 al) r1.1.nodes),((ah 1 Value.string) r1.1.names),((ah 3 az) r1.1.mems),((ah 1 i64) r1.1.outs)]),(sC g5 [((ah 1 n8) r4.inp),((ah 1 n8) r4.state)])] h) (fun (v14,v15)=>[(11,(.bool v14)),(12,(i64 v15))]) (false,0) hm O ?_
      clear hm;rintro⟨v14,v15⟩ nx16 base h hm O
      refine gX ?_
      refine atC hm fun x17 hx17 hm=>?_;refine gH ?_
      refine lmC ?_;refine gX ?_
      refine br hm (fun hm=>?_) fun hm=>?_
      ·apply Cs;conv=>whnf
       apply Cs;conv=>whnf
       apply Cs;conv=>whnf
       apply Cs;conv=>whnf
       refine jn hm 100 [5,6,7,8,10,11,12] (fun s=>s) (fun v18 h=>Own vars h0 [(sC g2 [((ah 4 al) r1.1.nodes),((ah 1 Value.string) r1.1.names),((ah 3 az) r1.1.mems),((ah 1 i64) r1.1.outs)]),(sC g5 [((ah 1 n8) r4.inp),((ah 1 n8) r4.state)])] h) (fun v18=>[(70,(.bool v18))]) (fun hm=>?_) ?_
       ·refine gX ?_
        refine atC hm fun x20 hx20 hm=>?_;refine gH ?_
        refine atC hm fun x21 hx21 hm=>?_;refine gH ?_
        refine br hm (fun hm=>?_) fun hm=>?_
        ·refine gX ?_
         exact jx true hm O
        ·refine gX ?_
         refine atC hm fun x22 hx22 hm=>?_;refine gH ?_
         refine atC hm fun x23 hx23 hm=>?_;refine gH ?_
         exact jx (!ltN x23 r1.2.length) hm O
       ·clear hm;rintro v18 base h hm O
        refine gX ?_
        refine br hm (fun hm=>?_) fun hm=>?_
        ·refine gX ?_
         exact fe hm O
        ·refine gX ?_
         refine ldA (O.at (.head _)) ?_;refine gH ?_
         first|refine⟨.inr (.inr (bc rfl (O.at (.head _)) rfl rfl (lbE rfl) rfl)),?_⟩|refine⟨.inr (.inl (by kernel_rfl)),?_⟩
         refine gX ?_
         refine atC hm fun x24 hx24 hm=>?_;refine gH ?_
         refine dF ?_
         refine gX ?_
         refine atC hm fun x25 hx25 hm=>?_;refine gH ?_
         refine atF hm fun x26 hx26 hm=>?_;refine gH ?_
         refine dF ?_
         refine gX ?_
         refine ldA (O.at (.tail _ (.head _))) ?_;refine gH ?_
         first|refine⟨.inr (.inr (bc rfl (O.at (.tail _ (.head _))) rfl rfl (lbE rfl) rfl)),?_⟩|refine⟨.inr (.inl (by kernel_rfl)),?_⟩
         refine gX ?_
         refine ca (mC hm O.has) fun r27 hm=>?_;refine gH ?_
         refine⟨.inl (Ext.refl _),?_⟩;refine gH ?_
         apply Cs;conv=>whnf
         refine jn hm 100 [5,6,7,8,10,12,13] (fun s=>s) (fun v28 h=>Own vars h0 [(sC g2 [((ah 4 al) r1.1.nodes),((ah 1 Value.string) r1.1.names),((ah 3 az) r1.1.mems),((ah 1 i64) r1.1.outs)]),(sC g5 [((ah 1 n8) r4.inp),((ah 1 n8) r4.state)])] h) (fun v28=>[(97,(.bool v28))]) (fun hm=>?_) ?_
         ·refine gX ?_
          refine br hm (fun hm=>?_) fun hm=>?_
          ·refine gX ?_
           exact jx true hm O
          ·refine gX ?_
           refine br hm (fun hm=>?_) fun hm=>?_
           ·refine gX ?_
            exact jx (r27.1 != v14) hm O
           ·refine gX ?_
            exact jx false hm O
         ·clear hm;rintro v28 base h hm O
          refine gX ?_
          refine br hm (fun hm=>?_) fun hm=>?_
          ·refine gX ?_
           exact fe hm O
          ·refine gX ?_
           refine aL hm fun hm=>?_;refine gH ?_
           exact jx (r27.1,(v15+1)) hm O
      ·refine gX ?_
       exact jx () hm O
     ·clear hm;rintro _ base h hm O
      refine gX ?_
      refine aL hm fun hm=>?_;refine gH ?_
      exact jx (v11+1) hm O
    ·refine gX ?_
     exact jx () hm (O.sel [] (by decide))
   ·clear hm;rintro _ base h hm O
    refine gX ?_
    refine ca (jc hm O.has) fun r30 hm=>?_;refine gX ?_
    exact fe hm O
inductive Rch (r:List N2) (st:Nat->Prop):Nat->Prop
 |base {a:Nat}:st a->Rch r st a
 |step {a b:Nat}:Rch r st a->(⟨a,b⟩:N2)∈r->Rch r st b
def uO (r:List N2) (a:Nat):List Nat:=(r.filter fun x=>x.a==a).map N2.b
theorem vE {r:List N2}{a b:Nat}:b∈uO r a↔(⟨a,b⟩:N2)∈r:=by
 unfold uO
 rw[List.mem_map]
 constructor
 ·rintro⟨⟨a',b'⟩,m,rfl⟩
  obtain⟨m,e⟩:=List.mem_filter.1 m
  have e:a'=a:=by simpa using e
  rw[<- e]
  exact m
 ·intro m
  exact⟨⟨a,b⟩,List.mem_filter.2 ⟨m,by simp⟩,rfl⟩
theorem xg (r:List N2) (a:Nat):(uO r a).length<=r.length:=by
 unfold uO
 rw[List.length_map]
 exact List.length_filter_le _ _
theorem zM (r:List N2) (x:N2) (a:Nat):uO (r++[x]) a=uO r a++if x.a=a then [x.b] else []:=by
 unfold uO
 rw[List.filter_append,List.map_append]
 congr 1
 by_cases e:x.a=a
 ·simp[e]
 ·simp[e]
def cntT (bs:List Bool):Nat:=bs.count true
theorem B9 (bs:List Bool):cntT bs<=bs.length:=List.count_le_length
theorem xa:∀ {bs:List Bool}{a:Nat},bs[a]?=some false->cntT (bs.set a true)=cntT bs+1
 |[],_,h=>by cases h
 |b::bs,0,h=>by
  rw[List.getElem?_cons_zero] at h
  cases h
  unfold cntT
  rw[List.set_cons_zero,List.count_cons,List.count_cons]
  simp
 |b::bs,a+1,h=>by
  rw[List.getElem?_cons_succ] at h
  have:=xa h
  unfold cntT at this ⊢
  rw[List.set_cons_succ,List.count_cons,List.count_cons,this]
  omega
theorem Df {bs:List Bool}{a:Nat}{v:Bool} (h:bs[a]?=some v):bs.getD a false=v:=by rw[List.getD,h];rfl
theorem uf {bs:List Bool}{a b:Nat} (h:a<bs.length):(bs.set a true).getD b false=true↔b=a\/bs.getD b false=true:=by
 by_cases e:b=a
 ·subst e
  rw[List.getD,List.getElem?_set_self h]
  simp
 ·rw[List.getD,List.getElem?_set_ne (fun q=>e q.symm)]
  simp[e]
structure ExpI (r:List N2) (n:Nat) (st:Nat->Prop) (M:Nat) (bs:List Bool) (todo:List Nat):Prop where
 len:bs.length=n
 snd:∀ a,bs.getD a false=true->Rch r st a
 tod:∀ a∈todo,a<n/\Rch r st a
 cls:∀ a b,bs.getD a false=true->(⟨a,b⟩:N2)∈r->bs.getD b false=true\/b∈todo
 st:∀ a,st a->bs.getD a false=true\/a∈todo
 msr:(n-cntT bs)*257+todo.length<=M
theorem ExpI.done {r:List N2}{n M:Nat}{st:Nat->Prop}{bs:List Bool} (I:ExpI r n st M bs []) (a:Nat):bs.getD a false=true↔Rch r st a:=by
 refine⟨I.snd a,fun h=>?_⟩
 induction h with
 |base h=>exact (I.st _ h).resolve_right (fun m=>by cases m)
 |step _ m ih=>exact (I.cls _ _ ih m).resolve_right (fun m=>by cases m)
theorem Ee {a b:Nat}:ltI (Int.ofNat a) (Int.ofNat b)=decide (a<b):=by
 rw[dr]
 by_cases h:a<b
 ·rw[decide_eq_true h];exact decide_eq_true (Int.ofNat_lt.2 h)
 ·rw[decide_eq_false h];exact decide_eq_false (fun q=>h (Int.ofNat_lt.1 q))
def rb (c:Circ) (l:List Flt) (ds:List Nat) (a:Nat):Prop:=∃ i∈ds,(osN c l)[i]?=some a
theorem uP {c:Circ}{l:List Flt}{i:Nat} (h:i<l.length):∃ a,(osN c l)[i]?=some a/\a<(ksF c l).length:=by
 obtain⟨f,hf⟩:=aC h
 refine⟨gB c l f,by unfold osN;rw[List.getElem?_map,hf];rfl,?_⟩
 exact List.idxOf_lt_length_iff.2 (iH.2 ⟨f,List.mem_of_getElem? hf,rfl⟩)
def qA (c:Circ) (l:List Flt) (bs:List Bool) (i:Nat):List Nat:=(List.range i).filter fun m=>bs.getD ((osN c l).getD m 0) false
theorem xt {c:Circ} (C:Cir c) {l:List Flt} (hl:ListOk c l) {d:List Int}{K:List Nat×Nat->Prop}
  (hd:(∃ ds:List Nat,d=ds.map Int.ofNat/\(∀ i∈ds,i<l.length)/\ds.length<=65536/\∀ r bs,DomOk c (ksF c l) r->(∀ a,bs.getD a false=true↔Rch r (rb c l ds) a)->K (qA c l bs l.length,0))\/∃ bad,d=[bad]/\(bad<0\/Int.ofNat l.length<=bad)/\K ([],1)) :
  bH c l d K:=by
 have hlen:=hl.len
 have hks:=xq hl
 have hRl:=ph c l
 unfold bH
 refine mn C hl.len hl.check ⟨(fun q=>absurd rfl (eK.1 q)),fun _=>iw C hl.len hl.stuck fun ps cs P=>⟨by omega,by omega,?_⟩⟩
 refine gZ (fun s=>∃ r,DomOk c (ksF c l) r/\s.2.length=(ksF c l).length/\∀ a,a<(ksF c l).length->s.2[a]?=some (uO r a)) (fun k hk=>jJ C hks P.edge P.cs fun qs r hr=>?_) ?_
 ·have hrl:=hr.len
  refine aW (fun s=>s.2<=r.length/\s.1.length=(ksF c l).length/\∀ a,a<(ksF c l).length->s.1[a]?=some (uO (r.take s.2) a)) (fun s=>r.length-s.2) ?_ ⟨Nat.zero_le _,by rw[List.length_replicate];exact hRl,fun i hi=>?_⟩
  ·rintro⟨fs,t⟩ nx ⟨ht,hb1,hb2⟩ hnx
   dsimp only at ht hb1 hb2
   refine⟨fun q=>?_,fun q=>hk _ ⟨r,hr,hb1,?_⟩⟩
   ·have q:t<r.length:=aT.1 q
    obtain⟨x,hx⟩:=aC q
    have hlt:=hr.lt (List.mem_of_getElem? hx)
    have hfl:=xg (r.take t) x.a
    rw[List.length_take] at hfl
    refine⟨x,hx,by rw[hRl];exact hlt.1,_,hb2 x.a hlt.1,by rw[List.length_singleton];omega,by rw[hRl];exact hlt.1,by omega,hnx _ ⟨q,(List.length_set ..).trans hb1,fun a ha=>?_⟩ (by dsimp only;omega)⟩
    dsimp only
    rw[List.getElem?_set,oH hx,zM]
    by_cases e:x.a=a
    ·subst e
     rw[if_pos rfl,if_pos (by omega),if_pos rfl]
    ·rw[if_neg e,hb2 a ha,if_neg e,List.append_nil]
   ·have q:r.length<=t:=bg.1 q
    rw[List.take_of_length_le q] at hb2
    exact hb2
  ·rw[hRl,List.getElem?_replicate,if_pos hi];rfl
 ·rintro⟨qs,fs⟩ ⟨r,hr,hf1,hf2⟩
  have hrl:=hr.len
  dsimp only at hf1 hf2
  refine⟨by omega,by omega,?_⟩
  rcases hd with⟨ds,rfl,hd,hdl,h⟩|⟨bad,rfl,hb,h⟩
  case inr =>
   refine (show au _ _ from aW (fun s=>s=([],0)) (fun _=>0) ?_ rfl)
   rintro _ nx rfl _
   refine⟨fun _=>⟨bad,rfl,?_⟩,fun q=>absurd (bg.1 q) (by simp)⟩
   refine dp (a:=true) (fun G=>⟨fun _=>G,fun e=>?_⟩) ⟨fun _=>h,fun e=>(by cases e)⟩
   have e:ltI bad (Int.ofNat l.length)=false:=by
    have e0:=pV.1 e
    have:(Int.ofNat 0)=0:=rfl
    refine pV.2 ?_
    rcases hb with hb|hb
    ·omega
    ·exact hb
   rw[e];exact G
  refine aD (fun s=>s.2<=ds.length/\s.1.length=s.2/\∀ a,a∈s.1↔rb c l (ds.take s.2) a) (fun s=>ds.length-s.2) (fun s=>s.length=ds.length/\∀ a,a∈s↔rb c l ds a) ?_ ⟨Nat.zero_le _,rfl,fun a=>⟨fun m=>(by cases m),fun ⟨_,m,_⟩=>by cases m⟩⟩ ?_
  ·rintro k ⟨td,i⟩ nx ⟨hi,ht1,ht2⟩ hnx hk
   dsimp only at hi ht1 ht2
   have hml:(ds.map Int.ofNat).length=ds.length:=List.length_map ..
   refine⟨fun q=>?_,fun q=>hk _ ?_⟩
   ·have q:i<ds.length:=hml ▸ aT.1 q
    obtain⟨d,hd1⟩:=aC q
    have hdl2:=hd d (List.mem_of_getElem? hd1)
    obtain⟨a,ha1,ha2⟩:=uP (c:=c) hdl2
    refine⟨Int.ofNat d,by rw[List.getElem?_map,hd1];rfl,?_⟩
    refine dp (a:=false) (fun G=>⟨fun e=>?_,fun _=>?_⟩) ⟨(fun e=>by cases e),fun _=>⟨d,rfl,a,ha1,by rw[List.length_singleton];omega,by omega,hnx _ ⟨q,by dsimp only;rw[List.length_append,ht1];rfl,fun b=>?_⟩ (by dsimp only;omega)⟩⟩
    ·rw[Ee,decide_eq_true_eq] at e;omega
    ·rw[Ee,decide_eq_true hdl2];exact G
    ·dsimp only
     rw[aY,ht2,oH hd1]
     unfold rb
     constructor
     ·rintro (⟨j,m,e⟩|rfl)
      ·exact⟨j,List.mem_append_left _ m,e⟩
      ·exact⟨d,aY.2 (.inr rfl),ha1⟩
     ·rintro⟨j,m,e⟩
      rcases aY.1 m with m|rfl
      ·exact .inl ⟨j,m,e⟩
      ·rw[ha1] at e;cases e;exact .inr rfl
   ·have q:ds.length<=i:=hml ▸ bg.1 q
    rw[List.take_of_length_le q] at ht2
    exact⟨by omega,ht2⟩
  ·rintro td ⟨htl,htd⟩
   refine aD (fun s=>ExpI r (ksF c l).length (rb c l ds) ((ksF c l).length*257+ds.length) s.1 s.2) (fun s=>((ksF c l).length-cntT s.1)*257+s.2.length) (fun s=>s.length=(ksF c l).length/\∀ a,s.getD a false=true↔Rch r (rb c l ds) a) ?_ ?_ ?_
   ·rintro k ⟨bs,todo⟩ nx I hnx hk
    dsimp only at I
    refine⟨fun q=>?_,fun q=>hk _ ?_⟩
    ·have q:0<todo.length:=aT.1 q
     rcases List.eq_nil_or_concat todo with e|⟨p,a,e⟩
     ·rw[e] at q;cases q
     ·rw[List.concat_eq_append] at e
      subst e
      have hpl:(p++[a]).length-1=p.length:=by rw[List.length_append,List.length_singleton];omega
      have hlast:(p++[a])[(p++[a]).length-1]?=some a:=by rw[hpl];simp
      have htake:(p++[a]).take ((p++[a]).length-1)=p:=by rw[hpl];simp
      have hm:=I.msr
      obtain⟨han,har⟩:=I.tod a (aY.2 (.inr rfl))
      obtain⟨v,hv⟩:=aC (l:=bs) (i:=a) (by rw[I.len];exact han)
      have hfl:=xg r a
      rw[List.length_append,List.length_singleton] at hm
      have hbig:p.length<=65536*257+65536:=by
       have:(ksF c l).length*257<=65536*257:=Nat.mul_le_mul_right _ hks
       omega
      refine⟨q,by rw[List.length_append,List.length_singleton];omega,a,hlast,q,by rw[List.length_append,List.length_singleton];omega,Nat.sub_le _ _,by rw[hRl];exact han,v,hv,fun e=>?_,fun e=>?_⟩
      ·have e:v=false:=by simpa using e
       subst e
       have hc:=xa hv
       have hcl:=B9 (bs.set a true)
       rw[List.length_set,I.len] at hcl
       rw[htake]
       have hmul:((ksF c l).length-cntT (bs.set a true))*257+257=((ksF c l).length-cntT bs)*257:=by
        rw[hc] at hcl ⊢
        rw[<- Nat.succ_mul]
        congr 1
        omega
       refine⟨by rw[hRl];exact han,false,hv,by rw[hRl];exact han,_,hf2 a han,by omega,hnx _ ⟨(List.length_set ..).trans I.len,fun b hb=>?_,fun b hb=>?_,fun x b hx hb=>?_,fun b hb=>?_,?_⟩ ?_⟩
       ·rcases (uf (by rw[I.len];exact han)).1 hb with rfl|hb
        ·exact har
        ·exact I.snd b hb
       ·rcases List.mem_append.1 hb with m|m
        ·exact I.tod b (aY.2 (.inl m))
        ·have m:=vE.1 m
         exact⟨(hr.lt m).2,.step har m⟩
       ·rcases (uf (by rw[I.len];exact han)).1 hx with rfl|hx
        ·exact .inr (List.mem_append_right _ (vE.2 hb))
        ·rcases I.cls x b hx hb with q1|q1
         ·exact .inl ((uf (by rw[I.len];exact han)).2 (.inr q1))
         ·rcases aY.1 q1 with m|rfl
          ·exact .inr (List.mem_append_left _ m)
          ·exact .inl ((uf (by rw[I.len];exact han)).2 (.inl rfl))
       ·rcases I.st b hb with q1|q1
        ·exact .inl ((uf (by rw[I.len];exact han)).2 (.inr q1))
        ·rcases aY.1 q1 with m|rfl
         ·exact .inr (List.mem_append_left _ m)
         ·exact .inl ((uf (by rw[I.len];exact han)).2 (.inl rfl))
       ·dsimp only
        rw[List.length_append];omega
       ·dsimp only
        rw[List.length_append,List.length_append,List.length_singleton];omega
      ·have e:v=true:=by simpa using e
       subst e
       have hva:=Df hv
       rw[htake]
       refine hnx _ ⟨I.len,I.snd,fun b hb=>I.tod b (aY.2 (.inl hb)),fun x b hx hb=>?_,fun b hb=>?_,by dsimp only;omega⟩ (by dsimp only;rw[List.length_append,List.length_singleton];omega)
       ·rcases I.cls x b hx hb with q1|q1
        ·exact .inl q1
        ·rcases aY.1 q1 with m|rfl
         ·exact .inr m
         ·exact .inl hva
       ·rcases I.st b hb with q1|q1
        ·exact .inl q1
        ·rcases aY.1 q1 with m|rfl
         ·exact .inr m
         ·exact .inl hva
    ·have q:todo.length<=0:=bg.1 q
     have e:todo=[]:=List.length_eq_zero_iff.1 (by omega)
     subst e
     exact⟨I.len,I.done⟩
   ·have hz:∀ a,(List.replicate (ksF c l).length false).getD a false=false:=by
     intro a
     rw[List.getD,List.getElem?_replicate]
     split <;> rfl
    rw[hRl]
    refine⟨List.length_replicate ..,fun a ha=>?_,fun a ha=>?_,fun a b ha _=>?_,fun a ha=>.inr ((htd a).2 ha),?_⟩
    ·dsimp only at ha;rw[hz] at ha;cases ha
    ·have:=(htd a).1 ha
     obtain⟨i,m,e⟩:=this
     obtain⟨b,hb1,hb2⟩:=uP (c:=c) (hd i m)
     rw[hb1] at e;cases e
     exact⟨hb2,.base ⟨i,m,hb1⟩⟩
    ·dsimp only at ha;rw[hz] at ha;cases ha
    ·dsimp only
     rw[htl]
     have:((ksF c l).length-cntT (List.replicate (ksF c l).length false))*257<=(ksF c l).length*257:=Nat.mul_le_mul_right _ (Nat.sub_le _ _)
     omega
   ·rintro bs ⟨hbl,hbs⟩
    have hosl:(osN c l).length=l.length:=List.length_map ..
    refine aD (fun s=>s.2<=l.length/\s.1=qA c l bs s.2) (fun s=>l.length-s.2) (fun s=>s=qA c l bs l.length) ?_ ⟨Nat.zero_le _,rfl⟩ (fun _ e=>e ▸ h r bs hr hbs)
    rintro k ⟨out,i⟩ nx ⟨hi,ho⟩ hnx hk
    dsimp only at hi ho
    refine⟨fun q=>?_,fun q=>hk _ ?_⟩
    ·have q:i<l.length:=hosl ▸ aT.1 q
     obtain⟨a,ha1,ha2⟩:=uP (c:=c) q
     have hol:out.length<=i:=by
      rw[ho];unfold qA
      exact Nat.le_trans (List.length_filter_le _ _) (by rw[List.length_range];exact Nat.le_refl _)
     have hsucc:qA c l bs (i+1)=qA c l bs i++if bs.getD a false=true then [i] else []:=by
      unfold qA
      rw[yQ]
      have:(osN c l).getD i 0=a:=by rw[List.getD,ha1];rfl
      rw[this]
     obtain⟨v,hv⟩:=aC (l:=bs) (i:=a) (by rw[hbl];exact ha2)
     have hva:=Df hv
     refine gZ (fun s=>s=qA c l bs (i+1)) (fun k2 hk2=>⟨a,ha1,by rw[hRl];exact ha2,v,hv,fun e=>⟨by rw[List.length_singleton];omega,hk2 _ ?_⟩,fun e=>hk2 _ ?_⟩) fun s hs=>⟨by omega,hnx _ ⟨q,hs⟩ (by dsimp only;omega)⟩
     ·rw[hsucc,hva,if_pos e,ho]
     ·rw[hsucc,hva,if_neg (by rw[e];decide),ho,List.append_nil]
    ·have q:l.length<=i:=hosl ▸ bg.1 q
     obtain rfl:i=l.length:=by omega
     exact ho
theorem zg {c:Circ} (C:Cir c) {l:List Flt} (hl:ListOk c l) {ds:List Nat} (hd:∀ i∈ds,i<l.length) (hdl:ds.length<=65536) {K:List Nat×Nat->Prop}
  (h:∀ r bs,DomOk c (ksF c l) r->(∀ a,bs.getD a false=true↔Rch r (rb c l ds) a)->K (qA c l bs l.length,0)):bH c l (ds.map Int.ofNat) K :=
 xt C hl (.inl ⟨ds,rfl,hd,hdl,h⟩)
def wH (x:CData):CData:=⟨x.inp,x.dffs,x.data0,x.data1,x.bus,false,x.port0,x.port1,x.port2,x.port3,x.gates,x.outs⟩
theorem AM {x:CData} (h:CB x):CB (wH x):=⟨h.inp,h.dffs,h.data0,h.data1,h.port0,h.port1,h.port2,h.port3,h.gates,h.outs⟩
theorem zX {x:CData} (hx:CB x) {K:Circ->Prop} (h:K (fU (wH x))):bY x K:=ya (AM hx) h
theorem AS {x:CData} (hm:x.mem=false):Cir (fU x):=by
 refine⟨Ad hm,by rw[mj,hm];rfl,fun i y h=>?_⟩
 rcases zr hm h with⟨_,rfl⟩|⟨_,_,d,_,rfl⟩|⟨h1,_,g,hg⟩
 ·show (0:Nat)<=14;decide
 ·show (14:Nat)<=14;decide
 ·have hi:=aj h
  have hn:(fU x).nodes.length=(cC x).length:=ic _
  have q:=wB x.bus g (ks:=((cC x).take i).map Node.kind) (by rw[List.length_map,List.length_take];omega)
  rw[<- hg] at q
  have:=q.kind
  omega
theorem Cm (c:Circ) (k:Nat):ofN c [k]=(List.range c.nodes.length).filter fun i=>decide (kd c i=k):=by
 unfold ofN kd
 congr 1
 funext i
 rw[Bool.eq_iff_iff]
 simp
def dM (c:Circ):List Flt:=kV 0 (nu c)
theorem sH {c:Circ} (C:Cir c):(nu c).length<=272:=by
 have:=lI C _ (Nat.le_refl _)
 have:=C.len
 unfold nu
 omega
theorem sk {c:Circ} (C:Cir c):(dM c).length<=544:=by
 have:=sH C
 unfold dM
 rw[wP];omega
theorem kf {c:Circ}{f:Flt}:f∈dM c ↔ ∃ s,VS c s/\f=fltS s:=by
 unfold dM kV nu gS
 rw[List.mem_flatMap]
 constructor
 ·rintro⟨x,hx,m⟩
  obtain⟨i,hi,hx⟩:=List.mem_flatMap.1 hx
  unfold tp at hx
  obtain⟨j,hj,rfl⟩:=List.mem_map.1 hx
  have hi:=List.mem_range.1 hi
  have hj:=List.mem_range.1 hj
  simp only[List.mem_cons,List.not_mem_nil,or_false] at m
  rcases m with rfl|rfl
  ·exact⟨⟨i,j,0⟩,⟨hi,by dsimp only;omega,by dsimp only;omega⟩,rfl⟩
  ·exact⟨⟨i,j,1⟩,⟨hi,by dsimp only;omega,by dsimp only;omega⟩,rfl⟩
 ·rintro⟨⟨n,p,v⟩,V,rfl⟩
  have h1:=V.node
  have h2:=V.pin
  have h3:=V.v
  dsimp only at h1 h2 h3
  refine⟨⟨n,Int.ofNat p-Int.ofNat 1⟩,List.mem_flatMap.2 ⟨n,List.mem_range.2 h1,?_⟩,?_⟩
  ·unfold tp
   exact List.mem_map.2 ⟨p,List.mem_range.2 (by omega),rfl⟩
  ·have:v=0\/v=1:=by omega
   simp only[List.mem_cons,List.not_mem_nil,or_false]
   rcases this with rfl|rfl
   ·exact .inl rfl
   ·exact .inr rfl
theorem yo {c:Circ} (C:Cir c):ListOk c (dM c):=by
 refine⟨Nat.le_trans (sk C) (by decide),fun f m _=>?_,fun f m K h=>?_⟩
 ·obtain⟨s,V,rfl⟩:=kf.1 m
  exact xC V
 ·obtain⟨s,V,rfl⟩:=kf.1 m
  exact ue C (xC V) h
theorem yD {c:Circ} (C:Cir c) {K:List Flt×Nat->Prop} (h:K (dM c,0)):gN c 0 K:=by
 have:=sH C
 exact⟨nu c,wC C rfl,by decide,by omega,h⟩
theorem A0 (x:CData):0<(fU x).nodes.length:=by
 have hn:(fU x).nodes.length=(cC x).length:=ic _
 rw[hn];exact AP _
theorem B0 {x:CData} (hx:CB x) {K:Circ×List Flt->Prop} (h:∀ c,Cir c->0<c.nodes.length->K (c,dM c)):cb x K:=by
 have C:Cir (fU (wH x)):=AS rfl
 unfold cb
 exact zX hx (yD C (h _ C (A0 _)))
theorem zI {c:Circ}{l:List Flt}{f g:Flt} (hf:f∈l) (hg:g∈l):gB c l f=gB c l g↔dL c f=dL c g:=by
 constructor
 ·intro e
  have h1:=qQ (iH.2 ⟨f,hf,rfl⟩:dL c f∈ksF c l)
  have h2:=qQ (iH.2 ⟨g,hg,rfl⟩:dL c g∈ksF c l)
  unfold gB at e
  rw[e,h2] at h1
  exact (Option.some.inj h1).symm
 ·intro e
  unfold gB;rw[e]
theorem Ai {c:Circ}{l:List Flt}{i:Nat}{row:List Nat} (h:(RN c l)[i]?=some row):∃ k,(ksF c l)[i]?=some k/\row=kU c l k:=by
 unfold RN at h
 rw[List.getElem?_map] at h
 obtain⟨k,hk,e⟩:=Option.map_eq_some_iff.1 h
 exact⟨k,hk,e.symm⟩
theorem CG {c:Circ}{l:List Flt}{i:Nat}{row:List Nat} (h:(RN c l)[i]?=some row) {m:Nat} (hm:m∈row):∃ f,l[m]?=some f/\gB c l f=i:=by
 obtain⟨k,hk,rfl⟩:=Ai h
 obtain⟨f,hf,e⟩:=rP.1 hm
 refine⟨f,hf,?_⟩
 unfold gB
 rw[e]
 exact Bq (tJ c l) hk
theorem DI {c:Circ}{l:List Flt} (h:0<l.length):0<(ksF c l).length:=by
 obtain⟨f,hf⟩:=aC h
 exact List.length_pos_of_mem (iH.2 ⟨f,List.mem_of_getElem? hf,rfl⟩)
theorem Bh {c:Circ} (h:0<c.nodes.length):0<(dM c).length :=
 List.length_pos_of_mem (kf.2 ⟨⟨0,0,0⟩,⟨h,Nat.zero_le _,by decide⟩,rfl⟩)
theorem Cl {a b:List Nat} (ha:a.length<2 ^ 60) {K:Bool->Prop} (h:K (decide (a=b))):aG a b K:=by
 unfold aG
 by_cases e:a.length=b.length
 ·refine dp (a:=false) (fun G=>⟨fun q=>absurd e (eK.1 q),fun _=>?_⟩) ⟨(fun q=>by cases q),fun _=>?_⟩
  ·have:neN a.length a.length=false:=qG.2 rfl
   rw[this];exact G
  ·refine aD (fun i=>i<=a.length/\a.take i=b.take i) (fun i=>a.length-i) (fun _=>a=b) ?_ ⟨Nat.zero_le _,rfl⟩ (fun _ q=>?_)
   ·rintro k i nx ⟨hi,hp⟩ hnx hk
    refine⟨fun q=>?_,fun q=>hk _ ?_⟩
    ·have q:i<a.length:=aT.1 q
     obtain⟨x,hx⟩:=aC q
     obtain⟨y,hy⟩:=aC (l:=b) (i:=i) (by omega)
     refine⟨x,hx,y,hy,fun q2=>?_,fun q2=>⟨by omega,hnx _ ⟨q,?_⟩ (by omega)⟩⟩
     ·have:a≠b:=by
       rintro rfl
       rw[hx] at hy;cases hy
       exact eK.1 q2 rfl
      rw[decide_eq_false this] at h;exact h
     ·rw[oH hx,oH hy,hp,qG.1 q2]
    ·have q:a.length<=i:=bg.1 q
     rw[List.take_of_length_le q,List.take_of_length_le (by omega)] at hp
     exact hp
   ·rw[decide_eq_true q] at h;exact h
 ·have:a≠b:=by rintro rfl;exact e rfl
  rw[decide_eq_false this] at h
  exact dp (a:=true) (fun G=>⟨fun _=>G,fun q=>absurd (qG.1 q) e⟩) ⟨fun _=>h,fun q=>by cases q⟩
theorem yS:RN bX (dM bX)=[[0,2,4,6,8],[1,7],[3,9],[5]]:=by decide +kernel
theorem CM:(ksF bX (dM bX)).length=4:=by decide +kernel
theorem BI:domRaw bX (ksF bX (dM bX)) 3=[⟨1,3⟩,⟨2,3⟩]:=by decide +kernel
theorem yV:osN bX (dM bX)=[0,1,0,2,0,3,0,1,0,2]:=by decide +kernel
theorem qW {r:List N2} (h:DomOk bX (ksF bX (dM bX)) r):r=[⟨1,3⟩,⟨2,3⟩]:=by
 refine tC h.sorted ?_ fun x=>?_
 ·refine List.Pairwise.cons (fun y m=>?_) (List.pairwise_singleton _ _)
  rw[List.mem_singleton] at m
  subst m
  exact .inl (by decide)
 ·rw[h.mem]
  show x∈domRaw bX (ksF bX (dM bX)) 3↔_
  rw[BI]
theorem zN:iY bX (dM bX) [⟨1,3⟩,⟨2,3⟩] 4=[0,1,3]:=by
 unfold iY kH
 rw[yS]
 decide +kernel
theorem BR {bs:List Bool} (h:∀ a,bs.getD a false=true↔Rch [⟨1,3⟩,⟨2,3⟩] (rb bX (dM bX) [7]) a):qA bX (dM bX) bs 10=[1,5,7]:=by
 have hst:∀ a,rb bX (dM bX) [7] a↔a=1:=by
  intro a
  unfold rb
  rw[yV]
  constructor
  ·rintro⟨i,m,e⟩
   rw[List.mem_singleton] at m
   subst m
   cases e;rfl
  ·rintro rfl
   exact⟨7,List.mem_singleton.2 rfl,rfl⟩
 have hR:∀ a,Rch [⟨1,3⟩,⟨2,3⟩] (rb bX (dM bX) [7]) a->a=1\/a=3:=by
  intro a ha
  induction ha with
  |base q=>exact .inl ((hst _).1 q)
  |step _ m _ =>
   simp only[List.mem_cons,List.not_mem_nil,or_false,N2.mk.injEq] at m
   omega
 have b0:bs.getD 0 false=false:=by
  rw[Bool.eq_false_iff];intro q
  have:=hR _ ((h 0).1 q);omega
 have b2:bs.getD 2 false=false:=by
  rw[Bool.eq_false_iff];intro q
  have:=hR _ ((h 2).1 q);omega
 have b1:bs.getD 1 false=true:=(h 1).2 (.base ((hst 1).2 rfl))
 have b3:bs.getD 3 false=true:=(h 3).2 (.step (.base ((hst 1).2 rfl)) (by simp))
 unfold qA
 rw[yV]
 have e:(List.range 10).filter (fun m=>bs.getD (([0,1,0,2,0,3,0,1,0,2]:List Nat).getD m 0) false)=(List.range 10).filter (fun m=>([false,true,false,true]:List Bool).getD (([0,1,0,2,0,3,0,1,0,2]:List Nat).getD m 0) false):=by
  refine List.filter_congr fun m hm=>?_
  have hm:=List.mem_range.1 hm
  have key:∀ q,q<4->bs.getD q false=([false,true,false,true]:List Bool).getD q false:=by
   intro q hq
   have:q=0\/q=1\/q=2\/q=3:=by omega
   rcases this with rfl|rfl|rfl|rfl
   ·exact b0
   ·exact b1
   ·exact b2
   ·exact b3
  refine key _ ?_
  have hall:∀ m,m<10->([0,1,0,2,0,3,0,1,0,2]:List Nat).getD m 0<4:=by decide
  exact hall m hm
 rw[e]
 decide
theorem xU {K:Bool->Prop} (h:K true):bJ K:=by
 have C:=Am
 have hl:=yo C
 have h0:neN 0 0=false:=qG.2 rfl
 unfold bJ cz
 refine yD C (sx C hl (tj C hl fun r hr=>Ce C hl fun r2 hr2=>?_))
 have e1:=qW hr
 have e2:=qW hr2
 subst e1 e2
 refine zg (ds:=[7]) C hl (fun i m=>?_) (by decide) fun r3 bs hr3 hbs=>?_
 ·rw[List.mem_singleton] at m
  subst m
  decide
 have e3:=qW hr3
 subst e3
 have hx:=BR hbs
 have hc:iY bX (dM bX) [⟨1,3⟩,⟨2,3⟩] (ksF bX (dM bX)).length=[0,1,3]:=by rw[CM];exact zN
 have hx:qA bX (dM bX) bs (dM bX).length=[1,5,7]:=hx
 dsimp only
 rw[hc,hx,yS]
 have ik:∀ (a b:List Nat) (K:Bool->Prop),a=b->a.length<2 ^ 60->K true->aG a b K:=fun a b K e q k=>Cl q (by rw[decide_eq_true e];exact k)
 refine dp (a:=false) (fun G=>⟨fun q=>absurd rfl (eK.1 q),fun _=>⟨fun q=>absurd rfl (eK.1 q),fun _=>⟨fun q=>absurd rfl (eK.1 q),fun _=>⟨fun q=>absurd rfl (eK.1 q),fun _=>⟨fun q=>absurd rfl (eK.1 q),fun _=>G⟩⟩⟩⟩⟩) ⟨(fun q=>by cases q),fun _=>?_⟩
 refine⟨_,rfl,ik _ _ _ rfl (by decide) ⟨fun _=>?_,fun q=>(by cases q)⟩⟩
 refine⟨_,rfl,ik _ _ _ rfl (by decide) ⟨fun _=>?_,fun q=>(by cases q)⟩⟩
 refine⟨_,rfl,ik _ _ _ rfl (by decide) ⟨fun _=>?_,fun q=>(by cases q)⟩⟩
 refine⟨_,rfl,ik _ _ _ rfl (by decide) ⟨fun _=>?_,fun q=>(by cases q)⟩⟩
 refine⟨_,rfl,fun _=>⟨_,rfl,fun _=>?_,fun q=>absurd q (by decide)⟩,fun q=>absurd q (by decide)⟩
 refine ik _ _ _ rfl (by decide) ⟨fun _=>?_,fun q=>(by cases q)⟩
 exact ik _ _ _ rfl (by decide) h
def gK (l:List Nat) (n most:Nat):List Nat:=(List.range n).map fun i=>if l.length=0 then 2 else l.getD (i%l.length) 0%most
theorem pQ (l:List Nat) (n most:Nat):gK l (n+1) most=gK l n most++[if l.length=0 then 2 else l.getD (n%l.length) 0%most]:=by
 unfold gK
 rw[List.range_succ,List.map_append];rfl
theorem tG {l:List Nat}{n most:Nat} (h0:0<most) (h4:most<=4):∀ v∈gK l n most,v<=3:=by
 intro v m
 obtain⟨i,_,rfl⟩:=List.mem_map.1 m
 split
 ·decide
 ·have:=Nat.mod_lt (l.getD (i%l.length) 0) h0;omega
theorem tV {l:List Nat}{n most:Nat} (hn:n<=16) (h0:0<most) {K:List Nat->Prop} (h:K (gK l n most)):bm l n most K:=by
 unfold bm
 refine aD (fun s=>s.2<=n/\s.1=gK l s.2 most) (fun s=>n-s.2) (fun r=>r=gK l n most) ?_ ⟨Nat.zero_le _,rfl⟩ fun r q=>q ▸ h
 rintro k ⟨r,i⟩ nx ⟨hi,hr⟩ hnx hk
 dsimp only at hi hr
 have hrl:r.length=i:=by rw[hr];unfold gK;simp
 refine⟨fun q=>?_,fun q=>hk _ ?_⟩
 ·have q:i<n:=aT.1 q
  refine gZ (fun r2=>r2=gK l (i+1) most) (fun k2 hk2=>⟨fun e=>⟨by rw[List.length_singleton];omega,hk2 _ ?_⟩,fun e=>?_⟩) fun r2 h2=>⟨by omega,hnx _ ⟨q,h2⟩ (by dsimp only;omega)⟩
  ·rw[pQ,if_pos (bM.1 e),hr]
  ·have hp:0<l.length:=Nat.pos_of_ne_zero (cw.1 e)
   obtain⟨x,hx⟩:=aC (Nat.mod_lt i hp)
   refine⟨hp,x,hx,h0,by rw[List.length_singleton];omega,hk2 _ ?_⟩
   have:l.getD (i%l.length) 0=x:=by rw[List.getD,hx];rfl
   rw[pQ,if_neg (cw.1 e),hr,this]
 ·have q:n<=i:=bg.1 q
  obtain rfl:i=n:=by omega
  exact hr
theorem tA {c:Circ} (hc:c.nodes.length<=16) {k:Nat}{K:Nat->Prop} (h:K (ofN c [k]).length):bn c k K:=by
 unfold bn
 rw[Cm] at h
 refine aD (fun s=>s.2<=c.nodes.length/\s.1=((List.range s.2).filter fun i=>decide (kd c i=k)).length) (fun s=>c.nodes.length-s.2) (fun r=>r=((List.range c.nodes.length).filter fun i=>decide (kd c i=k)).length) ?_ ⟨Nat.zero_le _,rfl⟩ (fun _ e=>e ▸ h)
 rintro kk ⟨m,i⟩ nx ⟨hi,hm⟩ hnx hk
 dsimp only at hi hm
 refine⟨fun q=>?_,fun q=>hk _ ?_⟩
 ·have q:i<c.nodes.length:=aT.1 q
  obtain⟨x,hx⟩:=aC q
  have hle:m<=i:=by rw[hm];exact uE
  refine dp (a:=((List.range (i+1)).filter fun i=>decide (kd c i=k)).length) (fun g=>⟨x,hx,fun e=>⟨by omega,?_⟩,fun e=>?_⟩) ⟨by omega,hnx _ ⟨q,rfl⟩ (by dsimp only;omega)⟩
  ·rw[yQ,if_pos (by rw[gz hx];exact decide_eq_true (bM.1 e)),List.length_append,<- hm] at g;exact g
  ·rw[yQ,if_neg (by rw[gz hx,decide_eq_true_eq];exact cw.1 e),List.append_nil,<- hm] at g;exact g
 ·have q:c.nodes.length<=i:=bg.1 q
  have:i=c.nodes.length:=by omega
  subst this
  exact hm
def Ah (c:Circ) (z:PData):Pat:=⟨gK z.inp (ofN c [0]).length 4,gK z.state (ofN c [14]).length 3⟩
theorem C2 (c:Circ) (z:PData):PatOk c (Ah c z) :=
 ⟨by unfold Ah gK;simp,by unfold Ah gK;simp,tG (by decide) (by decide),tG (by decide) (by decide)⟩
theorem CI {c:Circ} (C:Cir c) {z:PData}{K:Pat->Prop} (h:K (Ah c z)):eV z c K:=by
 have hlen:=C.len
 have l1:=fJ c [0]
 have l2:=fJ c [14]
 unfold eV
 exact tA hlen (tV (by omega) (by decide) (tA hlen (tV (by omega) (by decide) h)))
theorem zb {c:Circ} (C:Cir c) {p:Pat} (hp:PatOk c p) {f g:Flt} (hf:f∈dM c) (hg:g∈dM c) (h:gB c (dM c) f=gB c (dM c) g):jF c p f=jF c p g:=by
 have e:=(zI hf hg).1 h
 obtain⟨s,vs,rfl⟩:=kf.1 hf
 obtain⟨t,vt,rfl⟩:=kf.1 hg
 rw[sB,sB] at e
 exact Bl C hp vs vt (yW e)
structure ClsP (c:Circ) (D:Flt->Prop):Prop where
 same:∀ s t,VS c s->VS c t->clsN c s=clsN c t->D (fltS s)->D (fltS t)
 dom:∀ n j r,n<c.nodes.length->j<(insOf c n).length->steerR (kd c n)=some r->D (fltS (domPin n j r))->D (fltS (domOut n r))
theorem C5 {c:Circ} (C:Cir c) {p:Pat} (hp:PatOk c p) {f:Flt} (hf:f∈dM c) {K:Bool×Nat->Prop} (h:K (jF c p f,0)):cq c f p K:=by
 obtain⟨s,vs,rfl⟩:=kf.1 hf
 exact xv C hp (xC vs) h
theorem Ep {c:Circ} (C:Cir c):(RN c (dM c)).length<=544:=by
 rw[ph]
 exact Nat.le_trans (qM _ _) (sk C)
theorem Cu {c:Circ}{l:List Flt}{i:Nat}{row:List Nat} (h:(RN c l)[i]?=some row) {k m:Nat} (hm:row[k]?=some m):∃ f,l[m]?=some f/\f∈l/\gB c l f=i:=by
 obtain⟨f,h1,h2⟩:=CG h (List.mem_of_getElem? hm)
 exact⟨f,h1,List.mem_of_getElem? h1,h2⟩
theorem CT {c:Circ} (C:Cir c) {i:Nat}{row:List Nat} (h:(RN c (dM c))[i]?=some row):row.length<=544:=by
 obtain⟨k,_,rfl⟩:=Ai h
 exact Nat.le_trans (vz _ _ _) (sk C)
theorem lt0 (a:Nat):ltN a 0=false:=bg.2 (Nat.zero_le _)
theorem oT {x:CData} (hx:CB x) {z:PData}{K:Bool->Prop} (h:K true):bo x z K:=by
 unfold bo
 refine B0 hx fun c C hpos=>CI C ?_
 have hp:=C2 c z
 obtain⟨p,hpe⟩:∃ p,Ah c z=p:=⟨_,rfl⟩
 rw[hpe] at hp ⊢
 have hl:=yo C
 refine sx C hl ?_
 dsimp only
 have hk:0<(RN c (dM c)).length:=by rw[ph];exact DI (Bh hpos)
 have hRl:=Ep C
 refine dp (a:=false) (fun G=>⟨fun q=>absurd rfl (eK.1 q),fun _=>?_⟩) ⟨(fun q=>by cases q),fun _=>?_⟩
 ·have:eqN (RN c (dM c)).length 0=false:=cw.2 (by omega)
  rw[this];exact G
 ·refine dN (l:=RN c (dM c)) ?_ ?_ (xU h)
  ·intro k i nx row hrow hi hn
   have hrl:=CT C hrow
   refine⟨fun _=>?_,fun q=>by have:=bg.1 q;omega⟩
   refine aD (fun s=>s.2<=row.length/\(0<s.2->∀ f∈dM c,gB c (dM c) f=i->jF c p f=s.1)) (fun s=>row.length-s.2) (fun _=>True) ?_ ⟨Nat.zero_le _,fun q=>absurd q (Nat.lt_irrefl _)⟩ fun _ _=>⟨by omega,hn⟩
   rintro k2 ⟨first,m⟩ nx2 ⟨hm,hd⟩ hnx2 hk2
   dsimp only at hm hd
   refine⟨row,hrow,fun q=>?_,fun _=>hk2 _ trivial⟩
   have q:m<row.length:=aT.1 q
   obtain⟨j,hj⟩:=aC q
   obtain⟨f,hf,hfm,hfc⟩:=Cu hrow hj
   have hjl:=aj hf
   refine dp (a:=false) (fun G=>⟨row,hrow,j,hj,fun q=>?_,fun _=>⟨row,hrow,j,hj,?_⟩⟩) ⟨(fun q=>by cases q),fun _=>⟨row,hrow,j,hj,f,hf,C5 C hp hfm ?_⟩⟩
   ·rw[lt0] at q;cases q
   ·have:(!ltN j (dM c).length)=false:=by rw[Bool.not_eq_false'];exact aT.2 hjl
    rw[this];exact G
   ·refine dp (a:=false) (fun G=>⟨fun q=>absurd rfl (eK.1 q),fun _=>⟨fun q2=>?_,fun _=>G⟩⟩) ⟨(fun q=>by cases q),fun _=>⟨by omega,hnx2 _ ⟨q,fun _ g hg hgc=>?_⟩ (by dsimp only;omega)⟩⟩
    ·have e:=hd (aT.1 q2) f hfm hfc
     have e2:(jF c p f != first)=false:=by
      have e:jF c p f=first:=e
      rw[e,bne_self_eq_false]
     dsimp only
     rw[e2];exact G
    ·exact zb C hp hg hfm (hgc.trans hfc.symm)
  ·intro k i nx hi hk
   refine⟨fun q=>?_,fun _=>hk⟩
   have:=aT.1 q;omega
theorem B7 {x:shP.Den} (w:shP.wf x):∃ y:PData,PB y/\elV (!true) (shP.ba x)=CC y:=by
 obtain⟨a,b,u⟩:=x
 obtain⟨wa,wb,_⟩:=w
 obtain⟨a',q1,e1⟩:=oO wa
 obtain⟨b',q2,e2⟩:=oO wb
 refine⟨⟨a',b'⟩,⟨q1,q2⟩,?_⟩
 show Value.agg ⟨(Sh.slice shB).ba a++((Sh.slice shB).ba b++[])⟩=_
 rw[e1,e2];rfl
def dm:List (Sh×Bool):=[(shC,true),(shP,true)]
theorem ny (x:zD dm) (w:wfL dm x):FnV Tryz.prog NG vars 3 ⟨BQ dm x⟩ (.bool true):=by
 obtain⟨c,z,u⟩:=x
 obtain⟨wc,wz,_⟩:=w
 obtain⟨y,hy,e1⟩:=Ek wc
 obtain⟨q,_,e2⟩:=B7 wz
 have e:BQ dm (c,z,u)=[bD y,CC q]:=by
  show [elV (!true) (shC.ba c),elV (!true) (shP.ba z)]=_
  rw[e1,e2]
 rw[e]
 exact FnV.qL (enc:=Value.bool) (r:=true) (PureV.flat rfl) fun h hB=>fE (K:=fun r=>r=true) (oT hy rfl) hB
end Go.Proofs.YtobphhjcadjfjaaGreatDoor
