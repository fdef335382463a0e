/-
  W3, Co5, Cir12, Co7, Co8, Arg14, CollapsesDominance: parts of the proof.
-/
import Derived.Test.YtobphhjcadjfjaaGreatDoorSb51
namespace Go.Proofs.YtobphhjcadjfjaaGreatDoor
open Go.Abs
set_option maxRecDepth 100000
set_option maxHeartbeats 8000000
def iy (p0:Circ) (p1:List Flt) (p2:List Nat) (K:List Nat×Nat->Prop):Prop:=bJ p0 p1 (p2.map Int.ofNat) K
theorem lx {p0:Circ}{p1:List Flt}{p2:List Nat}{K:List Nat×Nat->Prop} (hm:iy p0 p1 p2 K) {h0:Heap} (hB:HasB vars h0):∃ r,K r/\CallD Tryz.prog NG 14 ⟨[az p0,(ah 5 aw) p1,(ah 1 i64) p2]⟩ h0 ((fun (r:List Nat×Nat)=>Value.tuple ⟨[(aR 1 i64) (r.1),i64 (r.2)]⟩) r) h0:=by
 have e:ah 1 z64 (p2.map Int.ofNat)=ah 1 i64 p2:=by unfold ah;rw[List.map_map];rfl
 rw[<- e]
 exact kT hm hB
def bn (p0:Circ) (p1:Nat) (K:Nat->Prop):Prop :=
 an (α:=Nat) (fun k2=>au (S:=(Nat×Nat)) (fun (v3,v4) nx5=>((ltN v4 p0.nodes.length)=true->an (α:=Nat) (fun k7=>∃ x8,p0.nodes[v4]?=some x8/\((eqN x8.kind p1)=true->v3+1<2 ^ 63/\k7 (v3+1))/\((eqN x8.kind p1)=false->k7 v3)) (fun v6=>v4+1<2 ^ 63/\nx5 (v6,(v4+1))))/\((ltN v4 p0.nodes.length)=false->k2 v3)) (0,0)) (fun v1=>K v1)
theorem eP {p0:Circ}{p1:Nat}{K:Nat->Prop} (hm:bn p0 p1 K) {h0:Heap} (hB:HasB vars h0):∃ r,K r/\CallD Tryz.prog NG 19 ⟨[az p0,n8 p1]⟩ h0 (i64 r) h0:=by
 unfold bn at hm
 refine fw Tryz.func19 hB (enc:=i64) (fun r=>PureV.flat rfl) fun O=>?_;conv=>whnf
 refine gX ?_
 refine fz ?_;refine gH ?_
 apply Cs;conv=>whnf
 apply Cs;refine gH ?_
 refine jn hm 25 [] (fun s=>s) (fun v1 h=>Own vars h0 [] h) (fun v1=>[(5,(i64 v1))]) (fun hm=>?_) ?_
 ·refine gX ?_
  refine lw 25 [1,2] (σ:=(Nat×Nat)) (fun s=>s) (fun (v3,v4) h=>Own vars h0 [] h) (fun (v3,v4)=>[(5,(i64 v3)),(6,(i64 v4))]) (0,0) hm O ?_
  clear hm;rintro⟨v3,v4⟩ nx5 base h hm O
  refine gX ?_
  refine br hm (fun hm=>?_) fun hm=>?_
  ·apply Cs;conv=>whnf
   refine jn hm 25 [1,2,6] (fun s=>s) (fun v6 h=>Own vars h0 [] h) (fun v6=>[(5,(i64 v6))]) (fun hm=>?_) ?_
   ·refine gX ?_
    refine atF hm fun x8 hx8 hm=>?_;refine gX ?_
    refine br hm (fun hm=>?_) fun hm=>?_
    ·refine gX ?_
     refine aM hm fun hm=>?_;refine gH ?_
     exact jx (v3+1) hm O
    ·refine gX ?_
     exact jx v3 hm O
   ·clear hm;rintro v6 base h hm O
    refine gX ?_
    refine aM hm fun hm=>?_;refine gH ?_
    exact jx (v6,(v4+1)) hm O
  ·refine gX ?_
   exact jx v3 hm O
 ·clear hm;rintro v1 base h hm O
  refine gX ?_
  exact fe hm O
def bo (p0:(List Nat)) (p1:Nat) (p2:Nat) (K:(List Nat)->Prop):Prop :=
 an (α:=(List Nat)) (fun k6=>au (S:=((List Nat)×Nat)) (fun (v8,v9) nx11=>((ltN v9 p1)=true->an (α:=(List Nat)) (fun k15=>((eqN p0.length 0)=true->(v8.length+([2]:(List Nat)).length)*1<=2 ^ 47/\k15 (v8++([2]:(List Nat))))/\((eqN p0.length 0)=false->0<p0.length/\∃ x18,p0[(v9%p0.length)]?=some x18/\0<p2/\(v8.length+([(x18%p2)]:(List Nat)).length)*1<=2 ^ 47/\k15 (v8++([(x18%p2)]:(List Nat))))) (fun v13=>v9+1<2 ^ 63/\nx11 (v13,(v9+1))))/\((ltN v9 p1)=false->k6 v8)) (([]:List Nat),0)) (fun v4=>K v4)
theorem eO {p0:(List Nat)}{p1:Nat}{p2:Nat}{K:(List Nat)->Prop} (hm:bo p0 p1 p2 K) {h0:Heap} (hB:HasB vars h0):∃ r,K r/\CallD Tryz.prog NG 18 ⟨[(ah 1 n8) p0,i64 p1,n8 p2]⟩ h0 ((ah 1 n8) r) h0:=by
 unfold bo at hm
 refine fw Tryz.func18 hB (enc:=(ah 1 n8)) (fun r=>dV (fun _=>ai.cons (PureV.flat rfl) ai.nil)) fun O=>?_;conv=>whnf
 apply Cs;conv=>whnf
 apply Cs;refine gH ?_
 have O:=O.aL (.cells (flatC ((([]:List Nat)).map n8)) false)
 apply Cs;conv=>whnf
 apply Cs;refine gH ?_
 have O:=O.aL (.cells (flatC ((([]:List Nat)).map n8)) false)
 refine jn (σ:=(List Nat)×Option Nat) hm 33 [] (fun s=>s.1) (fun (v4,a3) h=>(a3=none->v4=[])/\Own vars h0 [(a3,.cells (flatC (v4.map n8)) false)] h) (fun (v4,a3)=>[(7,(ag 1 a3 (v4.map n8)))]) (fun hm=>?_) ?_
 ·refine gX ?_
  refine lw 33 [0,1,2] (σ:=((List Nat)×Nat)×Option Nat) (fun s=>s.1) (fun ((v8,v9),a7) h=>(a7=none->v8=[])/\Own vars h0 [(a7,.cells (flatC (v8.map n8)) false)] h) (fun ((v8,v9),a7)=>[(7,(ag 1 a7 (v8.map n8))),(8,(i64 v9))]) ((([]:List Nat),0),none) hm ⟨(fun _=>rfl),(O.sel [0] (by decide))⟩ ?_
  clear hm;rintro⟨⟨v8,v9⟩,a7⟩ nx11 base h hm ⟨ha10,O⟩
  refine gX ?_
  refine br hm (fun hm=>?_) fun hm=>?_
  ·apply Cs;conv=>whnf
   refine jn (σ:=(List Nat)×Option Nat) hm 33 [0,1,2,8] (fun s=>s.1) (fun (v13,a12) h=>(a12=none->v13=[])/\Own vars h0 [(a12,.cells (flatC (v13.map n8)) false)] h) (fun (v13,a12)=>[(7,(ag 1 a12 (v13.map n8)))]) (fun hm=>?_) ?_
   ·refine gX ?_
    refine br hm (fun hm=>?_) fun hm=>?_
    ·refine gX ?_
     refine fz ?_;refine gH ?_
     refine O.apL (enc:=n8) (l:=v8) (new:=([2]:(List Nat))) 1 (.head _) ha10 hm fun a16 h ha17 O hm=>?_;refine gH ?_
     exact jx ((v8++([2]:(List Nat))),a16) hm ⟨ha17,O⟩
    ·refine gX ?_
     refine qQ hm fun hm=>?_;refine gH ?_
     refine atF hm fun x18 hx18 hm=>?_;refine gH ?_
     refine qQ hm fun hm=>?_;refine gH ?_
     refine fz ?_;refine gH ?_
     refine O.apL (enc:=n8) (l:=v8) (new:=([(x18%p2)]:(List Nat))) 1 (.head _) ha10 hm fun a19 h ha20 O hm=>?_;refine gH ?_
     exact jx ((v8++([(x18%p2)]:(List Nat))),a19) hm ⟨ha20,O⟩
   ·clear hm;rintro⟨v13,a12⟩ base h hm ⟨ha14,O⟩
    refine gX ?_
    refine aM hm fun hm=>?_;refine gH ?_
    exact jx ((v13,(v9+1)),a12) hm ⟨ha14,O⟩
  ·refine gX ?_
   exact jx (v8,a7) hm ⟨ha10,O⟩
 ·clear hm;rintro⟨v4,a3⟩ base h hm ⟨ha5,O⟩
  refine gX ?_
  exact⟨v4,hm,O.ext,fun h2 F=>O.iu F (Nat.le_refl _) (.head _) ha5 (fun _=>rfl)⟩
def fh (p0:PData) (p1:Circ) (K:Pat->Prop):Prop :=
 bn p1 0 (fun r3=>bo p0.inp r3 4 (fun r4=>bn p1 14 (fun r5=>bo p0.state r5 3 (fun r6=>K (⟨r4,r6⟩:Pat)))))
theorem qR {p0:PData}{p1:Circ}{K:Pat->Prop} (hm:fh p0 p1 K) {h0:Heap} (hB:HasB vars h0):∃ r,K r/\CallD Tryz.prog NG 8 ⟨[Dp p0,az p1]⟩ h0 (mc r) h0:=by
 unfold fh at hm
 refine fw Tryz.func8 hB (enc:=mc) (fun r=>A3 _) fun O=>?_;conv=>whnf
 refine gX ?_
 refine fz ?_;refine gH ?_
 refine fz ?_;refine gH ?_
 refine O.new (ak (l:=[(.slice none 0 0),(.slice none 0 0)]) rfl rfl rfl) fun g1 h O=>?_;refine gH ?_
 refine gX ?_
 refine dF ?_
 refine gX ?_
 refine dF ?_
 refine gX ?_
 refine ca (eP hm O.has) fun r3 hm=>?_;refine gH ?_
 refine⟨.inl (Ext.refl _),?_⟩;refine gH ?_
 refine ca (eO hm O.has) fun r4 hm=>?_;refine gH ?_
 refine⟨.inl (Ext.refl _),?_⟩;refine gH ?_
 refine dF ?_
 refine gX ?_
 refine dF ?_
 refine gX ?_
 refine ca (eP hm O.has) fun r5 hm=>?_;refine gH ?_
 refine⟨.inl (Ext.refl _),?_⟩;refine gH ?_
 refine ca (eO hm O.has) fun r6 hm=>?_;refine gH ?_
 refine⟨.inl (Ext.refl _),?_⟩;refine gH ?_
 refine O.stC 2 (.head _) [((ah 1 n8) r4),((ah 1 n8) r6)] fun h O=>?_;refine gH ?_
 refine gX ?_
 refine⟨_,aH rfl rfl (O.at (.head _)) rfl rfl (lbE rfl) rfl,?_⟩;conv=>whnf
 exact fe hm O
def cB  (K:(Circ×(List Flt))->Prop):Prop :=
 gZ (⟨([(⟨0,([]:(List Nat)),0,0⟩:Node),(⟨0,([]:(List Nat)),0,0⟩:Node),(⟨5,([0,1]:(List Nat)),0,0⟩:Node)]:(List Node)),([(⟨#[97]⟩:ByteArray),(⟨#[98]⟩:ByteArray),(⟨#[121]⟩:ByteArray)]:(List ByteArray)),([]:(List Memo)),([2]:(List Nat))⟩:Circ) 0 (fun r5=>K ((⟨([(⟨0,([]:(List Nat)),0,0⟩:Node),(⟨0,([]:(List Nat)),0,0⟩:Node),(⟨5,([0,1]:(List Nat)),0,0⟩:Node)]:(List Node)),([(⟨#[97]⟩:ByteArray),(⟨#[98]⟩:ByteArray),(⟨#[121]⟩:ByteArray)]:(List ByteArray)),[],([2]:(List Nat))⟩:Circ),r5.1))
theorem jP  {K:(Circ×(List Flt))->Prop} (hm:cB  K) {h0:Heap} (hB:HasB vars h0):∃ r,K r/\CallD Tryz.prog NG 25 ⟨[]⟩ h0 ((fun (r:(Circ×(List Flt)))=>Value.tuple ⟨[az (r.1),(ah 5 aw) (r.2)]⟩) r) h0:=by
 unfold cB at hm
 refine fw Tryz.func25 hB (enc:=(fun (r:(Circ×(List Flt)))=>Value.tuple ⟨[az (r.1),(ah 5 aw) (r.2)]⟩)) (fun r=>PureV.tup (ai.cons (mP _) (ai.cons (dV (fun _=>qd _)) (ai.nil)))) fun O=>?_;conv=>whnf
 refine gX ?_
 refine O.new (ak (l:=[(.slice none 0 0),(.slice none 0 0),(.slice none 0 0),(.slice none 0 0)]) rfl rfl rfl) fun g1 h O=>?_;refine gH ?_
 refine gX ?_
 refine fz ?_;refine gH ?_
 refine NewG.frzW rfl (VLe.els (s:=4) (es':=([(⟨0,([]:(List Nat)),0,0⟩:Node),(⟨0,([]:(List Nat)),0,0⟩:Node),(⟨5,([0,1]:(List Nat)),0,0⟩:Node)]).map al) rfl (cd (enc:=al) (s:=4) (fun _=>rfl) _) (LLe.cons (VLe.refl _ _) (LLe.cons (VLe.nil _ _) (LLe.cons (VLe.refl _ _) (LLe.cons (VLe.refl _ _) (LLe.cons (VLe.refl _ _) (LLe.cons (VLe.nil _ _) (LLe.cons (VLe.refl _ _) (LLe.cons (VLe.refl _ _) (LLe.cons (VLe.refl _ _) (LLe.cons (VLe.refl _ _) (LLe.cons (VLe.refl _ _) (LLe.cons (VLe.refl _ _) (LLe.nil _)))))))))))))) ?_;refine gH ?_
 refine fz ?_;refine gH ?_
 refine fz ?_;refine gH ?_
 refine O.new (ak (l:=[(.slice none 0 0),(.slice none 0 0),(.slice none 0 0),(.slice none 0 0)]) rfl rfl rfl) fun g3 h O=>?_;refine gH ?_
 refine O.stC 4 (.head _) [((ah 4 al) ([(⟨0,([]:(List Nat)),0,0⟩:Node),(⟨0,([]:(List Nat)),0,0⟩:Node),(⟨5,([0,1]:(List Nat)),0,0⟩:Node)]:(List Node))),((ah 1 Value.string) ([(⟨#[97]⟩:ByteArray),(⟨#[98]⟩:ByteArray),(⟨#[121]⟩:ByteArray)]:(List ByteArray))),(.slice none 0 0),((ah 1 i64) ([2]:(List Nat)))] fun h O=>?_;refine gX ?_
 refine ldA (O.at (.head _)) ?_;refine gH ?_
 refine caW (lk hm O.has) (LLe.cons (VLe.agg (LLe.cons (VLe.refl _ _) (LLe.cons (VLe.refl _ _) (LLe.cons (VLe.nil _ _) (LLe.cons (VLe.refl _ _) (LLe.nil _)))))) (LLe.cons (VLe.refl _ _) (LLe.nil _))) fun r5 hm=>?_;refine gX ?_
 refine ldA (O.at (.head _)) ?_;refine gH ?_
 refine O.stC 4 (.tail _ (.head _)) [((ah 4 al) ([(⟨0,([]:(List Nat)),0,0⟩:Node),(⟨0,([]:(List Nat)),0,0⟩:Node),(⟨5,([0,1]:(List Nat)),0,0⟩:Node)]:(List Node))),((ah 1 Value.string) ([(⟨#[97]⟩:ByteArray),(⟨#[98]⟩:ByteArray),(⟨#[121]⟩:ByteArray)]:(List ByteArray))),(.slice none 0 0),((ah 1 i64) ([2]:(List Nat)))] fun h O=>?_;refine gX ?_
 refine⟨_,aH rfl rfl (O.at (.tail _ (.head _))) rfl rfl (lbE rfl) rfl,?_⟩;conv=>whnf
 exact⟨((⟨([(⟨0,([]:(List Nat)),0,0⟩:Node),(⟨0,([]:(List Nat)),0,0⟩:Node),(⟨5,([0,1]:(List Nat)),0,0⟩:Node)]:(List Node)),([(⟨#[97]⟩:ByteArray),(⟨#[98]⟩:ByteArray),(⟨#[121]⟩:ByteArray)]:(List ByteArray)),[],([2]:(List Nat))⟩:Circ),r5.1),hm,O.ext,fun h2 F=>VLe.tup (LLe.cons (VLe.agg (LLe.cons (VLe.refl _ _) (LLe.cons (VLe.refl _ _) (LLe.cons (VLe.nil _ _) (LLe.cons (VLe.refl _ _) (LLe.nil _)))))) (LLe.cons (VLe.refl _ _) (LLe.nil _)))⟩
def aG (p0:(List Nat)) (p1:(List Nat)) (K:Bool->Prop):Prop :=
 an (α:=Bool) (fun k2=>((neN p0.length p1.length)=true->k2 true)/\((neN p0.length p1.length)=false->k2 (neN p0.length p0.length))) (fun v1=>(v1=true->K false)/\(v1=false->an (α:=Unit) (fun k3=>au (S:=Nat) (fun v4 nx5=>((ltN v4 p0.length)=true->∃ x6,p0[v4]?=some x6/\∃ x7,p1[v4]?=some x7/\((neN x6 x7)=true->K false)/\((neN x6 x7)=false->v4+1<2 ^ 63/\nx5 (v4+1)))/\((ltN v4 p0.length)=false->k3 ())) 0) (fun _=>K true)))
theorem bj {p0:(List Nat)}{p1:(List Nat)}{K:Bool->Prop} (hm:aG p0 p1 K) {h0:Heap} (hB:HasB vars h0):∃ r,K r/\CallD Tryz.prog NG 15 ⟨[(aR 1 i64) p0,(ah 1 i64) p1]⟩ h0 (Value.bool r) h0:=by
 unfold aG at hm
 refine fw Tryz.func15 hB (enc:=Value.bool) (fun r=>PureV.flat rfl) fun O=>?_;conv=>whnf
 apply Cs;conv=>whnf
 apply Cs;refine gH ?_
 apply Cs;conv=>whnf
 refine jn hm 33 [0,1] (fun s=>s) (fun v1 h=>Own vars h0 [] h) (fun v1=>[(17,(.bool v1))]) (fun hm=>?_) ?_
 ·refine gX ?_
  refine lmC ?_;refine gH ?_
  refine br hm (fun hm=>?_) fun hm=>?_
  ·refine gX ?_
   exact jx true hm O
  ·refine gX ?_
   refine cpC ?_;refine gH ?_
   refine lmC ?_;refine gH ?_
   exact jx (neN p0.length p0.length) hm O
 ·clear hm;rintro v1 base h hm O
  refine gX ?_
  refine br hm (fun hm=>?_) fun hm=>?_
  ·refine gX ?_
   exact fe hm O
  ·apply Cs;conv=>whnf
   refine jn hm 33 [] (fun s=>s) (fun _ h=>Own vars h0 [] h) (fun _=>[]) (fun hm=>?_) ?_
   ·refine gX ?_
    refine lw 33 [0,1] (σ:=Nat) (fun s=>s) (fun v4 h=>Own vars h0 [] h) (fun v4=>[(5,(i64 v4))]) 0 hm O ?_
    clear hm;rintro v4 nx5 base h hm O
    refine gX ?_
    refine lmC ?_;refine gX ?_
    refine br hm (fun hm=>?_) fun hm=>?_
    ·refine gX ?_
     refine atC hm fun x6 hx6 hm=>?_;refine gH ?_
     refine atF hm fun x7 hx7 hm=>?_;refine gX ?_
     refine br hm (fun hm=>?_) fun hm=>?_
     ·refine gX ?_
      exact fe hm O
     ·refine gX ?_
      refine aM hm fun hm=>?_;refine gH ?_
      exact jx (v4+1) hm O
    ·refine gX ?_
     exact jx () hm O
   ·clear hm;rintro _ base h hm O
    refine gX ?_
    exact fe hm O
def bI  (K:Bool->Prop):Prop :=
 cB  (fun r1=>bK r1.1 r1.2 (fun r4=>bp r1.1 r1.2 (fun r5=>cX r1.1 r1.2 (fun r6=>iy r1.1 r1.2 ([7]:(List Nat)) (fun r7=>an (α:=Bool) (fun k9=>((neN r4.2 0)=true->k9 true)/\((neN r4.2 0)=false->((neN r5.2 0)=true->k9 true)/\((neN r5.2 0)=false->((neN r6.2 0)=true->k9 true)/\((neN r6.2 0)=false->((neN r7.2 0)=true->k9 true)/\((neN r7.2 0)=false->((neN r4.1.length 4)=true->k9 true)/\((neN r4.1.length 4)=false->k9 (neN r5.1.length 2))))))) (fun v8=>(v8=true->K false)/\(v8=false->∃ x10,r4.1[0]?=some x10/\aG x10 ([0,2,4,6,8]:(List Nat)) (fun r11=>(r11=true->∃ x12,r4.1[1]?=some x12/\aG x12 ([1,7]:(List Nat)) (fun r13=>(r13=true->∃ x14,r4.1[2]?=some x14/\aG x14 ([3,9]:(List Nat)) (fun r15=>(r15=true->∃ x16,r4.1[3]?=some x16/\aG x16 ([5]:(List Nat)) (fun r17=>(r17=true->∃ x18,r5.1[0]?=some x18/\(((eqN x18.a 1)&&((eqN x18.b 3)&&true))=true->∃ x19,r5.1[1]?=some x19/\(((eqN x19.a 2)&&((eqN x19.b 3)&&true))=true->aG r6.1 ([0,1,3]:(List Nat)) (fun r20=>(r20=true->aG r7.1 ([1,5,7]:(List Nat)) (fun r21=>K r21))/\(r20=false->K false)))/\(((eqN x19.a 2)&&((eqN x19.b 3)&&true))=false->K false))/\(((eqN x18.a 1)&&((eqN x18.b 3)&&true))=false->K false))/\(r17=false->K false)))/\(r15=false->K false)))/\(r13=false->K false)))/\(r11=false->K false)))))))))
theorem jq  {K:Bool->Prop} (hm:bI  K) {h0:Heap} (hB:HasB vars h0):∃ r,K r/\CallD Tryz.prog NG 11 ⟨[]⟩ h0 (Value.bool r) h0:=by
 unfold bI at hm
 refine fw Tryz.func11 hB (enc:=Value.bool) (fun r=>PureV.flat rfl) fun O=>?_;conv=>whnf
 refine gX ?_
 refine ca (jP hm O.has) fun r1 hm=>?_;refine gH ?_
 refine O.new (ak (l:=[nS,nS,nS,nS]) rfl rfl rfl) fun g2 h O=>?_;refine gH ?_
 refine O.stC 4 (.head _) [((ah 4 al) r1.1.nodes),((ah 1 Value.string) r1.1.names),((ah 3 aA) r1.1.mems),((ah 1 i64) r1.1.outs)] fun h O=>?_;refine gX ?_
 refine ldA (O.at (.head _)) ?_;refine gH ?_
 refine ca (gz hm O.has) fun r4 hm=>?_;refine gX ?_
 refine ldA (O.at (.head _)) ?_;refine gH ?_
 refine ca (eR hm O.has) fun r5 hm=>?_;refine gX ?_
 refine ldA (O.at (.head _)) ?_;refine gH ?_
 refine ca (mU hm O.has) fun r6 hm=>?_;refine gX ?_
 refine ldA (O.at (.head _)) ?_;refine gH ?_
 refine fz ?_;refine gH ?_
 refine ca (lx hm O.has) fun r7 hm=>?_;refine gH ?_
 apply Cs;conv=>whnf
 refine jn hm 114 [3,5,7,9] (fun s=>s) (fun v8 h=>Own vars h0 [] h) (fun v8=>[(63,(.bool v8))]) (fun hm=>?_) ?_
 ·refine gX ?_
  refine br hm (fun hm=>?_) fun hm=>?_
  ·refine gX ?_
   refine bt ?_;refine gH ?_
   refine bt ?_;refine gH ?_
   refine bt ?_;refine gH ?_
   refine bt ?_;refine gH ?_
   exact jx true hm (O.sel [] (by decide))
  ·refine gX ?_
   refine br hm (fun hm=>?_) fun hm=>?_
   ·refine gX ?_
    refine bt ?_;refine gH ?_
    refine bt ?_;refine gH ?_
    refine bt ?_;refine gH ?_
    exact jx true hm (O.sel [] (by decide))
   ·refine gX ?_
    refine br hm (fun hm=>?_) fun hm=>?_
    ·refine gX ?_
     refine bt ?_;refine gH ?_
     refine bt ?_;refine gH ?_
     exact jx true hm (O.sel [] (by decide))
    ·refine gX ?_
     refine br hm (fun hm=>?_) fun hm=>?_
     ·refine gX ?_
      refine bt ?_;refine gH ?_
      exact jx true hm (O.sel [] (by decide))
     ·refine gX ?_
      refine lmC ?_;refine gH ?_
      refine br hm (fun hm=>?_) fun hm=>?_
      ·refine gX ?_
       exact jx true hm (O.sel [] (by decide))
      ·refine gX ?_
       exact jx (neN r5.1.length 2) hm (O.sel [] (by decide))
 ·clear hm;rintro v8 base h hm O
  refine gX ?_
  refine br hm (fun hm=>?_) fun hm=>?_
  ·refine gX ?_
   exact fe hm O
  ·refine gX ?_
   refine atC hm fun x10 hx10 hm=>?_;refine gH ?_
   refine fz ?_;refine gH ?_
   refine ca (bj hm O.has) fun r11 hm=>?_;refine gH ?_
   refine br hm (fun hm=>?_) fun hm=>?_
   ·refine gX ?_
    refine atC hm fun x12 hx12 hm=>?_;refine gH ?_
    refine fz ?_;refine gH ?_
    refine ca (bj hm O.has) fun r13 hm=>?_;refine gH ?_
    refine br hm (fun hm=>?_) fun hm=>?_
    ·refine gX ?_
     refine atC hm fun x14 hx14 hm=>?_;refine gH ?_
     refine fz ?_;refine gH ?_
     refine ca (bj hm O.has) fun r15 hm=>?_;refine gH ?_
     refine br hm (fun hm=>?_) fun hm=>?_
     ·refine gX ?_
      refine atC hm fun x16 hx16 hm=>?_;refine gH ?_
      refine fz ?_;refine gH ?_
      refine ca (bj hm O.has) fun r17 hm=>?_;refine gH ?_
      refine br hm (fun hm=>?_) fun hm=>?_
      ·refine gX ?_
       refine atF hm fun x18 hx18 hm=>?_;refine gH ?_
       refine⟨.bool ((eqN x18.a 1)&&((eqN x18.b 3)&&true)),by kernel_rfl,?_⟩;refine gH ?_
       refine br hm (fun hm=>?_) fun hm=>?_
       ·refine gX ?_
        refine atF hm fun x19 hx19 hm=>?_;refine gH ?_
        refine⟨.bool ((eqN x19.a 2)&&((eqN x19.b 3)&&true)),by kernel_rfl,?_⟩;refine gH ?_
        refine br hm (fun hm=>?_) fun hm=>?_
        ·refine gX ?_
         refine fz ?_;refine gH ?_
         refine ca (bj hm O.has) fun r20 hm=>?_;refine gH ?_
         refine br hm (fun hm=>?_) fun hm=>?_
         ·refine gX ?_
          refine fz ?_;refine gH ?_
          refine ca (bj hm O.has) fun r21 hm=>?_;refine gX ?_
          exact fe hm O
         ·refine gX ?_
          exact fe hm O
        ·refine gX ?_
         refine bf ?_;refine gX ?_
         exact fe hm O
       ·refine gX ?_
        refine bf ?_;refine gH ?_
        refine bf ?_;refine gX ?_
        exact fe hm O
      ·refine gX ?_
       refine bf ?_;refine gH ?_
       refine bf ?_;refine gH ?_
       refine bf ?_;refine gX ?_
       exact fe hm O
     ·refine gX ?_
      refine bf ?_;refine gH ?_
      refine bf ?_;refine gH ?_
      refine bf ?_;refine gH ?_
      refine bf ?_;refine gX ?_
      exact fe hm O
    ·refine gX ?_
     refine bf ?_;refine gH ?_
     refine bf ?_;refine gH ?_
     refine bf ?_;refine gH ?_
     refine bf ?_;refine gH ?_
     refine bf ?_;refine gX ?_
     exact fe hm O
   ·refine gX ?_
    refine bf ?_;refine gH ?_
    refine bf ?_;refine gH ?_
    refine bf ?_;refine gH ?_
    refine bf ?_;refine gH ?_
    refine bf ?_;refine gH ?_
    refine bf ?_;refine gX ?_
    exact fe hm O
def cb (p0:CData) (K:(Circ×(List Flt))->Prop):Prop :=
 bZ p0 (fun r3=>gZ r3 0 (fun r6=>K (r3,r6.1)))
theorem ke {p0:CData}{K:(Circ×(List Flt))->Prop} (hm:cb p0 K) {h0:Heap} (hB:HasB vars h0):∃ r,K r/\CallD Tryz.prog NG 7 ⟨[bE p0]⟩ h0 ((fun (r:(Circ×(List Flt)))=>Value.tuple ⟨[az (r.1),(ah 5 aw) (r.2)]⟩) r) h0:=by
 unfold cb at hm
 refine fw Tryz.func7 hB (enc:=(fun (r:(Circ×(List Flt)))=>Value.tuple ⟨[az (r.1),(ah 5 aw) (r.2)]⟩)) (fun r=>PureV.tup (ai.cons (mP _) (ai.cons (dV (fun _=>qd _)) (ai.nil)))) fun O=>?_;conv=>whnf
 refine gX ?_
 refine fz ?_;refine gH ?_
 refine O.new (ak (l:=[(.slice none 0 0),(.slice none 0 0),(.slice none 0 0),(.slice none 0 0)]) rfl rfl rfl) fun g1 h O=>?_;refine gH ?_
 refine gX ?_
 refine ca (iG hm O.has) fun r3 hm=>?_;refine gH ?_
 refine O.new (ak (l:=[(.slice none 0 0),(.slice none 0 0),(.slice none 0 0),(.slice none 0 0)]) rfl rfl rfl) fun g4 h O=>?_;refine gH ?_
 refine O.stC 4 (.head _) [((ah 4 al) r3.nodes),((ah 1 Value.string) r3.names),((ah 3 aA) r3.mems),((ah 1 i64) r3.outs)] fun h O=>?_;refine gX ?_
 refine ldA (O.at (.head _)) ?_;refine gH ?_
 refine ca (lk hm O.has) fun r6 hm=>?_;refine gX ?_
 refine ldA (O.at (.head _)) ?_;refine gH ?_
 refine O.stC 4 (.tail _ (.head _)) [((ah 4 al) r3.nodes),((ah 1 Value.string) r3.names),((ah 3 aA) r3.mems),((ah 1 i64) r3.outs)] fun h O=>?_;refine gX ?_
 refine⟨_,aH rfl rfl (O.at (.tail _ (.head _))) rfl rfl (lbE rfl) rfl,?_⟩;conv=>whnf
 exact⟨(r3,r6.1),hm,O.ext,fun h2 F=>VLe.tup (LLe.cons (VLe.refl _ _) (LLe.cons (VLe.refl _ _) (LLe.nil _)))⟩
def aX (p0:CData) (p1:PData) (K:Bool->Prop):Prop :=
 cb p0 (fun r1=>fh p1 r1.1 (fun r4=>bK r1.1 r1.2 (fun r7=>bp r1.1 r1.2 (fun r8=>an (α:=Bool) (fun k10=>((neN r7.2 0)=true->k10 true)/\((neN r7.2 0)=false->k10 (neN r8.2 0))) (fun v9=>(v9=true->K false)/\(v9=false->an (α:=Unit) (fun k11=>au (S:=Nat) (fun v12 nx13=>((ltN v12 r8.1.length)=true->∃ x14,r8.1[v12]?=some x14/\∃ x15,r8.1[v12]?=some x15/\an (α:=Bool) (fun k17=>((ltN x14.a 0)=true->k17 true)/\((ltN x14.a 0)=false->((ltN x15.b 0)=true->k17 true)/\((ltN x15.b 0)=false->((!ltN x14.a r7.1.length)=true->k17 true)/\((!ltN x14.a r7.1.length)=false->((!ltN x15.b r7.1.length)=true->k17 true)/\((!ltN x15.b r7.1.length)=false->((eqN x14.a x15.b)=true->k17 true)/\((eqN x14.a x15.b)=false->∃ x18,r7.1[x14.a]?=some x18/\((eqN x18.length 0)=true->k17 true)/\((eqN x18.length 0)=false->∃ x19,r7.1[x15.b]?=some x19/\((eqN x19.length 0)=true->k17 true)/\((eqN x19.length 0)=false->((ltN 0 v12)=true->1<=v12/\v12<2 ^ 63/\∃ x20,r8.1[(v12-1)]?=some x20/\((ltN x14.a x20.a)=true->k17 true)/\((ltN x14.a x20.a)=false->1<=v12/\v12<2 ^ 63/\∃ x21,r8.1[(v12-1)]?=some x21/\((eqN x14.a x21.a)=true->1<=v12/\v12<2 ^ 63/\∃ x22,r8.1[(v12-1)]?=some x22/\k17 (!ltN x22.b x15.b))/\((eqN x14.a x21.a)=false->k17 false)))/\((ltN 0 v12)=false->k17 false))))))))) (fun v16=>(v16=true->K false)/\(v16=false->∃ x23,r7.1[x14.a]?=some x23/\∃ x24,x23[0]?=some x24/\∃ x25,r1.2[x24]?=some x25/\bP r1.1 x25 r4 (fun r26=>∃ x27,r7.1[x15.b]?=some x27/\∃ x28,x27[0]?=some x28/\∃ x29,r1.2[x28]?=some x29/\bP r1.1 x29 r4 (fun r30=>an (α:=Bool) (fun k32=>((neN r26.2 0)=true->k32 true)/\((neN r26.2 0)=false->((neN r30.2 0)=true->k32 true)/\((neN r30.2 0)=false->(r26.1=true->k32 (!r30.1))/\(r26.1=false->k32 false)))) (fun v31=>(v31=true->K false)/\(v31=false->v12+1<2 ^ 63/\nx13 (v12+1))))))))/\((ltN v12 r8.1.length)=false->k11 ())) 0) (fun _=>bI  (fun r33=>K r33))))))))
theorem dN {p0:CData}{p1:PData}{K:Bool->Prop} (hm:aX p0 p1 K) {h0:Heap} (hB:HasB vars h0):∃ r,K r/\CallD Tryz.prog NG 4 ⟨[bE p0,Dp p1]⟩ h0 (Value.bool r) h0:=by
 unfold aX at hm
 refine fw Tryz.func4 hB (enc:=Value.bool) (fun r=>PureV.flat rfl) fun O=>?_;conv=>whnf
 refine gX ?_
 refine fz ?_;refine gH ?_
 refine fz ?_;refine gX ?_
 refine ca (ke hm O.has) fun r1 hm=>?_;refine gH ?_
 refine O.new (ak (l:=[nS,nS,nS,nS]) rfl rfl rfl) fun g2 h O=>?_;refine gH ?_
 refine O.stC 4 (.head _) [((ah 4 al) r1.1.nodes),((ah 1 Value.string) r1.1.names),((ah 3 aA) r1.1.mems),((ah 1 i64) r1.1.outs)] fun h O=>?_;refine gX ?_
 refine ldA (O.at (.head _)) ?_;refine gH ?_
 refine ca (qR hm O.has) fun r4 hm=>?_;refine gH ?_
 refine O.new (ak (l:=[nS,nS]) rfl rfl rfl) fun g5 h O=>?_;refine gH ?_
 refine O.stC 2 (.head _) [((ah 1 n8) r4.inp),((ah 1 n8) r4.state)] fun h O=>?_;refine gX ?_
 refine ldA (O.at (.tail _ (.head _))) ?_;refine gH ?_
 refine ca (gz hm O.has) fun r7 hm=>?_;refine gX ?_
 refine ldA (O.at (.tail _ (.head _))) ?_;refine gH ?_
 refine ca (eR hm O.has) fun r8 hm=>?_;refine gH ?_
 apply Cs;conv=>whnf
 refine jn hm 178 [5,6,7,8,10] (fun s=>s) (fun v9 h=>Own vars h0 [(sC g2 [((ah 4 al) r1.1.nodes),((ah 1 Value.string) r1.1.names),((ah 3 aA) r1.1.mems),((ah 1 i64) r1.1.outs)]),(sC g5 [((ah 1 n8) r4.inp),((ah 1 n8) r4.state)])] h) (fun v9=>[(44,(.bool v9))]) (fun hm=>?_) ?_
 ·refine gX ?_
  refine br hm (fun hm=>?_) fun hm=>?_
  ·refine gX ?_
   exact jx true hm (O.sel [1,0] (by decide))
  ·refine gX ?_
   exact jx (neN r8.2 0) hm (O.sel [1,0] (by decide))
 ·clear hm;rintro v9 base h hm O
  refine gX ?_
  refine br hm (fun hm=>?_) fun hm=>?_
  ·refine gX ?_
   exact fe hm O
  ·apply Cs;conv=>whnf
   refine jn hm 178 [] (fun s=>s) (fun _ h=>Own vars h0 [] h) (fun _=>[]) (fun hm=>?_) ?_
   ·refine gX ?_
    refine lw 178 [5,6,7,8,10] (σ:=Nat) (fun s=>s) (fun v12 h=>Own vars h0 [(sC g2 [((ah 4 al) r1.1.nodes),((ah 1 Value.string) r1.1.names),((ah 3 aA) r1.1.mems),((ah 1 i64) r1.1.outs)]),(sC g5 [((ah 1 n8) r4.inp),((ah 1 n8) r4.state)])] h) (fun v12=>[(12,(i64 v12))]) 0 hm O ?_
    clear hm;rintro v12 nx13 base h hm O
    refine gX ?_
    refine br hm (fun hm=>?_) fun hm=>?_
    ·refine gX ?_
     refine atF hm fun x14 hx14 hm=>?_;refine gH ?_
     refine jt rfl ?_;refine gX ?_
     refine atF hm fun x15 hx15 hm=>?_;refine gH ?_
     refine jt rfl ?_;refine gH ?_
     apply Cs;conv=>whnf
     refine jn hm 178 [5,6,7,8,10,12,13,14] (fun s=>s) (fun v16 h=>Own vars h0 [(sC g2 [((ah 4 al) r1.1.nodes),((ah 1 Value.string) r1.1.names),((ah 3 aA) r1.1.mems),((ah 1 i64) r1.1.outs)]),(sC g5 [((ah 1 n8) r4.inp),((ah 1 n8) r4.state)])] h) (fun v16=>[(133,(.bool v16))]) (fun hm=>?_) ?_
     ·refine gX ?_
      refine br hm (fun hm=>?_) fun hm=>?_
      ·refine gX ?_
       refine bt ?_;refine gH ?_
       refine bt ?_;refine gH ?_
       refine bt ?_;refine gH ?_
       refine bt ?_;refine gH ?_
       refine bt ?_;refine gH ?_
       refine bt ?_;refine gH ?_
       exact jx true hm O
      ·refine gX ?_
       refine br hm (fun hm=>?_) fun hm=>?_
       ·refine gX ?_
        refine bt ?_;refine gH ?_
        refine bt ?_;refine gH ?_
        refine bt ?_;refine gH ?_
        refine bt ?_;refine gH ?_
        refine bt ?_;refine gH ?_
        exact jx true hm O
       ·refine gX ?_
        refine lmC ?_;refine gH ?_
        refine br hm (fun hm=>?_) fun hm=>?_
        ·refine gX ?_
         refine bt ?_;refine gH ?_
         refine bt ?_;refine gH ?_
         refine bt ?_;refine gH ?_
         refine bt ?_;refine gH ?_
         exact jx true hm O
        ·refine gX ?_
         refine lmC ?_;refine gH ?_
         refine br hm (fun hm=>?_) fun hm=>?_
         ·refine gX ?_
          refine bt ?_;refine gH ?_
          refine bt ?_;refine gH ?_
          refine bt ?_;refine gH ?_
          exact jx true hm O
         ·refine gX ?_
          refine br hm (fun hm=>?_) fun hm=>?_
          ·refine gX ?_
           refine bt ?_;refine gH ?_
           refine bt ?_;refine gH ?_
           exact jx true hm O
          ·refine gX ?_
           refine atC hm fun x18 hx18 hm=>?_;refine gH ?_
           refine lmC ?_;refine gH ?_
           refine br hm (fun hm=>?_) fun hm=>?_
           ·refine gX ?_
            refine bt ?_;refine gH ?_
            exact jx true hm O
           ·refine gX ?_
            refine atC hm fun x19 hx19 hm=>?_;refine gH ?_
            refine lmC ?_;refine gH ?_
            refine br hm (fun hm=>?_) fun hm=>?_
            ·refine gX ?_
             exact jx true hm O
            ·refine gX ?_
             refine br hm (fun hm=>?_) fun hm=>?_
             ·refine gX ?_
              refine nb hm fun hm=>?_;refine gH ?_
              refine atF hm fun x20 hx20 hm=>?_;refine gH ?_
              refine jt rfl ?_;refine gH ?_
              refine br hm (fun hm=>?_) fun hm=>?_
              ·refine gX ?_
               exact jx true hm O
              ·refine gX ?_
               refine nb hm fun hm=>?_;refine gH ?_
               refine atF hm fun x21 hx21 hm=>?_;refine gH ?_
               refine jt rfl ?_;refine gH ?_
               refine br hm (fun hm=>?_) fun hm=>?_
               ·refine gX ?_
                refine nb hm fun hm=>?_;refine gH ?_
                refine atF hm fun x22 hx22 hm=>?_;refine gH ?_
                refine jt rfl ?_;refine gH ?_
                exact jx (!ltN x22.b x15.b) hm O
               ·refine gX ?_
                exact jx false hm O
             ·refine gX ?_
              exact jx false hm O
     ·clear hm;rintro v16 base h hm O
      refine gX ?_
      refine br hm (fun hm=>?_) fun hm=>?_
      ·refine gX ?_
       exact fe hm O
      ·refine gX ?_
       refine ldA (O.at (.head _)) ?_;refine gH ?_
       first|refine⟨.inr (.inr (aZ rfl (O.at (.head _)) rfl rfl (lbE rfl) rfl)),?_⟩|refine⟨.inr (.inl (by kernel_rfl)),?_⟩
       refine gX ?_
       refine atC hm fun x23 hx23 hm=>?_;refine gH ?_
       refine dF ?_
       refine gX ?_
       refine atC hm fun x24 hx24 hm=>?_;refine gH ?_
       refine atF hm fun x25 hx25 hm=>?_;refine gH ?_
       refine dF ?_
       refine gX ?_
       refine ldA (O.at (.tail _ (.head _))) ?_;refine gH ?_
       first|refine⟨.inr (.inr (aZ rfl (O.at (.tail _ (.head _))) rfl rfl (lbE rfl) rfl)),?_⟩|refine⟨.inr (.inl (by kernel_rfl)),?_⟩
       refine gX ?_
       refine ca (iv hm O.has) fun r26 hm=>?_;refine gH ?_
       refine⟨.inl (Ext.refl _),?_⟩;refine gH ?_
       refine gX ?_
       refine ldA (O.at (.head _)) ?_;refine gH ?_
       first|refine⟨.inr (.inr (aZ rfl (O.at (.head _)) rfl rfl (lbE rfl) rfl)),?_⟩|refine⟨.inr (.inl (by kernel_rfl)),?_⟩
       refine gX ?_
       refine atC hm fun x27 hx27 hm=>?_;refine gH ?_
       refine dF ?_
       refine gX ?_
       refine atC hm fun x28 hx28 hm=>?_;refine gH ?_
       refine atF hm fun x29 hx29 hm=>?_;refine gH ?_
       refine dF ?_
       refine gX ?_
       refine ldA (O.at (.tail _ (.head _))) ?_;refine gH ?_
       first|refine⟨.inr (.inr (aZ rfl (O.at (.tail _ (.head _))) rfl rfl (lbE rfl) rfl)),?_⟩|refine⟨.inr (.inl (by kernel_rfl)),?_⟩
       refine gX ?_
       refine ca (iv hm O.has) fun r30 hm=>?_;refine gH ?_
       refine⟨.inl (Ext.refl _),?_⟩;refine gH ?_
       refine jn hm 178 [5,6,7,8,10,12] (fun s=>s) (fun v31 h=>Own vars h0 [(sC g2 [((ah 4 al) r1.1.nodes),((ah 1 Value.string) r1.1.names),((ah 3 aA) r1.1.mems),((ah 1 i64) r1.1.outs)]),(sC g5 [((ah 1 n8) r4.inp),((ah 1 n8) r4.state)])] h) (fun v31=>[(176,(.bool v31))]) (fun hm=>?_) ?_
       ·refine gX ?_
        refine br hm (fun hm=>?_) fun hm=>?_
        ·refine gX ?_
         refine bt ?_;refine gH ?_
         exact jx true hm O
        ·refine gX ?_
         refine br hm (fun hm=>?_) fun hm=>?_
         ·refine gX ?_
          exact jx true hm O
         ·refine gX ?_
          refine br hm (fun hm=>?_) fun hm=>?_
          ·refine gX ?_
           exact jx (!r30.1) hm O
          ·refine gX ?_
           exact jx false hm O
       ·clear hm;rintro v31 base h hm O
        refine gX ?_
        refine br hm (fun hm=>?_) fun hm=>?_
        ·refine gX ?_
         exact fe hm O
        ·refine gX ?_
         refine aM hm fun hm=>?_;refine gH ?_
         exact jx (v12+1) hm O
    ·refine gX ?_
     exact jx () hm (O.sel [] (by decide))
   ·clear hm;rintro _ base h hm O
    refine gX ?_
    refine ca (jq hm O.has) fun r33 hm=>?_;refine gX ?_
    exact fe hm O
inductive Rch (r:List N2) (st:Nat->Prop):Nat->Prop
 |base {a:Nat}:st a->Rch r st a
 |step {a b:Nat}:Rch r st a->(⟨a,b⟩:N2)∈r->Rch r st b
def uU (r:List N2) (a:Nat):List Nat:=(r.filter fun x=>x.a==a).map N2.b
theorem wM {r:List N2}{a b:Nat}:b∈uU r a↔(⟨a,b⟩:N2)∈r:=by
 unfold uU
 rw[List.mem_map]
 constructor
 ·rintro⟨⟨a',b'⟩,m,rfl⟩
  obtain⟨m,e⟩:=List.mem_filter.1 m
  have e:a'=a:=by simpa using e
  rw[<- e]
  exact m
 ·intro m
  exact⟨⟨a,b⟩,List.mem_filter.2 ⟨m,by simp⟩,rfl⟩
theorem wK (r:List N2) (a:Nat):(uU r a).length<=r.length:=by
 unfold uU
 rw[List.length_map]
 exact List.length_filter_le _ _
theorem zN (r:List N2) (x:N2) (a:Nat):uU (r++[x]) a=uU r a++if x.a=a then [x.b] else []:=by
 unfold uU
 rw[List.filter_append,List.map_append]
 congr 1
 by_cases e:x.a=a
 ·simp[e]
 ·simp[e]
def cntT (bs:List Bool):Nat:=bs.count true
theorem CZ (bs:List Bool):cntT bs<=bs.length:=List.count_le_length
theorem xt:∀ {bs:List Bool}{a:Nat},bs[a]?=some false->cntT (bs.set a true)=cntT bs+1
 |[],_,h=>by cases h
 |b::bs,0,h=>by
  rw[List.getElem?_cons_zero] at h
  cases h
  unfold cntT
  rw[List.set_cons_zero,List.count_cons,List.count_cons]
  simp
 |b::bs,a+1,h=>by
  rw[List.getElem?_cons_succ] at h
  have:=xt h
  unfold cntT at this ⊢
  rw[List.set_cons_succ,List.count_cons,List.count_cons,this]
  omega
theorem DM {bs:List Bool}{a:Nat}{v:Bool} (h:bs[a]?=some v):bs.getD a false=v:=by rw[List.getD,h];rfl
theorem uf {bs:List Bool}{a b:Nat} (h:a<bs.length):(bs.set a true).getD b false=true↔b=a\/bs.getD b false=true:=by
 by_cases e:b=a
 ·subst e
  rw[List.getD,List.getElem?_set_self h]
  simp
 ·rw[List.getD,List.getElem?_set_ne (fun q=>e q.symm)]
  simp[e]
structure ExpI (r:List N2) (n:Nat) (st:Nat->Prop) (M:Nat) (bs:List Bool) (todo:List Nat):Prop where
 len:bs.length=n
 snd:∀ a,bs.getD a false=true->Rch r st a
 tod:∀ a∈todo,a<n/\Rch r st a
 cls:∀ a b,bs.getD a false=true->(⟨a,b⟩:N2)∈r->bs.getD b false=true\/b∈todo
 st:∀ a,st a->bs.getD a false=true\/a∈todo
 msr:(n-cntT bs)*257+todo.length<=M
theorem ExpI.done {r:List N2}{n M:Nat}{st:Nat->Prop}{bs:List Bool} (I:ExpI r n st M bs []) (a:Nat):bs.getD a false=true↔Rch r st a:=by
 refine⟨I.snd a,fun h=>?_⟩
 induction h with
 |base h=>exact (I.st _ h).resolve_right (fun m=>by cases m)
 |step _ m ih=>exact (I.cls _ _ ih m).resolve_right (fun m=>by cases m)
theorem E9 {a b:Nat}:ltI (Int.ofNat a) (Int.ofNat b)=decide (a<b):=by
 rw[dD]
 by_cases h:a<b
 ·rw[decide_eq_true h];exact decide_eq_true (Int.ofNat_lt.2 h)
 ·rw[decide_eq_false h];exact decide_eq_false (fun q=>h (Int.ofNat_lt.1 q))
def su (c:Circ) (l:List Flt) (ds:List Nat) (a:Nat):Prop:=∃ i∈ds,(osN c l)[i]?=some a
theorem vI {c:Circ}{l:List Flt}{i:Nat} (h:i<l.length):∃ a,(osN c l)[i]?=some a/\a<(ksF c l).length:=by
 obtain⟨f,hf⟩:=aB h
 refine⟨iC c l f,by unfold osN;rw[List.getElem?_map,hf];rfl,?_⟩
 exact List.idxOf_lt_length_iff.2 (kZ.2 ⟨f,List.mem_of_getElem? hf,rfl⟩)
def qU (c:Circ) (l:List Flt) (bs:List Bool) (i:Nat):List Nat:=(List.range i).filter fun m=>bs.getD ((osN c l).getD m 0) false
theorem yh {c:Circ} (C:Cir c) {l:List Flt} (hl:ListOk c l) {d:List Int}{K:List Nat×Nat->Prop}
  (hd:(∃ ds:List Nat,d=ds.map Int.ofNat/\(∀ i∈ds,i<l.length)/\ds.length<=65536/\∀ r bs,DomOk c (ksF c l) r->(∀ a,bs.getD a false=true↔Rch r (su c l ds) a)->K (qU c l bs l.length,0))\/∃ bad,d=[bad]/\(bad<0\/Int.ofNat l.length<=bad)/\K ([],1)) :
  bJ c l d K:=by
 have hlen:=hl.len
 have hks:=yc hl
 have hRl:=pA c l
 unfold bJ
 refine mH C hl.len hl.check ⟨(fun q=>absurd rfl (dR.1 q)),fun _=>iK C hl.len hl.stuck fun ps cs P=>⟨by omega,by omega,?_⟩⟩
 refine im (fun s=>∃ r,DomOk c (ksF c l) r/\s.2.length=(ksF c l).length/\∀ a,a<(ksF c l).length->s.2[a]?=some (uU r a)) (fun k hk=>jV C hks P.edge P.cs fun qs r hr=>?_) ?_
 ·have hrl:=hr.len
  refine aW (fun s=>s.2<=r.length/\s.1.length=(ksF c l).length/\∀ a,a<(ksF c l).length->s.1[a]?=some (uU (r.take s.2) a)) (fun s=>r.length-s.2) ?_ ⟨Nat.zero_le _,by rw[List.length_replicate];exact hRl,fun i hi=>?_⟩
  ·rintro⟨fs,t⟩ nx ⟨ht,hb1,hb2⟩ hnx
   dsimp only at ht hb1 hb2
   refine⟨fun q=>?_,fun q=>hk _ ⟨r,hr,hb1,?_⟩⟩
   ·have q:t<r.length:=aT.1 q
    obtain⟨x,hx⟩:=aB q
    have hlt:=hr.lt (List.mem_of_getElem? hx)
    have hfl:=wK (r.take t) x.a
    rw[List.length_take] at hfl
    refine⟨x,hx,by rw[hRl];exact hlt.1,_,hb2 x.a hlt.1,by rw[List.length_singleton];omega,by rw[hRl];exact hlt.1,by omega,hnx _ ⟨q,(List.length_set ..).trans hb1,fun a ha=>?_⟩ (by dsimp only;omega)⟩
    dsimp only
    rw[List.getElem?_set,pb hx,zN]
    by_cases e:x.a=a
    ·subst e
     rw[if_pos rfl,if_pos (by omega),if_pos rfl]
    ·rw[if_neg e,hb2 a ha,if_neg e,List.append_nil]
   ·have q:r.length<=t:=bd.1 q
    rw[List.take_of_length_le q] at hb2
    exact hb2
  ·rw[hRl,List.getElem?_replicate,if_pos hi];rfl
 ·rintro⟨qs,fs⟩ ⟨r,hr,hf1,hf2⟩
  have hrl:=hr.len
  dsimp only at hf1 hf2
  refine⟨by omega,by omega,?_⟩
  rcases hd with⟨ds,rfl,hd,hdl,h⟩|⟨bad,rfl,hb,h⟩
  case inr =>
   refine (show au _ _ from aW (fun s=>s=([],0)) (fun _=>0) ?_ rfl)
   rintro _ nx rfl _
   refine⟨fun _=>⟨bad,rfl,?_⟩,fun q=>absurd (bd.1 q) (by simp)⟩
   refine dn (a:=true) (fun G=>⟨fun _=>G,fun e=>?_⟩) ⟨fun _=>h,fun e=>(by cases e)⟩
   have e:ltI bad (Int.ofNat l.length)=false:=by
    have e0:=qH.1 e
    have:(Int.ofNat 0)=0:=rfl
    refine qH.2 ?_
    rcases hb with hb|hb
    ·omega
    ·exact hb
   rw[e];exact G
  refine aD (fun s=>s.2<=ds.length/\s.1.length=s.2/\∀ a,a∈s.1↔su c l (ds.take s.2) a) (fun s=>ds.length-s.2) (fun s=>s.length=ds.length/\∀ a,a∈s↔su c l ds a) ?_ ⟨Nat.zero_le _,rfl,fun a=>⟨fun m=>(by cases m),fun ⟨_,m,_⟩=>by cases m⟩⟩ ?_
  ·rintro k ⟨td,i⟩ nx ⟨hi,ht1,ht2⟩ hnx hk
   dsimp only at hi ht1 ht2
   have hml:(ds.map Int.ofNat).length=ds.length:=List.length_map ..
   refine⟨fun q=>?_,fun q=>hk _ ?_⟩
   ·have q:i<ds.length:=hml ▸ aT.1 q
    obtain⟨d,hd1⟩:=aB q
    have hdl2:=hd d (List.mem_of_getElem? hd1)
    obtain⟨a,ha1,ha2⟩:=vI (c:=c) hdl2
    refine⟨Int.ofNat d,by rw[List.getElem?_map,hd1];rfl,?_⟩
    refine dn (a:=false) (fun G=>⟨fun e=>?_,fun _=>?_⟩) ⟨(fun e=>by cases e),fun _=>⟨d,rfl,a,ha1,by rw[List.length_singleton];omega,by omega,hnx _ ⟨q,by dsimp only;rw[List.length_append,ht1];rfl,fun b=>?_⟩ (by dsimp only;omega)⟩⟩
    ·rw[E9,decide_eq_true_eq] at e;omega
    ·rw[E9,decide_eq_true hdl2];exact G
    ·dsimp only
     rw[ba,ht2,pb hd1]
     unfold su
     constructor
     ·rintro (⟨j,m,e⟩|rfl)
      ·exact⟨j,List.mem_append_left _ m,e⟩
      ·exact⟨d,ba.2 (.inr rfl),ha1⟩
     ·rintro⟨j,m,e⟩
      rcases ba.1 m with m|rfl
      ·exact .inl ⟨j,m,e⟩
      ·rw[ha1] at e;cases e;exact .inr rfl
   ·have q:ds.length<=i:=hml ▸ bd.1 q
    rw[List.take_of_length_le q] at ht2
    exact⟨by omega,ht2⟩
  ·rintro td ⟨htl,htd⟩
   refine aD (fun s=>ExpI r (ksF c l).length (su c l ds) ((ksF c l).length*257+ds.length) s.1 s.2) (fun s=>((ksF c l).length-cntT s.1)*257+s.2.length) (fun s=>s.length=(ksF c l).length/\∀ a,s.getD a false=true↔Rch r (su c l ds) a) ?_ ?_ ?_
   ·rintro k ⟨bs,todo⟩ nx I hnx hk
    dsimp only at I
    refine⟨fun q=>?_,fun q=>hk _ ?_⟩
    ·have q:0<todo.length:=aT.1 q
     rcases List.eq_nil_or_concat todo with e|⟨p,a,e⟩
     ·rw[e] at q;cases q
     ·rw[List.concat_eq_append] at e
      subst e
      have hpl:(p++[a]).length-1=p.length:=by rw[List.length_append,List.length_singleton];omega
      have hlast:(p++[a])[(p++[a]).length-1]?=some a:=by rw[hpl];simp
      have htake:(p++[a]).take ((p++[a]).length-1)=p:=by rw[hpl];simp
      have hm:=I.msr
      obtain⟨han,har⟩:=I.tod a (ba.2 (.inr rfl))
      obtain⟨v,hv⟩:=aB (l:=bs) (i:=a) (by rw[I.len];exact han)
      have hfl:=wK r a
      rw[List.length_append,List.length_singleton] at hm
      have hbig:p.length<=65536*257+65536:=by
       have:(ksF c l).length*257<=65536*257:=Nat.mul_le_mul_right _ hks
       omega
      refine⟨q,by rw[List.length_append,List.length_singleton];omega,a,hlast,q,by rw[List.length_append,List.length_singleton];omega,Nat.sub_le _ _,by rw[hRl];exact han,v,hv,fun e=>?_,fun e=>?_⟩
      ·have e:v=false:=by simpa using e
       subst e
       have hc:=xt hv
       have hcl:=CZ (bs.set a true)
       rw[List.length_set,I.len] at hcl
       rw[htake]
       have hmul:((ksF c l).length-cntT (bs.set a true))*257+257=((ksF c l).length-cntT bs)*257:=by
        rw[hc] at hcl ⊢
        rw[<- Nat.succ_mul]
        congr 1
        omega
       refine⟨by rw[hRl];exact han,false,hv,by rw[hRl];exact han,_,hf2 a han,by omega,hnx _ ⟨(List.length_set ..).trans I.len,fun b hb=>?_,fun b hb=>?_,fun x b hx hb=>?_,fun b hb=>?_,?_⟩ ?_⟩
       ·rcases (uf (by rw[I.len];exact han)).1 hb with rfl|hb
        ·exact har
        ·exact I.snd b hb
       ·rcases List.mem_append.1 hb with m|m
        ·exact I.tod b (ba.2 (.inl m))
        ·have m:=wM.1 m
         exact⟨(hr.lt m).2,.step har m⟩
       ·rcases (uf (by rw[I.len];exact han)).1 hx with rfl|hx
        ·exact .inr (List.mem_append_right _ (wM.2 hb))
        ·rcases I.cls x b hx hb with q1|q1
         ·exact .inl ((uf (by rw[I.len];exact han)).2 (.inr q1))
         ·rcases ba.1 q1 with m|rfl
          ·exact .inr (List.mem_append_left _ m)
          ·exact .inl ((uf (by rw[I.len];exact han)).2 (.inl rfl))
       ·rcases I.st b hb with q1|q1
        ·exact .inl ((uf (by rw[I.len];exact han)).2 (.inr q1))
        ·rcases ba.1 q1 with m|rfl
         ·exact .inr (List.mem_append_left _ m)
         ·exact .inl ((uf (by rw[I.len];exact han)).2 (.inl rfl))
       ·dsimp only
        rw[List.length_append];omega
       ·dsimp only
        rw[List.length_append,List.length_append,List.length_singleton];omega
      ·have e:v=true:=by simpa using e
       subst e
       have hva:=DM hv
       rw[htake]
       refine hnx _ ⟨I.len,I.snd,fun b hb=>I.tod b (ba.2 (.inl hb)),fun x b hx hb=>?_,fun b hb=>?_,by dsimp only;omega⟩ (by dsimp only;rw[List.length_append,List.length_singleton];omega)
       ·rcases I.cls x b hx hb with q1|q1
        ·exact .inl q1
        ·rcases ba.1 q1 with m|rfl
         ·exact .inr m
         ·exact .inl hva
       ·rcases I.st b hb with q1|q1
        ·exact .inl q1
        ·rcases ba.1 q1 with m|rfl
         ·exact .inr m
         ·exact .inl hva
    ·have q:todo.length<=0:=bd.1 q
     have e:todo=[]:=List.length_eq_zero_iff.1 (by omega)
     subst e
     exact⟨I.len,I.done⟩
   ·have hz:∀ a,(List.replicate (ksF c l).length false).getD a false=false:=by
     intro a
     rw[List.getD,List.getElem?_replicate]
     split <;> rfl
    rw[hRl]
    refine⟨List.length_replicate ..,fun a ha=>?_,fun a ha=>?_,fun a b ha _=>?_,fun a ha=>.inr ((htd a).2 ha),?_⟩
    ·dsimp only at ha;rw[hz] at ha;cases ha
    ·have:=(htd a).1 ha
     obtain⟨i,m,e⟩:=this
     obtain⟨b,hb1,hb2⟩:=vI (c:=c) (hd i m)
     rw[hb1] at e;cases e
     exact⟨hb2,.base ⟨i,m,hb1⟩⟩
    ·dsimp only at ha;rw[hz] at ha;cases ha
    ·dsimp only
     rw[htl]
     have:((ksF c l).length-cntT (List.replicate (ksF c l).length false))*257<=(ksF c l).length*257:=Nat.mul_le_mul_right _ (Nat.sub_le _ _)
     omega
   ·rintro bs ⟨hbl,hbs⟩
    have hosl:(osN c l).length=l.length:=List.length_map ..
    refine aD (fun s=>s.2<=l.length/\s.1=qU c l bs s.2) (fun s=>l.length-s.2) (fun s=>s=qU c l bs l.length) ?_ ⟨Nat.zero_le _,rfl⟩ (fun _ e=>e ▸ h r bs hr hbs)
    rintro k ⟨out,i⟩ nx ⟨hi,ho⟩ hnx hk
    dsimp only at hi ho
    refine⟨fun q=>?_,fun q=>hk _ ?_⟩
    ·have q:i<l.length:=hosl ▸ aT.1 q
     obtain⟨a,ha1,ha2⟩:=vI (c:=c) q
     have hol:out.length<=i:=by
      rw[ho];unfold qU
      exact Nat.le_trans (List.length_filter_le _ _) (by rw[List.length_range];exact Nat.le_refl _)
     have hsucc:qU c l bs (i+1)=qU c l bs i++if bs.getD a false=true then [i] else []:=by
      unfold qU
      rw[zk]
      have:(osN c l).getD i 0=a:=by rw[List.getD,ha1];rfl
      rw[this]
     obtain⟨v,hv⟩:=aB (l:=bs) (i:=a) (by rw[hbl];exact ha2)
     have hva:=DM hv
     refine im (fun s=>s=qU c l bs (i+1)) (fun k2 hk2=>⟨a,ha1,by rw[hRl];exact ha2,v,hv,fun e=>⟨by rw[List.length_singleton];omega,hk2 _ ?_⟩,fun e=>hk2 _ ?_⟩) fun s hs=>⟨by omega,hnx _ ⟨q,hs⟩ (by dsimp only;omega)⟩
     ·rw[hsucc,hva,if_pos e,ho]
     ·rw[hsucc,hva,if_neg (by rw[e];decide),ho,List.append_nil]
    ·have q:l.length<=i:=hosl ▸ bd.1 q
     obtain rfl:i=l.length:=by omega
     exact ho
theorem zV {c:Circ} (C:Cir c) {l:List Flt} (hl:ListOk c l) {ds:List Nat} (hd:∀ i∈ds,i<l.length) (hdl:ds.length<=65536) {K:List Nat×Nat->Prop}
  (h:∀ r bs,DomOk c (ksF c l) r->(∀ a,bs.getD a false=true↔Rch r (su c l ds) a)->K (qU c l bs l.length,0)):bJ c l (ds.map Int.ofNat) K :=
 yh C hl (.inl ⟨ds,rfl,hd,hdl,h⟩)
def xp (x:CData):CData:=⟨x.inp,x.dffs,x.data0,x.data1,x.bus,false,x.port0,x.port1,x.port2,x.port3,x.gates,x.outs⟩
theorem Co {x:CData} (h:CB x):CB (xp x):=⟨h.inp,h.dffs,h.data0,h.data1,h.port0,h.port1,h.port2,h.port3,h.gates,h.outs⟩
theorem Aw {x:CData} (hx:CB x) {K:Circ->Prop} (h:K (fN (xp x))):bZ x K:=yg (Co hx) h
theorem Bf {x:CData} (hm:x.mem=false):Cir (fN x):=by
 refine⟨Ae hm,by rw[mL,hm];rfl,fun i y h=>?_⟩
 rcases zU hm h with⟨_,rfl⟩|⟨_,_,d,_,rfl⟩|⟨h1,_,g,hg⟩
 ·show (0:Nat)<=14;decide
 ·show (14:Nat)<=14;decide
 ·have hi:=aj h
  have hn:(fN x).nodes.length=(cC x).length:=ic _
  have q:=wX x.bus g (ks:=((cC x).take i).map Node.kind) (by rw[List.length_map,List.length_take];omega)
  rw[<- hg] at q
  have:=q.kind
  omega
theorem Df (c:Circ) (k:Nat):ofN c [k]=(List.range c.nodes.length).filter fun i=>decide (kd c i=k):=by
 unfold ofN kd
 congr 1
 funext i
 rw[Bool.eq_iff_iff]
 simp
def dM (c:Circ):List Flt:=lu 0 (oc c)
theorem rL {c:Circ} (C:Cir c):(oc c).length<=272:=by
 have:=lF C _ (Nat.le_refl _)
 have:=C.len
 unfold oc
 omega
theorem wR {c:Circ} (C:Cir c):(dM c).length<=544:=by
 have:=rL C
 unfold dM
 rw[wW];omega
theorem oQ {c:Circ}{f:Flt}:f∈dM c ↔ ∃ s,VS c s/\f=fltS s:=by
 unfold dM lu oc gV
 rw[List.mem_flatMap]
 constructor
 ·rintro⟨x,hx,m⟩
  obtain⟨i,hi,hx⟩:=List.mem_flatMap.1 hx
  unfold tF at hx
  obtain⟨j,hj,rfl⟩:=List.mem_map.1 hx
  have hi:=List.mem_range.1 hi
  have hj:=List.mem_range.1 hj
  simp only[List.mem_cons,List.not_mem_nil,or_false] at m
  rcases m with rfl|rfl
  ·exact⟨⟨i,j,0⟩,⟨hi,by dsimp only;omega,by dsimp only;omega⟩,rfl⟩
  ·exact⟨⟨i,j,1⟩,⟨hi,by dsimp only;omega,by dsimp only;omega⟩,rfl⟩
 ·rintro⟨⟨n,p,v⟩,V,rfl⟩
  have h1:=V.node
  have h2:=V.pin
  have h3:=V.v
  dsimp only at h1 h2 h3
  refine⟨⟨n,Int.ofNat p-Int.ofNat 1⟩,List.mem_flatMap.2 ⟨n,List.mem_range.2 h1,?_⟩,?_⟩
  ·unfold tF
   exact List.mem_map.2 ⟨p,List.mem_range.2 (by omega),rfl⟩
  ·have:v=0\/v=1:=by omega
   simp only[List.mem_cons,List.not_mem_nil,or_false]
   rcases this with rfl|rfl
   ·exact .inl rfl
   ·exact .inr rfl
theorem zt {c:Circ} (C:Cir c):ListOk c (dM c):=by
 refine⟨Nat.le_trans (wR C) (by decide),fun f m _=>?_,fun f m K h=>?_⟩
 ·obtain⟨s,V,rfl⟩:=oQ.1 m
  exact yj V
 ·obtain⟨s,V,rfl⟩:=oQ.1 m
  exact uh C (yj V) h
theorem zg {c:Circ} (C:Cir c) {K:List Flt×Nat->Prop} (h:K (dM c,0)):gZ c 0 K:=by
 have:=rL C
 exact⟨oc c,wu C rfl,by decide,by omega,h⟩
theorem B8 (x:CData):0<(fN x).nodes.length:=by
 have hn:(fN x).nodes.length=(cC x).length:=ic _
 rw[hn];exact BU _
theorem AS {x:CData} (hx:CB x) {K:Circ×List Flt->Prop} (h:∀ c,Cir c->0<c.nodes.length->K (c,dM c)):cb x K:=by
 have C:Cir (fN (xp x)):=Bf rfl
 unfold cb
 exact Aw hx (zg C (h _ C (B8 _)))
theorem Ek {c:Circ}{l:List Flt}{i:Nat}{row:List Nat} (h:(RN c l)[i]?=some row):∃ k,(ksF c l)[i]?=some k/\row=lz c l k:=by
 unfold RN at h
 rw[List.getElem?_map] at h
 obtain⟨k,hk,e⟩:=Option.map_eq_some_iff.1 h
 exact⟨k,hk,e.symm⟩
theorem CK {c:Circ}{l:List Flt}{i:Nat}{row:List Nat} (h:(RN c l)[i]?=some row) {m:Nat} (hm:m∈row):∃ f,l[m]?=some f/\iC c l f=i:=by
 obtain⟨k,hk,rfl⟩:=Ek h
 obtain⟨f,hf,e⟩:=sU.1 hm
 refine⟨f,hf,?_⟩
 unfold iC
 rw[e]
 exact BM (tX c l) hk
theorem CM {a b:List Nat} (ha:a.length<2 ^ 60) {K:Bool->Prop} (h:K (decide (a=b))):aG a b K:=by
 unfold aG
 by_cases e:a.length=b.length
 ·refine dn (a:=false) (fun G=>⟨fun q=>absurd e (dR.1 q),fun _=>?_⟩) ⟨(fun q=>by cases q),fun _=>?_⟩
  ·have:neN a.length a.length=false:=pK.2 rfl
   rw[this];exact G
  ·refine aD (fun i=>i<=a.length/\a.take i=b.take i) (fun i=>a.length-i) (fun _=>a=b) ?_ ⟨Nat.zero_le _,rfl⟩ (fun _ q=>?_)
   ·rintro k i nx ⟨hi,hp⟩ hnx hk
    refine⟨fun q=>?_,fun q=>hk _ ?_⟩
    ·have q:i<a.length:=aT.1 q
     obtain⟨x,hx⟩:=aB q
     obtain⟨y,hy⟩:=aB (l:=b) (i:=i) (by omega)
     refine⟨x,hx,y,hy,fun q2=>?_,fun q2=>⟨by omega,hnx _ ⟨q,?_⟩ (by omega)⟩⟩
     ·have:a≠b:=by
       rintro rfl
       rw[hx] at hy;cases hy
       exact dR.1 q2 rfl
      rw[decide_eq_false this] at h;exact h
     ·rw[pb hx,pb hy,hp,pK.1 q2]
    ·have q:a.length<=i:=bd.1 q
     rw[List.take_of_length_le q,List.take_of_length_le (by omega)] at hp
     exact hp
   ·rw[decide_eq_true q] at h;exact h
 ·have:a≠b:=by rintro rfl;exact e rfl
  rw[decide_eq_false this] at h
  exact dn (a:=true) (fun G=>⟨fun _=>G,fun q=>absurd (pK.1 q) e⟩) ⟨fun _=>h,fun q=>by cases q⟩
theorem zD:RN bY (dM bY)=[[0,2,4,6,8],[1,7],[3,9],[5]]:=by decide +kernel
theorem Dj:(ksF bY (dM bY)).length=4:=by decide +kernel
theorem Bn:domRaw bY (ksF bY (dM bY)) 3=[⟨1,3⟩,⟨2,3⟩]:=by decide +kernel
theorem zc:osN bY (dM bY)=[0,1,0,2,0,3,0,1,0,2]:=by decide +kernel
theorem rQ {r:List N2} (h:DomOk bY (ksF bY (dM bY)) r):r=[⟨1,3⟩,⟨2,3⟩]:=by
 refine uH h.sorted ?_ fun x=>?_
 ·refine List.Pairwise.cons (fun y m=>?_) (List.pairwise_singleton _ _)
  rw[List.mem_singleton] at m
  subst m
  exact .inl (by decide)
 ·rw[h.mem]
  show x∈domRaw bY (ksF bY (dM bY)) 3↔_
  rw[Bn]
theorem AM:iZ bY (dM bY) [⟨1,3⟩,⟨2,3⟩] 4=[0,1,3]:=by
 unfold iZ lb
 rw[zD]
 decide +kernel
theorem B5 {bs:List Bool} (h:∀ a,bs.getD a false=true↔Rch [⟨1,3⟩,⟨2,3⟩] (su bY (dM bY) [7]) a):qU bY (dM bY) bs 10=[1,5,7]:=by
 have hst:∀ a,su bY (dM bY) [7] a↔a=1:=by
  intro a
  unfold su
  rw[zc]
  constructor
  ·rintro⟨i,m,e⟩
   rw[List.mem_singleton] at m
   subst m
   cases e;rfl
  ·rintro rfl
   exact⟨7,List.mem_singleton.2 rfl,rfl⟩
 have hR:∀ a,Rch [⟨1,3⟩,⟨2,3⟩] (su bY (dM bY) [7]) a->a=1\/a=3:=by
  intro a ha
  induction ha with
  |base q=>exact .inl ((hst _).1 q)
  |step _ m _ =>
   simp only[List.mem_cons,List.not_mem_nil,or_false,N2.mk.injEq] at m
   omega
 have b0:bs.getD 0 false=false:=by
  rw[Bool.eq_false_iff];intro q
  have:=hR _ ((h 0).1 q);omega
 have b2:bs.getD 2 false=false:=by
  rw[Bool.eq_false_iff];intro q
  have:=hR _ ((h 2).1 q);omega
 have b1:bs.getD 1 false=true:=(h 1).2 (.base ((hst 1).2 rfl))
 have b3:bs.getD 3 false=true:=(h 3).2 (.step (.base ((hst 1).2 rfl)) (by simp))
 unfold qU
 rw[zc]
 have e:(List.range 10).filter (fun m=>bs.getD (([0,1,0,2,0,3,0,1,0,2]:List Nat).getD m 0) false)=(List.range 10).filter (fun m=>([false,true,false,true]:List Bool).getD (([0,1,0,2,0,3,0,1,0,2]:List Nat).getD m 0) false):=by
  refine List.filter_congr fun m hm=>?_
  have hm:=List.mem_range.1 hm
  have key:∀ q,q<4->bs.getD q false=([false,true,false,true]:List Bool).getD q false:=by
   intro q hq
   have:q=0\/q=1\/q=2\/q=3:=by omega
   rcases this with rfl|rfl|rfl|rfl
   ·exact b0
   ·exact b1
   ·exact b2
   ·exact b3
  refine key _ ?_
  have hall:∀ m,m<10->([0,1,0,2,0,3,0,1,0,2]:List Nat).getD m 0<4:=by decide
  exact hall m hm
 rw[e]
 decide
theorem xT {K:Bool->Prop} (h:K true):bI K:=by
 have C:=BE
 have hl:=zt C
 have h0:neN 0 0=false:=pK.2 rfl
 unfold bI cB
 refine zg C (sB C hl (nf C hl fun r hr=>Dz C hl fun r2 hr2=>?_))
 have e1:=rQ hr
 have e2:=rQ hr2
 subst e1 e2
 refine zV (ds:=[7]) C hl (fun i m=>?_) (by decide) fun r3 bs hr3 hbs=>?_
 ·rw[List.mem_singleton] at m
  subst m
  decide
 have e3:=rQ hr3
 subst e3
 have hx:=B5 hbs
 have hc:iZ bY (dM bY) [⟨1,3⟩,⟨2,3⟩] (ksF bY (dM bY)).length=[0,1,3]:=by rw[Dj];exact AM
 have hx:qU bY (dM bY) bs (dM bY).length=[1,5,7]:=hx
 dsimp only
 rw[hc,hx,zD]
 have ik:∀ (a b:List Nat) (K:Bool->Prop),a=b->a.length<2 ^ 60->K true->aG a b K:=fun a b K e q k=>CM q (by rw[decide_eq_true e];exact k)
 refine dn (a:=false) (fun G=>⟨fun q=>absurd rfl (dR.1 q),fun _=>⟨fun q=>absurd rfl (dR.1 q),fun _=>⟨fun q=>absurd rfl (dR.1 q),fun _=>⟨fun q=>absurd rfl (dR.1 q),fun _=>⟨fun q=>absurd rfl (dR.1 q),fun _=>G⟩⟩⟩⟩⟩) ⟨(fun q=>by cases q),fun _=>?_⟩
 refine⟨_,rfl,ik _ _ _ rfl (by decide) ⟨fun _=>?_,fun q=>(by cases q)⟩⟩
 refine⟨_,rfl,ik _ _ _ rfl (by decide) ⟨fun _=>?_,fun q=>(by cases q)⟩⟩
 refine⟨_,rfl,ik _ _ _ rfl (by decide) ⟨fun _=>?_,fun q=>(by cases q)⟩⟩
 refine⟨_,rfl,ik _ _ _ rfl (by decide) ⟨fun _=>?_,fun q=>(by cases q)⟩⟩
 refine⟨_,rfl,fun _=>⟨_,rfl,fun _=>?_,fun q=>absurd q (by decide)⟩,fun q=>absurd q (by decide)⟩
 refine ik _ _ _ rfl (by decide) ⟨fun _=>?_,fun q=>(by cases q)⟩
 exact ik _ _ _ rfl (by decide) h
def gJ (l:List Nat) (n most:Nat):List Nat:=(List.range n).map fun i=>if l.length=0 then 2 else l.getD (i%l.length) 0%most
theorem qC (l:List Nat) (n most:Nat):gJ l (n+1) most=gJ l n most++[if l.length=0 then 2 else l.getD (n%l.length) 0%most]:=by
 unfold gJ
 rw[List.range_succ,List.map_append];rfl
theorem tN {l:List Nat}{n most:Nat} (h0:0<most) (h4:most<=4):∀ v∈gJ l n most,v<=3:=by
 intro v m
 obtain⟨i,_,rfl⟩:=List.mem_map.1 m
 split
 ·decide
 ·have:=Nat.mod_lt (l.getD (i%l.length) 0) h0;omega
theorem ud {l:List Nat}{n most:Nat} (hn:n<=16) (h0:0<most) {K:List Nat->Prop} (h:K (gJ l n most)):bo l n most K:=by
 unfold bo
 refine aD (fun s=>s.2<=n/\s.1=gJ l s.2 most) (fun s=>n-s.2) (fun r=>r=gJ l n most) ?_ ⟨Nat.zero_le _,rfl⟩ fun r q=>q ▸ h
 rintro k ⟨r,i⟩ nx ⟨hi,hr⟩ hnx hk
 dsimp only at hi hr
 have hrl:r.length=i:=by rw[hr];unfold gJ;simp
 refine⟨fun q=>?_,fun q=>hk _ ?_⟩
 ·have q:i<n:=aT.1 q
  refine im (fun r2=>r2=gJ l (i+1) most) (fun k2 hk2=>⟨fun e=>⟨by rw[List.length_singleton];omega,hk2 _ ?_⟩,fun e=>?_⟩) fun r2 h2=>⟨by omega,hnx _ ⟨q,h2⟩ (by dsimp only;omega)⟩
  ·rw[qC,if_pos (bG.1 e),hr]
  ·have hp:0<l.length:=Nat.pos_of_ne_zero (cA.1 e)
   obtain⟨x,hx⟩:=aB (Nat.mod_lt i hp)
   refine⟨hp,x,hx,h0,by rw[List.length_singleton];omega,hk2 _ ?_⟩
   have:l.getD (i%l.length) 0=x:=by rw[List.getD,hx];rfl
   rw[qC,if_neg (cA.1 e),hr,this]
 ·have q:n<=i:=bd.1 q
  obtain rfl:i=n:=by omega
  exact hr
theorem uC {c:Circ} (hc:c.nodes.length<=16) {k:Nat}{K:Nat->Prop} (h:K (ofN c [k]).length):bn c k K:=by
 unfold bn
 rw[Df] at h
 refine aD (fun s=>s.2<=c.nodes.length/\s.1=((List.range s.2).filter fun i=>decide (kd c i=k)).length) (fun s=>c.nodes.length-s.2) (fun r=>r=((List.range c.nodes.length).filter fun i=>decide (kd c i=k)).length) ?_ ⟨Nat.zero_le _,rfl⟩ (fun _ e=>e ▸ h)
 rintro kk ⟨m,i⟩ nx ⟨hi,hm⟩ hnx hk
 dsimp only at hi hm
 refine⟨fun q=>?_,fun q=>hk _ ?_⟩
 ·have q:i<c.nodes.length:=aT.1 q
  obtain⟨x,hx⟩:=aB q
  have hle:m<=i:=by rw[hm];exact vB
  refine dn (a:=((List.range (i+1)).filter fun i=>decide (kd c i=k)).length) (fun g=>⟨x,hx,fun e=>⟨by omega,?_⟩,fun e=>?_⟩) ⟨by omega,hnx _ ⟨q,rfl⟩ (by dsimp only;omega)⟩
  ·rw[zk,if_pos (by rw[fC hx];exact decide_eq_true (bG.1 e)),List.length_append,<- hm] at g;exact g
  ·rw[zk,if_neg (by rw[fC hx,decide_eq_true_eq];exact cA.1 e),List.append_nil,<- hm] at g;exact g
 ·have q:c.nodes.length<=i:=bd.1 q
  have:i=c.nodes.length:=by omega
  subst this
  exact hm
def BO (c:Circ) (z:PData):Pat:=⟨gJ z.inp (ofN c [0]).length 4,gJ z.state (ofN c [14]).length 3⟩
theorem DD (c:Circ) (z:PData):PatOk c (BO c z) :=
 ⟨by unfold BO gJ;simp,by unfold BO gJ;simp,tN (by decide) (by decide),tN (by decide) (by decide)⟩
theorem CN {c:Circ} (C:Cir c) {z:PData}{K:Pat->Prop} (h:K (BO c z)):fh z c K:=by
 have hlen:=C.len
 have l1:=gC c [0]
 have l2:=gC c [14]
 unfold fh
 exact uC hlen (ud (by omega) (by decide) (uC hlen (ud (by omega) (by decide) h)))
theorem zY {k n:Nat}{r:Rul} (h:steerR k=some r):eqR k n=[r]:=by
 have hk:=ny h
 have:k=5\/k=6\/k=7\/k=8:=by omega
 rcases this with rfl|rfl|rfl|rfl <;> (cases h;unfold eqR;simp)
theorem Cz {c:Circ}{n j:Nat}{r:Rul} (hr:steerR (kd c n)=some r):down c (domPin n j r)=none:=by
 cases e:down c (domPin n j r) with
 |none=>rfl
 |some w =>
  obtain⟨_,_,r',h1,h2,_⟩:=kn.1 e
  rw[zY hr,List.mem_singleton] at h1
  subst h1
  have:=tj hr
  omega
theorem CL {c:Circ} (C:Cir c) {s:Si} (h:VS c s):lvl c (clsN c s)<=lvl c s :=
 zf (P:=fun a d=>lvl c d<=lvl c a) (fun _ _=>Nat.le_refl _) (fun a b d h q=>by have:=xH C a b h;omega) h
theorem DE {c:Circ} (C:Cir c) {n j:Nat}{r:Rul} (hn:n<c.nodes.length) (hr:steerR (kd c n)=some r):lvl c (clsN c (domOut n r))<lvl c (clsN c (domPin n j r)):=by
 rw[xV (Cz hr)]
 have h1:=CL C (sw (r:=r) hn)
 have hk:=ny hr
 have h2:lvl c (domOut n r)=2*(16-n)+1:=by unfold lvl domOut;rw[if_pos rfl]
 have h3:lvl c (domPin n j r)=2*(16-n)+2:=by
  unfold lvl domPin
  rw[if_neg (by simp),if_neg (by dsimp only;omega)]
 omega
theorem Ec {c:Circ} (C:Cir c) {ks:List Flt}{r:List N2} (D:DomOk c ks r) {x:N2} (h:x∈r):x.a≠x.b:=by
 obtain⟨n,ru,j,hn,hr,hj,h1,h2,rfl⟩:=qX.1 ((D.mem x).1 h)
 intro e
 dsimp only at e
 have g1:=mM h1
 have g2:=mM h2
 rw[e,g2] at g1
 have:=DE (j:=j) C hn hr
 rw[vo (Option.some.inj g1)] at this
 omega
structure ClsP (c:Circ) (D:Flt->Prop):Prop where
 same:∀ s t,VS c s->VS c t->clsN c s=clsN c t->D (fltS s)->D (fltS t)
 dom:∀ n j r,n<c.nodes.length->j<(insOf c n).length->steerR (kd c n)=some r->D (fltS (domPin n j r))->D (fltS (domOut n r))
theorem Bh {c:Circ} (C:Cir c) {p:Pat} (hp:PatOk c p):ClsP c fun f=>jR c p f=true :=
 ⟨fun _ _ hs ht e h=>(AP C hp hs ht e).symm.trans h,fun _ _ _ hn hj hr h=>Cx C hp hn hj hr h⟩
theorem yZ {c:Circ}{f:Flt} (hf:f∈dM c) {i:Nat}{s:Si} (h:iC c (dM c) f=i) (hs:fltS (clsN c s)∈ksF c (dM c)) (hi:(ksF c (dM c)).idxOf (fltS (clsN c s))=i):∃ t,VS c t/\f=fltS t/\clsN c t=clsN c s:=by
 obtain⟨t,vt,rfl⟩:=oQ.1 hf
 have h1:=mM (kZ.2 ⟨_,hf,rfl⟩:eZ c (fltS t)∈ksF c (dM c))
 have h2:=mM hs
 unfold iC at h
 rw[h] at h1
 rw[hi,h1] at h2
 rw[xz] at h2
 exact⟨t,vt,rfl,vo (Option.some.inj h2)⟩
theorem ClsP.go {c:Circ}{D:Flt->Prop} (P:ClsP c D) {r:List N2} (R:DomOk c (ksF c (dM c)) r) {x:N2} (h:x∈r) {f g:Flt} (hf:f∈dM c) (hg:g∈dM c) (h1:iC c (dM c) f=x.a) (h2:iC c (dM c) g=x.b) (hd:D f):D g:=by
 obtain⟨n,ru,j,hn,hr,hj,k1,k2,rfl⟩:=qX.1 ((R.mem x).1 h)
 obtain⟨s,vs,rfl,es⟩:=yZ hf h1 k1 rfl
 obtain⟨t,vt,rfl,et⟩:=yZ hg h2 k2 rfl
 have v1:=wv (r:=ru) hn hj
 have v2:=sw (r:=ru) hn
 exact P.same _ _ v2 vt et.symm (P.dom n j ru hn hj hr (P.same _ _ vs v1 es hd))
theorem yV {c:Circ} (C:Cir c) {p:Pat} (hp:PatOk c p) {f:Flt} (hf:f∈dM c) {K:Bool×Nat->Prop} (h:K (jR c p f,0)):bP c f p K:=by
 obtain⟨s,vs,rfl⟩:=oQ.1 hf
 exact yo C hp (yj vs) h
theorem Fh {c:Circ} (C:Cir c):(RN c (dM c)).length<=544:=by
 rw[pA]
 exact Nat.le_trans (qY _ _) (wR C)
theorem Cy {c:Circ}{l:List Flt}{i:Nat}{row:List Nat} (h:(RN c l)[i]?=some row) {k m:Nat} (hm:row[k]?=some m):∃ f,l[m]?=some f/\f∈l/\iC c l f=i:=by
 obtain⟨f,h1,h2⟩:=CK h (List.mem_of_getElem? hm)
 exact⟨f,h1,List.mem_of_getElem? h1,h2⟩
theorem lt0 (a:Nat):ltN a 0=false:=bd.2 (Nat.zero_le _)
theorem um {c:Circ}{l:List Flt}{i:Nat} (h:i<(ksF c l).length):∃ row x f,(RN c l)[i]?=some row/\row[0]?=some x/\0<row.length/\l[x]?=some f/\f∈l/\iC c l f=i:=by
 obtain⟨k,x,t,_,hrow,_⟩:=Bt h
 obtain⟨f,h1,h2,h3⟩:=Cy hrow (show (x::t)[0]?=some x from rfl)
 exact⟨_,x,f,hrow,rfl,by simp,h1,h2,h3⟩
theorem lr {x:CData} (hx:CB x) {z:PData}{K:Bool->Prop} (h:K true):aX x z K:=by
 unfold aX
 refine AS hx fun c C hpos=>CN C ?_
 have hp:=DD c z
 obtain⟨p,hpe⟩:∃ p,BO c z=p:=⟨_,rfl⟩
 rw[hpe] at hp ⊢
 have hl:=zt C
 refine sB C hl (nf C hl fun r hr=>?_)
 dsimp only
 have hRl:=Fh C
 have hRk:=pA c (dM c)
 have hrl:=hr.len
 have n0:neN 0 0=false:=pK.2 rfl
 refine dn (a:=false) (fun G=>⟨fun q=>absurd rfl (dR.1 q),fun _=>?_⟩) ⟨(fun q=>by cases q),fun _=>?_⟩
 ·rw[n0];exact G
 ·refine dO (l:=r) ?_ ?_ (xT h)
  ·intro k i nx y hy hi hn
   have hym:=List.mem_of_getElem? hy
   obtain⟨ha,hb⟩:=hr.lt hym
   obtain⟨rowa,xa,fa,a1,a2,a3,a4,a5,a6⟩:=um ha
   obtain⟨rowb,xb,fb,b1,b2,b3,b4,b5,b6⟩:=um hb
   have hne:=Ec C hr hym
   refine⟨fun _=>⟨y,hy,y,hy,?_⟩,fun q=>by have:=bd.1 q;omega⟩
   refine dn (a:=false) (fun G=>⟨fun q=>?_,fun _=>⟨fun q=>?_,fun _=>⟨fun q=>?_,fun _=>⟨fun q=>?_,fun _=>⟨fun q=>?_,fun _=>⟨rowa,a1,fun q=>?_,fun _=>⟨rowb,b1,fun q=>?_,fun _=>⟨fun q=>?_,fun _=>G⟩⟩⟩⟩⟩⟩⟩⟩) ⟨(fun q=>by cases q),fun _=>⟨rowa,a1,xa,a2,fa,a4,yV C hp a5 ⟨rowb,b1,xb,b2,fb,b4,yV C hp b5 ?_⟩⟩⟩
   ·rw[lt0] at q;cases q
   ·rw[lt0] at q;cases q
   ·have:=ln.1 q;omega
   ·have:=ln.1 q;omega
   ·exact absurd (bG.1 q) hne
   ·have:=bG.1 q;omega
   ·have:=bG.1 q;omega
   ·have q:0<i:=aT.1 q
    obtain⟨w,hw⟩:=aB (l:=r) (i:=i-1) (by omega)
    have hlt:n2Lt w y:=by
     obtain⟨q1,rfl⟩:=List.getElem?_eq_some_iff.1 hw
     obtain⟨q2,rfl⟩:=List.getElem?_eq_some_iff.1 hy
     exact List.pairwise_iff_getElem.1 hr.sorted _ _ q1 q2 (by omega)
    unfold n2Lt at hlt
    refine⟨q,by omega,w,hw,fun q2=>?_,fun _=>⟨q,by omega,w,hw,fun q2=>⟨q,by omega,w,hw,?_⟩,fun _=>G⟩⟩
    ·have:=aT.1 q2;omega
    ·have q2:=bG.1 q2
     have:(!ltN w.b y.b)=false:=by rw[Bool.not_eq_false'];exact aT.2 (by omega)
     rw[this];exact G
   ·refine dn (a:=false) (fun G=>⟨fun q=>absurd rfl (dR.1 q),fun _=>⟨fun q=>absurd rfl (dR.1 q),fun _=>⟨fun q=>?_,fun _=>G⟩⟩⟩) ⟨(fun q=>by cases q),fun _=>⟨by omega,hn⟩⟩
    have:=(Bh C hp).go hr hym a5 b5 a6 b6 q
    dsimp only
    rw[this];exact G
  ·intro k i nx hi hk
   refine⟨fun q=>?_,fun _=>hk⟩
   have:=aT.1 q;omega
theorem CG {x:shP.Den} (w:shP.wf x):∃ y:PData,PB y/\elV (!true) (shP.bb x)=Dp y:=by
 obtain⟨a,b,u⟩:=x
 obtain⟨wa,wb,_⟩:=w
 obtain⟨a',q1,e1⟩:=pR wa
 obtain⟨b',q2,e2⟩:=pR wb
 refine⟨⟨a',b'⟩,⟨q1,q2⟩,?_⟩
 show Value.agg ⟨(Sh.slice shB).bb a++((Sh.slice shB).bb b++[])⟩=_
 rw[e1,e2];rfl
def cg:List (Sh×Bool):=[(shC,true),(shP,true)]
theorem kC (x:AD cg) (w:wfL cg x):FnV Tryz.prog NG vars 4 ⟨BI cg x⟩ (.bool true):=by
 obtain⟨c,z,u⟩:=x
 obtain⟨wc,wz,_⟩:=w
 obtain⟨y,hy,e1⟩:=EW wc
 obtain⟨q,_,e2⟩:=CG wz
 have e:BI cg (c,z,u)=[bE y,Dp q]:=by
  show [elV (!true) (shC.bb c),elV (!true) (shP.bb z)]=_
  rw[e1,e2]
 rw[e]
 exact FnV.rb (enc:=Value.bool) (r:=true) (PureV.flat rfl) fun h hB=>dN (K:=fun r=>r=true) (lr hy rfl) hB
end Go.Proofs.YtobphhjcadjfjaaGreatDoor
