/-
  R5, Kn0, Kn1, LearnsKnown: parts of the proof.
-/
import Derived.Test.YteanlacbmiiloaaGreatDoorLk49
namespace Go.Proofs.YteanlacbmiiloaaGreatDoor
open Go.Abs
set_option maxRecDepth 100000
set_option maxHeartbeats 8000000
def probecardlaw25_LearnsKnown_wp  (K:Bool→Prop):Prop :=
 joinW (α:=((List Node)×(List ByteArray))) (fun k13=>loopW (S:=((List Node)×(List ByteArray)×Nat)) (fun (v16,v19,v20) nx21=>((ltN v20 513)=true→1≤v20∧v20<2 ^ 63∧(v16.length+([(⟨3,([(v20-1)]:(List Nat)),0,0⟩:Node)]:(List Node)).length)*48≤2 ^ 47∧0<100∧v20<2 ^ 63∧48+(v20/100)<2 ^ 63∧0<10∧v20<2 ^ 63∧0<10∧48+((v20/10)%10)<2 ^ 63∧0<10∧48+(v20%10)<2 ^ 63∧(⟨#[110]⟩:ByteArray).size+(strOfNums (([((48+(v20/100))%256),((48+((v20/10)%10))%256),((48+(v20%10))%256)]:(List Nat)).map Int.ofNat)).size≤9223372036854775807∧(v19.length+([(⟨((⟨#[110]⟩:ByteArray).data.toList++(strOfNums (([((48+(v20/100))%256),((48+((v20/10)%10))%256),((48+(v20%10))%256)]:(List Nat)).map Int.ofNat)).data.toList).toArray⟩:ByteArray)]:(List ByteArray)).length)*16≤2 ^ 47∧v20+1<2 ^ 63∧nx21 ((v16++([(⟨3,([(v20-1)]:(List Nat)),0,0⟩:Node)]:(List Node))),(v19++([(⟨((⟨#[110]⟩:ByteArray).data.toList++(strOfNums (([((48+(v20/100))%256),((48+((v20/10)%10))%256),((48+(v20%10))%256)]:(List Nat)).map Int.ofNat)).data.toList).toArray⟩:ByteArray)]:(List ByteArray))),(v20+1)))∧((ltN v20 513)=false→k13 (v16,v19))) (([(⟨0,([]:(List Nat)),0,0⟩:Node)]:(List Node)),([(⟨#[97]⟩:ByteArray)]:(List ByteArray)),1)) (fun (v9,v12)=>learns_Static_wp (⟨v9,v12,([]:(List Memo)),([0]:(List Nat))⟩:Circ) (fun r30=>probecardlaw25_at_wp 512 1 (fun r31=>1=([r31]:(List Asg)).length∧learns_Close_wp (⟨v9,v12,([]:(List Memo)),([0]:(List Nat))⟩:Circ) ([]:(List Lawv)) ([r31]:(List Asg)) (fun r34=>joinW (α:=Bool) (fun k37=>((neN r30.2 3)=true→k37 true)∧((neN r30.2 3)=false→((ltN 0 r30.1.length)=true→k37 true)∧((ltN 0 r30.1.length)=false→((neN r34.2.2 0)=true→k37 true)∧((neN r34.2.2 0)=false→((!r34.2.1)=true→k37 true)∧((!r34.2.1)=false→((neN r34.1.length 513)=true→k37 true)∧((neN r34.1.length 513)=false→∃ x38,r34.1[0]?=some x38∧k37 (neN x38 1))))))) (fun v36=>(v36=true→K false)∧(v36=false→probecardlaw25_example_wp  (fun r39=>probecardlaw25_at_wp 0 1 (fun r42=>probecardlaw25_at_wp 1 1 (fun r43=>probecardlaw25_at_wp 1 1 (fun r44=>probecardlaw25_at_wp 0 0 (fun r45=>probecardlaw25_at_wp 0 1 (fun r48=>2=([(⟨r42,r43⟩:Lawv),(⟨r44,r45⟩:Lawv)]:(List Lawv)).length∧1=([r48]:(List Asg)).length∧learns_Close_wp r39 ([(⟨r42,r43⟩:Lawv),(⟨r44,r45⟩:Lawv)]:(List Lawv)) ([r48]:(List Asg)) (fun r51=>probecardlaw25_at_wp 5 0 (fun r56=>probecardlaw25_at_wp 0 1 (fun r57=>2=([r56,r57]:(List Asg)).length∧learns_Saturate_wp r39 4 ([r56,r57]:(List Asg)) (fun r60=>probecardlaw25_at_wp 5 0 (fun r62=>probecardlaw25_at_wp 1 1 (fun r63=>2=([r62,r63]:(List Asg)).length∧learns_Saturate_wp r39 1 ([r62,r63]:(List Asg)) (fun r66=>((eqN r51.2.2 0)=true→((!r51.2.1)=true→((eqN r60.2.2 0)=true→(r60.2.1=true→((eqN r60.1.length 6)=true→∃ x68,r60.1[1]?=some x68∧((eqN x68 0)=true→∃ x69,r60.1[4]?=some x69∧((eqN x69 0)=true→((eqN r66.2.2 0)=true→((!r66.2.1)=true→law25_lives_wp  (fun r70=>K r70))∧((!r66.2.1)=false→K false))∧((eqN r66.2.2 0)=false→K false))∧((eqN x69 0)=false→K false))∧((eqN x68 0)=false→K false))∧((eqN r60.1.length 6)=false→K false))∧(r60.2.1=false→K false))∧((eqN r60.2.2 0)=false→K false))∧((!r51.2.1)=false→K false))∧((eqN r51.2.2 0)=false→K false))))))))))))))))))))
theorem probecardlaw25_LearnsKnown_walk  {K:Bool→Prop} (hm:probecardlaw25_LearnsKnown_wp  K) {h0:Heap} (hB:HasB vars h0):∃ r,K r∧CallD Tryz.prog NG 7 ⟨[]⟩ h0 (Value.bool r) h0:=by
 unfold probecardlaw25_LearnsKnown_wp at hm
 refine fw Tryz.func7 hB (enc:=Value.bool) (fun r=>PureV.flat rfl) fun O=>?_;conv=>whnf
 refine gX ?_
 (first|refine O.new (buildK (vs:=[(.agg ⟨[(n8 0),(.slice none 0 0),(i64 0),(i64 0)]⟩)]) (s:=4) (z:=(.agg ⟨[(n8 0),(.slice none 0 0),(i64 0),(i64 0)]⟩)) rfl rfl (by kernel_rfl) (by kernel_rfl) rfl rfl rfl rfl (by intro e he;simp only[List.mem_cons,List.not_mem_nil,or_false] at he;rcases he with rfl <;> rfl)) fun g1 h O=>?_|refine O.newX (buildK (vs:=[(.agg ⟨[(n8 0),(.slice none 0 0),(i64 0),(i64 0)]⟩)]) (s:=4) (z:=(.agg ⟨[(n8 0),(.slice none 0 0),(i64 0),(i64 0)]⟩)) rfl rfl (by kernel_rfl) (by kernel_rfl) rfl rfl rfl rfl (by intro e he;simp only[List.mem_cons,List.not_mem_nil,or_false] at he;rcases he with rfl <;> rfl)) fun g1 h O=>?_);refine gH ?_
 refine O.buildL (l:=([(⟨#[97]⟩:ByteArray)]:(List ByteArray))) (enc:=Value.string) (s:=1) (z:=(.string (⟨#[]⟩:ByteArray))) rfl rfl (by kernel_rfl) (by kernel_rfl) rfl rfl rfl rfl (fun _=>rfl) fun g3 h O=>?_;refine gH ?_
 refine fz ?_;refine gH ?_
 (first|refine O.new (anew_alloc (l:=[(.slice none 0 0),(.slice none 0 0),(.slice none 0 0),(.slice none 0 0)]) rfl rfl rfl) fun g5 h O=>?_|refine O.newX (anew_alloc (l:=[(.slice none 0 0),(.slice none 0 0),(.slice none 0 0),(.slice none 0 0)]) rfl rfl rfl) fun g5 h O=>?_);refine gH ?_
 refine O.stC 4 (.head _) [(.slice (some ⟨g1,0,none⟩) 1 1),(growS 1 false g3 1),(.slice none 0 0),((encL 1 i64) ([0]:(List Nat)))] fun h O=>?_;refine gH ?_
 refine CodeS.ghostLe (cs':=flatC (([(⟨0,([]:(List Nat)),0,0⟩:Node)]:(List Node)).map encNode)) O (.tail _ (.tail _ (.head _))) (t2:=19) rfl rfl (LLe.cons (VLe.refl _ _) (LLe.cons (VLe.nil _ _) (LLe.cons (VLe.refl _ _) (LLe.cons (VLe.refl _ _) (LLe.nil _))))) fun h O=>?_
 refine jn (σ:=((List Node)×(List ByteArray))×(Nat×Bool×Nat×Bool)) hm 171 [1] (fun s=>s.1) (fun ((v9,v12),(a7,a8,a10,a11)) h=>Own vars h0 [((some g5),.cells [(growS 4 a8 a7 ((v9.map encNode).length)),(growS 1 a11 a10 ((v12.map Value.string).length)),(.slice none 0 0),((encL 1 i64) ([0]:(List Nat)))] false),((some a7),.cells (flatC (v9.map encNode)) false),((some a10),.cells (flatC (v12.map Value.string)) false)] h) (fun ((v9,v12),(a7,a8,a10,a11))=>[]) (fun hm=>?_) ?_
 ·refine gX ?_
  refine lw 171 [1] (σ:=((List Node)×(List ByteArray)×Nat)×(Nat×Bool×Nat×Bool)) (fun s=>s.1) (fun ((v16,v19,v20),(a14,a15,a17,a18)) h=>Own vars h0 [((some g5),.cells [(growS 4 a15 a14 ((v16.map encNode).length)),(growS 1 a18 a17 ((v19.map Value.string).length)),(.slice none 0 0),((encL 1 i64) ([0]:(List Nat)))] false),((some a14),.cells (flatC (v16.map encNode)) false),((some a17),.cells (flatC (v19.map Value.string)) false)] h) (fun ((v16,v19,v20),(a14,a15,a17,a18))=>[(2,(i64 v20))]) ((([(⟨0,([]:(List Nat)),0,0⟩:Node)]:(List Node)),([(⟨#[97]⟩:ByteArray)]:(List ByteArray)),1),(g1,false,g3,false)) hm (O.sel [0,2,1] (by decide)) ?_
  clear hm;rintro⟨⟨v16,v19,v20⟩,⟨a14,a15,a17,a18⟩⟩ nx21 base h hm O
  refine gX ?_
  refine br hm (fun hm=>?_) fun hm=>?_
  ·refine gX ?_
   refine aSub hm fun hm=>?_;refine gH ?_
   refine fz ?_;refine gH ?_
   refine fz ?_;refine gH ?_
   refine O.apS (enc:=encNode) (l:=v16) (new:=([(⟨3,([(v20-1)]:(List Nat)),0,0⟩:Node)]:(List Node))) 4 (.tail _ (.head _)) rfl hm fun g24 a25 h O hm=>?_;refine gH ?_
   refine O.stC 1 (.head _) [(growS 4 a25 g24 (((v16++([(⟨3,([(v20-1)]:(List Nat)),0,0⟩:Node)]:(List Node))).map encNode).length)),(growS 1 a18 a17 ((v19.map Value.string).length)),(.slice none 0 0),((encL 1 i64) ([0]:(List Nat)))] fun h O=>?_;refine gX ?_
   refine aQuo hm fun hm=>?_;refine gH ?_
   refine aAdd hm fun hm=>?_;refine gH ?_
   refine aCw ?_;refine gH ?_
   refine aQuo hm fun hm=>?_;refine gH ?_
   refine aRem hm fun hm=>?_;refine gH ?_
   refine aAdd hm fun hm=>?_;refine gH ?_
   refine aCw ?_;refine gH ?_
   refine aRem hm fun hm=>?_;refine gH ?_
   refine aAdd hm fun hm=>?_;refine gH ?_
   refine aCw ?_;refine gH ?_
   refine fz ?_;refine gH ?_
   refine⟨_,strAddK (a:=(⟨#[110]⟩:ByteArray)) (b:=(strOfNums (([((48+(v20/100))%256),((48+((v20/10)%10))%256),((48+(v20%10))%256)]:(List Nat)).map Int.ofNat))) rfl rfl hm.1,?_⟩;refine gH ?_
   replace hm:=hm.2
   refine fz ?_;refine gH ?_
   refine O.apS (enc:=Value.string) (l:=v19) (new:=([(⟨((⟨#[110]⟩:ByteArray).data.toList++(strOfNums (([((48+(v20/100))%256),((48+((v20/10)%10))%256),((48+(v20%10))%256)]:(List Nat)).map Int.ofNat)).data.toList).toArray⟩:ByteArray)]:(List ByteArray))) 1 (.tail _ (.tail _ (.head _))) rfl hm fun g28 a29 h O hm=>?_;refine gH ?_
   refine O.stC 1 (.head _) [(growS 4 a25 g24 (((v16++([(⟨3,([(v20-1)]:(List Nat)),0,0⟩:Node)]:(List Node))).map encNode).length)),(growS 1 a29 g28 (((v19++([(⟨((⟨#[110]⟩:ByteArray).data.toList++(strOfNums (([((48+(v20/100))%256),((48+((v20/10)%10))%256),((48+(v20%10))%256)]:(List Nat)).map Int.ofNat)).data.toList).toArray⟩:ByteArray)]:(List ByteArray))).map Value.string).length)),(.slice none 0 0),((encL 1 i64) ([0]:(List Nat)))] fun h O=>?_;refine gX ?_
   refine aAdd hm fun hm=>?_;refine gH ?_
   exact jx (((v16++([(⟨3,([(v20-1)]:(List Nat)),0,0⟩:Node)]:(List Node))),(v19++([(⟨((⟨#[110]⟩:ByteArray).data.toList++(strOfNums (([((48+(v20/100))%256),((48+((v20/10)%10))%256),((48+(v20%10))%256)]:(List Nat)).map Int.ofNat)).data.toList).toArray⟩:ByteArray)]:(List ByteArray))),(v20+1)),(g24,a25,g28,a29)) hm O
  ·refine gX ?_
   exact jx ((v16,v19),(a14,a15,a17,a18)) hm O
 ·clear hm;rintro⟨⟨v9,v12⟩,⟨a7,a8,a10,a11⟩⟩ base h hm O
  conv=>whnf
  apply Cs;conv=>whnf
  refine CodeS.freezeIn O (.tail _ (.head _)) (.head _) (j:=0) (t2:=1) rfl rfl rfl fun h O=>?_;conv=>whnf
  refine CodeS.freezeIn O (.tail _ (.tail _ (.head _))) (.head _) (j:=1) (t2:=1) rfl rfl rfl fun h O=>?_;conv=>whnf
  refine CodeS.ghostLeP (cs':=[((encL 4 encNode) v9),((encL 1 Value.string) v12),((encL 3 encMem) ([]:(List Memo))),((encL 1 i64) ([0]:(List Nat)))]) O (.head _) (t2:=1) rfl rfl (LLe.cons (VLe.flM (O.at (.tail _ (.head _))) ((rfl:_=(v9.map encNode).length).trans (List.length_map ..)) (fun _=>rfl)) (LLe.cons (VLe.flM (O.at (.tail _ (.tail _ (.head _)))) ((rfl:_=(v12.map Value.string).length).trans (List.length_map ..)) (fun _=>rfl)) (LLe.cons (VLe.nil _ _) (LLe.cons (VLe.refl _ _) (LLe.nil _))))) fun h O=>?_;conv=>whnf
  refine CodeS.freezeP (v:=(.agg ⟨[((encL 4 encNode) v9),((encL 1 Value.string) v12),((encL 3 encMem) ([]:(List Memo))),((encL 1 i64) ([0]:(List Nat)))]⟩)) O (.head _) (t2:=1) rfl rfl rfl fun h O=>?_;refine gX ?_
  refine ca (learns_Static_walk hm O.has) fun r30 hm=>?_;refine gX ?_
  first|refine⟨.inr (.inr (rfl)),?_⟩|refine⟨.inr (.inl (by kernel_rfl)),?_⟩
  refine gX ?_
  refine ca (probecardlaw25_at_walk hm O.has) fun r31 hm=>?_;refine gH ?_
  (first|refine⟨.inr (.inr (loadK rfl (O.at (.head _)) rfl rfl)),?_⟩|refine⟨.inr (.inr (loadK rfl (O.at (.tail _ (.head _))) rfl rfl)),?_⟩|refine⟨.inr (.inr (loadK rfl (O.at (.tail _ (.tail _ (.head _)))) rfl rfl)),?_⟩|refine⟨.inr (.inr (loadK rfl (O.at (.tail _ (.tail _ (.tail _ (.head _))))) rfl rfl)),?_⟩|refine⟨.inr (.inr (loadK rfl (O.at (.tail _ (.tail _ (.tail _ (.tail _ (.head _)))))) rfl rfl)),?_⟩|refine⟨.inr (.inr (loadK rfl (O.at (.tail _ (.tail _ (.tail _ (.tail _ (.tail _ (.head _))))))) rfl rfl)),?_⟩|refine⟨.inr (.inr (loadK rfl (O.at (.tail _ (.tail _ (.tail _ (.tail _ (.tail _ (.tail _ (.head _)))))))) rfl rfl)),?_⟩|refine⟨.inl (Ext.refl _),?_⟩|refine⟨.inr (.inr rfl),?_⟩|refine⟨.inr (by kernel_rfl),?_⟩|refine⟨.inl (by kernel_rfl),?_⟩|refine id ?_);refine gH ?_
  refine O.buildLX (l:=([r31]:(List Asg))) (enc:=encAsg) (s:=2) (z:=(.agg ⟨[(i64 0),(n8 0)]⟩)) rfl rfl (by kernel_rfl) (by kernel_rfl) rfl rfl rfl rfl (fun _=>rfl) fun g32 h O=>?_;refine gH ?_
  obtain⟨hn35,hm⟩:=hm
  refine O.useL (fun _ hb=>learns_Close_walk hm hb) (.head _) hn35 (fun _=>rfl) (i:=2) rfl (by kernel_rfl) (fun h2 q=>(LLe.cons (VLe.refl _ _) (LLe.cons (VLe.nil _ _) (LLe.cons (VLe.toN (by simp) q) (LLe.nil _))))) (fun r34 h hm' O=>?_);replace hm:=hm';refine gH ?_
  (first|refine⟨.inr (.inr (loadK rfl (O.at (.head _)) rfl rfl)),?_⟩|refine⟨.inr (.inr (loadK rfl (O.at (.tail _ (.head _))) rfl rfl)),?_⟩|refine⟨.inr (.inr (loadK rfl (O.at (.tail _ (.tail _ (.head _)))) rfl rfl)),?_⟩|refine⟨.inr (.inr (loadK rfl (O.at (.tail _ (.tail _ (.tail _ (.head _))))) rfl rfl)),?_⟩|refine⟨.inr (.inr (loadK rfl (O.at (.tail _ (.tail _ (.tail _ (.tail _ (.head _)))))) rfl rfl)),?_⟩|refine⟨.inr (.inr (loadK rfl (O.at (.tail _ (.tail _ (.tail _ (.tail _ (.tail _ (.head _))))))) rfl rfl)),?_⟩|refine⟨.inr (.inr (loadK rfl (O.at (.tail _ (.tail _ (.tail _ (.tail _ (.tail _ (.tail _ (.head _)))))))) rfl rfl)),?_⟩|refine⟨.inl (Ext.refl _),?_⟩|refine⟨.inr (.inr rfl),?_⟩|refine⟨.inr (by kernel_rfl),?_⟩|refine⟨.inl (by kernel_rfl),?_⟩|refine id ?_);refine gH ?_
  apply Cs;conv=>whnf
  refine jn hm 171 [] (fun s=>s) (fun v36 h=>Own vars h0 [] h) (fun v36=>[(95,(.bool v36))]) (fun hm=>?_) ?_
  ·refine gX ?_
   refine br hm (fun hm=>?_) fun hm=>?_
   ·refine gX ?_
    refine bt ?_;refine gH ?_
    refine bt ?_;refine gH ?_
    refine bt ?_;refine gH ?_
    refine bt ?_;refine gH ?_
    exact jx true hm (O.sel [] (by decide))
   ·refine gX ?_
    refine br hm (fun hm=>?_) fun hm=>?_
    ·refine gX ?_
     refine bt ?_;refine gH ?_
     refine bt ?_;refine gH ?_
     refine bt ?_;refine gH ?_
     exact jx true hm (O.sel [] (by decide))
    ·refine gX ?_
     refine br hm (fun hm=>?_) fun hm=>?_
     ·refine gX ?_
      refine bt ?_;refine gH ?_
      refine bt ?_;refine gH ?_
      exact jx true hm (O.sel [] (by decide))
     ·refine gX ?_
      refine br hm (fun hm=>?_) fun hm=>?_
      ·refine gX ?_
       refine bt ?_;refine gH ?_
       exact jx true hm (O.sel [] (by decide))
      ·refine gX ?_
       refine br hm (fun hm=>?_) fun hm=>?_
       ·refine gX ?_
        exact jx true hm (O.sel [] (by decide))
       ·refine gX ?_
        refine atF hm fun x38 hx38 hm=>?_;refine gH ?_
        exact jx (neN x38 1) hm (O.sel [] (by decide))
  ·clear hm;rintro v36 base h hm O
   refine gX ?_
   refine br hm (fun hm=>?_) fun hm=>?_
   ·refine gX ?_
    exact fe hm O
   ·refine gX ?_
    refine ca (probecardlaw25_example_walk hm O.has) fun r39 hm=>?_;refine gH ?_
    (first|refine O.new (anew_alloc (l:=[(.slice none 0 0),(.slice none 0 0),(.slice none 0 0),(.slice none 0 0)]) rfl rfl rfl) fun g40 h O=>?_|refine O.newX (anew_alloc (l:=[(.slice none 0 0),(.slice none 0 0),(.slice none 0 0),(.slice none 0 0)]) rfl rfl rfl) fun g40 h O=>?_);refine gH ?_
    refine O.stC 4 (.head _) [((encL 4 encNode) r39.nodes),((encL 1 Value.string) r39.names),((encL 3 encMem) r39.mems),((encL 1 i64) r39.outs)] fun h O=>?_;refine gX ?_
    refine ldA (O.at (.head _)) ?_;refine gH ?_
    first|refine⟨.inr (.inr (loadAggK rfl (O.at (.head _)) rfl rfl (lbE rfl) rfl)),?_⟩|refine⟨.inr (.inl (by kernel_rfl)),?_⟩
    refine gX ?_
    refine ca (probecardlaw25_at_walk hm O.has) fun r42 hm=>?_;refine gH ?_
    (first|refine⟨.inr (.inr (loadK rfl (O.at (.head _)) rfl rfl)),?_⟩|refine⟨.inr (.inr (loadK rfl (O.at (.tail _ (.head _))) rfl rfl)),?_⟩|refine⟨.inr (.inr (loadK rfl (O.at (.tail _ (.tail _ (.head _)))) rfl rfl)),?_⟩|refine⟨.inr (.inr (loadK rfl (O.at (.tail _ (.tail _ (.tail _ (.head _))))) rfl rfl)),?_⟩|refine⟨.inr (.inr (loadK rfl (O.at (.tail _ (.tail _ (.tail _ (.tail _ (.head _)))))) rfl rfl)),?_⟩|refine⟨.inr (.inr (loadK rfl (O.at (.tail _ (.tail _ (.tail _ (.tail _ (.tail _ (.head _))))))) rfl rfl)),?_⟩|refine⟨.inr (.inr (loadK rfl (O.at (.tail _ (.tail _ (.tail _ (.tail _ (.tail _ (.tail _ (.head _)))))))) rfl rfl)),?_⟩|refine⟨.inl (Ext.refl _),?_⟩|refine⟨.inr (.inr rfl),?_⟩|refine⟨.inr (by kernel_rfl),?_⟩|refine⟨.inl (by kernel_rfl),?_⟩|refine id ?_);refine gH ?_
    refine ca (probecardlaw25_at_walk hm O.has) fun r43 hm=>?_;refine gH ?_
    (first|refine⟨.inr (.inr (loadK rfl (O.at (.head _)) rfl rfl)),?_⟩|refine⟨.inr (.inr (loadK rfl (O.at (.tail _ (.head _))) rfl rfl)),?_⟩|refine⟨.inr (.inr (loadK rfl (O.at (.tail _ (.tail _ (.head _)))) rfl rfl)),?_⟩|refine⟨.inr (.inr (loadK rfl (O.at (.tail _ (.tail _ (.tail _ (.head _))))) rfl rfl)),?_⟩|refine⟨.inr (.inr (loadK rfl (O.at (.tail _ (.tail _ (.tail _ (.tail _ (.head _)))))) rfl rfl)),?_⟩|refine⟨.inr (.inr (loadK rfl (O.at (.tail _ (.tail _ (.tail _ (.tail _ (.tail _ (.head _))))))) rfl rfl)),?_⟩|refine⟨.inr (.inr (loadK rfl (O.at (.tail _ (.tail _ (.tail _ (.tail _ (.tail _ (.tail _ (.head _)))))))) rfl rfl)),?_⟩|refine⟨.inl (Ext.refl _),?_⟩|refine⟨.inr (.inr rfl),?_⟩|refine⟨.inr (by kernel_rfl),?_⟩|refine⟨.inl (by kernel_rfl),?_⟩|refine id ?_);refine gH ?_
    refine ca (probecardlaw25_at_walk hm O.has) fun r44 hm=>?_;refine gH ?_
    (first|refine⟨.inr (.inr (loadK rfl (O.at (.head _)) rfl rfl)),?_⟩|refine⟨.inr (.inr (loadK rfl (O.at (.tail _ (.head _))) rfl rfl)),?_⟩|refine⟨.inr (.inr (loadK rfl (O.at (.tail _ (.tail _ (.head _)))) rfl rfl)),?_⟩|refine⟨.inr (.inr (loadK rfl (O.at (.tail _ (.tail _ (.tail _ (.head _))))) rfl rfl)),?_⟩|refine⟨.inr (.inr (loadK rfl (O.at (.tail _ (.tail _ (.tail _ (.tail _ (.head _)))))) rfl rfl)),?_⟩|refine⟨.inr (.inr (loadK rfl (O.at (.tail _ (.tail _ (.tail _ (.tail _ (.tail _ (.head _))))))) rfl rfl)),?_⟩|refine⟨.inr (.inr (loadK rfl (O.at (.tail _ (.tail _ (.tail _ (.tail _ (.tail _ (.tail _ (.head _)))))))) rfl rfl)),?_⟩|refine⟨.inl (Ext.refl _),?_⟩|refine⟨.inr (.inr rfl),?_⟩|refine⟨.inr (by kernel_rfl),?_⟩|refine⟨.inl (by kernel_rfl),?_⟩|refine id ?_);refine gH ?_
    refine ca (probecardlaw25_at_walk hm O.has) fun r45 hm=>?_;refine gH ?_
    (first|refine⟨.inr (.inr (loadK rfl (O.at (.head _)) rfl rfl)),?_⟩|refine⟨.inr (.inr (loadK rfl (O.at (.tail _ (.head _))) rfl rfl)),?_⟩|refine⟨.inr (.inr (loadK rfl (O.at (.tail _ (.tail _ (.head _)))) rfl rfl)),?_⟩|refine⟨.inr (.inr (loadK rfl (O.at (.tail _ (.tail _ (.tail _ (.head _))))) rfl rfl)),?_⟩|refine⟨.inr (.inr (loadK rfl (O.at (.tail _ (.tail _ (.tail _ (.tail _ (.head _)))))) rfl rfl)),?_⟩|refine⟨.inr (.inr (loadK rfl (O.at (.tail _ (.tail _ (.tail _ (.tail _ (.tail _ (.head _))))))) rfl rfl)),?_⟩|refine⟨.inr (.inr (loadK rfl (O.at (.tail _ (.tail _ (.tail _ (.tail _ (.tail _ (.tail _ (.head _)))))))) rfl rfl)),?_⟩|refine⟨.inl (Ext.refl _),?_⟩|refine⟨.inr (.inr rfl),?_⟩|refine⟨.inr (by kernel_rfl),?_⟩|refine⟨.inl (by kernel_rfl),?_⟩|refine id ?_);refine gH ?_
    refine O.buildLX (l:=([(⟨r42,r43⟩:Lawv),(⟨r44,r45⟩:Lawv)]:(List Lawv))) (enc:=encLaw) (s:=4) (z:=(.agg ⟨[(i64 0),(n8 0),(i64 0),(n8 0)]⟩)) rfl rfl (by kernel_rfl) (by kernel_rfl) rfl rfl rfl rfl (fun _=>rfl) fun g46 h O=>?_;refine gH ?_
    refine ca (probecardlaw25_at_walk hm O.has) fun r48 hm=>?_;refine gH ?_
    (first|refine⟨.inr (.inr (loadK rfl (O.at (.head _)) rfl rfl)),?_⟩|refine⟨.inr (.inr (loadK rfl (O.at (.tail _ (.head _))) rfl rfl)),?_⟩|refine⟨.inr (.inr (loadK rfl (O.at (.tail _ (.tail _ (.head _)))) rfl rfl)),?_⟩|refine⟨.inr (.inr (loadK rfl (O.at (.tail _ (.tail _ (.tail _ (.head _))))) rfl rfl)),?_⟩|refine⟨.inr (.inr (loadK rfl (O.at (.tail _ (.tail _ (.tail _ (.tail _ (.head _)))))) rfl rfl)),?_⟩|refine⟨.inr (.inr (loadK rfl (O.at (.tail _ (.tail _ (.tail _ (.tail _ (.tail _ (.head _))))))) rfl rfl)),?_⟩|refine⟨.inr (.inr (loadK rfl (O.at (.tail _ (.tail _ (.tail _ (.tail _ (.tail _ (.tail _ (.head _)))))))) rfl rfl)),?_⟩|refine⟨.inl (Ext.refl _),?_⟩|refine⟨.inr (.inr rfl),?_⟩|refine⟨.inr (by kernel_rfl),?_⟩|refine⟨.inl (by kernel_rfl),?_⟩|refine id ?_);refine gH ?_
    refine O.buildLX (l:=([r48]:(List Asg))) (enc:=encAsg) (s:=2) (z:=(.agg ⟨[(i64 0),(n8 0)]⟩)) rfl rfl (by kernel_rfl) (by kernel_rfl) rfl rfl rfl rfl (fun _=>rfl) fun g49 h O=>?_;refine gH ?_
    obtain⟨hn54,hn55,hm⟩:=hm
    refine O.useXL (.tail _ (.head _)) hn54 (fun _=>rfl) (i:=1) rfl (by kernel_rfl) (fun h2 q=>(LLe.cons (VLe.refl _ _) (LLe.cons (q) (LLe.cons (VLe.refl _ _) (LLe.nil _))))) fun h O=>O.useXL (.head _) hn55 (fun _=>rfl) (i:=2) rfl (by kernel_rfl) (fun h2 q=>(LLe.cons (VLe.refl _ _) (LLe.cons (VLe.refl _ _) (LLe.cons (VLe.toN (by simp) q) (LLe.nil _))))) fun h O=>ca (learns_Close_walk hm O.has) fun r51 hm=>?_;refine gH ?_
    (first|refine⟨.inr (.inr (loadK rfl (O.at (.head _)) rfl rfl)),?_⟩|refine⟨.inr (.inr (loadK rfl (O.at (.tail _ (.head _))) rfl rfl)),?_⟩|refine⟨.inr (.inr (loadK rfl (O.at (.tail _ (.tail _ (.head _)))) rfl rfl)),?_⟩|refine⟨.inr (.inr (loadK rfl (O.at (.tail _ (.tail _ (.tail _ (.head _))))) rfl rfl)),?_⟩|refine⟨.inr (.inr (loadK rfl (O.at (.tail _ (.tail _ (.tail _ (.tail _ (.head _)))))) rfl rfl)),?_⟩|refine⟨.inr (.inr (loadK rfl (O.at (.tail _ (.tail _ (.tail _ (.tail _ (.tail _ (.head _))))))) rfl rfl)),?_⟩|refine⟨.inr (.inr (loadK rfl (O.at (.tail _ (.tail _ (.tail _ (.tail _ (.tail _ (.tail _ (.head _)))))))) rfl rfl)),?_⟩|refine⟨.inl (Ext.refl _),?_⟩|refine⟨.inr (.inr rfl),?_⟩|refine⟨.inr (by kernel_rfl),?_⟩|refine⟨.inl (by kernel_rfl),?_⟩|refine id ?_);refine gH ?_
    refine gX ?_
    refine ldA (O.at (.tail _ (.tail _ (.head _)))) ?_;refine gH ?_
    first|refine⟨.inr (.inr (loadAggK rfl (O.at (.tail _ (.tail _ (.head _)))) rfl rfl (lbE rfl) rfl)),?_⟩|refine⟨.inr (.inl (by kernel_rfl)),?_⟩
    refine gX ?_
    refine ca (probecardlaw25_at_walk hm O.has) fun r56 hm=>?_;refine gH ?_
    (first|refine⟨.inr (.inr (loadK rfl (O.at (.head _)) rfl rfl)),?_⟩|refine⟨.inr (.inr (loadK rfl (O.at (.tail _ (.head _))) rfl rfl)),?_⟩|refine⟨.inr (.inr (loadK rfl (O.at (.tail _ (.tail _ (.head _)))) rfl rfl)),?_⟩|refine⟨.inr (.inr (loadK rfl (O.at (.tail _ (.tail _ (.tail _ (.head _))))) rfl rfl)),?_⟩|refine⟨.inr (.inr (loadK rfl (O.at (.tail _ (.tail _ (.tail _ (.tail _ (.head _)))))) rfl rfl)),?_⟩|refine⟨.inr (.inr (loadK rfl (O.at (.tail _ (.tail _ (.tail _ (.tail _ (.tail _ (.head _))))))) rfl rfl)),?_⟩|refine⟨.inr (.inr (loadK rfl (O.at (.tail _ (.tail _ (.tail _ (.tail _ (.tail _ (.tail _ (.head _)))))))) rfl rfl)),?_⟩|refine⟨.inl (Ext.refl _),?_⟩|refine⟨.inr (.inr rfl),?_⟩|refine⟨.inr (by kernel_rfl),?_⟩|refine⟨.inl (by kernel_rfl),?_⟩|refine id ?_);refine gH ?_
    refine ca (probecardlaw25_at_walk hm O.has) fun r57 hm=>?_;refine gH ?_
    (first|refine⟨.inr (.inr (loadK rfl (O.at (.head _)) rfl rfl)),?_⟩|refine⟨.inr (.inr (loadK rfl (O.at (.tail _ (.head _))) rfl rfl)),?_⟩|refine⟨.inr (.inr (loadK rfl (O.at (.tail _ (.tail _ (.head _)))) rfl rfl)),?_⟩|refine⟨.inr (.inr (loadK rfl (O.at (.tail _ (.tail _ (.tail _ (.head _))))) rfl rfl)),?_⟩|refine⟨.inr (.inr (loadK rfl (O.at (.tail _ (.tail _ (.tail _ (.tail _ (.head _)))))) rfl rfl)),?_⟩|refine⟨.inr (.inr (loadK rfl (O.at (.tail _ (.tail _ (.tail _ (.tail _ (.tail _ (.head _))))))) rfl rfl)),?_⟩|refine⟨.inr (.inr (loadK rfl (O.at (.tail _ (.tail _ (.tail _ (.tail _ (.tail _ (.tail _ (.head _)))))))) rfl rfl)),?_⟩|refine⟨.inl (Ext.refl _),?_⟩|refine⟨.inr (.inr rfl),?_⟩|refine⟨.inr (by kernel_rfl),?_⟩|refine⟨.inl (by kernel_rfl),?_⟩|refine id ?_);refine gH ?_
    refine O.buildLX (l:=([r56,r57]:(List Asg))) (enc:=encAsg) (s:=2) (z:=(.agg ⟨[(i64 0),(n8 0)]⟩)) rfl rfl (by kernel_rfl) (by kernel_rfl) rfl rfl rfl rfl (fun _=>rfl) fun g58 h O=>?_;refine gH ?_
    obtain⟨hn61,hm⟩:=hm
    refine O.useL (fun _ hb=>learns_Saturate_walk hm hb) (.head _) hn61 (fun _=>rfl) (i:=2) rfl (by kernel_rfl) (fun h2 q=>(LLe.cons (VLe.refl _ _) (LLe.cons (VLe.refl _ _) (LLe.cons (q) (LLe.nil _))))) (fun r60 h hm' O=>?_);replace hm:=hm';refine gH ?_
    (first|refine⟨.inr (.inr (loadK rfl (O.at (.head _)) rfl rfl)),?_⟩|refine⟨.inr (.inr (loadK rfl (O.at (.tail _ (.head _))) rfl rfl)),?_⟩|refine⟨.inr (.inr (loadK rfl (O.at (.tail _ (.tail _ (.head _)))) rfl rfl)),?_⟩|refine⟨.inr (.inr (loadK rfl (O.at (.tail _ (.tail _ (.tail _ (.head _))))) rfl rfl)),?_⟩|refine⟨.inr (.inr (loadK rfl (O.at (.tail _ (.tail _ (.tail _ (.tail _ (.head _)))))) rfl rfl)),?_⟩|refine⟨.inr (.inr (loadK rfl (O.at (.tail _ (.tail _ (.tail _ (.tail _ (.tail _ (.head _))))))) rfl rfl)),?_⟩|refine⟨.inr (.inr (loadK rfl (O.at (.tail _ (.tail _ (.tail _ (.tail _ (.tail _ (.tail _ (.head _)))))))) rfl rfl)),?_⟩|refine⟨.inl (Ext.refl _),?_⟩|refine⟨.inr (.inr rfl),?_⟩|refine⟨.inr (by kernel_rfl),?_⟩|refine⟨.inl (by kernel_rfl),?_⟩|refine id ?_);refine gH ?_
    refine gX ?_
    refine ldA (O.at (.tail _ (.tail _ (.tail _ (.head _))))) ?_;refine gH ?_
    first|refine⟨.inr (.inr (loadAggK rfl (O.at (.tail _ (.tail _ (.tail _ (.head _))))) rfl rfl (lbE rfl) rfl)),?_⟩|refine⟨.inr (.inl (by kernel_rfl)),?_⟩
    refine gX ?_
    refine ca (probecardlaw25_at_walk hm O.has) fun r62 hm=>?_;refine gH ?_
    (first|refine⟨.inr (.inr (loadK rfl (O.at (.head _)) rfl rfl)),?_⟩|refine⟨.inr (.inr (loadK rfl (O.at (.tail _ (.head _))) rfl rfl)),?_⟩|refine⟨.inr (.inr (loadK rfl (O.at (.tail _ (.tail _ (.head _)))) rfl rfl)),?_⟩|refine⟨.inr (.inr (loadK rfl (O.at (.tail _ (.tail _ (.tail _ (.head _))))) rfl rfl)),?_⟩|refine⟨.inr (.inr (loadK rfl (O.at (.tail _ (.tail _ (.tail _ (.tail _ (.head _)))))) rfl rfl)),?_⟩|refine⟨.inr (.inr (loadK rfl (O.at (.tail _ (.tail _ (.tail _ (.tail _ (.tail _ (.head _))))))) rfl rfl)),?_⟩|refine⟨.inr (.inr (loadK rfl (O.at (.tail _ (.tail _ (.tail _ (.tail _ (.tail _ (.tail _ (.head _)))))))) rfl rfl)),?_⟩|refine⟨.inl (Ext.refl _),?_⟩|refine⟨.inr (.inr rfl),?_⟩|refine⟨.inr (by kernel_rfl),?_⟩|refine⟨.inl (by kernel_rfl),?_⟩|refine id ?_);refine gH ?_
    refine ca (probecardlaw25_at_walk hm O.has) fun r63 hm=>?_;refine gH ?_
    (first|refine⟨.inr (.inr (loadK rfl (O.at (.head _)) rfl rfl)),?_⟩|refine⟨.inr (.inr (loadK rfl (O.at (.tail _ (.head _))) rfl rfl)),?_⟩|refine⟨.inr (.inr (loadK rfl (O.at (.tail _ (.tail _ (.head _)))) rfl rfl)),?_⟩|refine⟨.inr (.inr (loadK rfl (O.at (.tail _ (.tail _ (.tail _ (.head _))))) rfl rfl)),?_⟩|refine⟨.inr (.inr (loadK rfl (O.at (.tail _ (.tail _ (.tail _ (.tail _ (.head _)))))) rfl rfl)),?_⟩|refine⟨.inr (.inr (loadK rfl (O.at (.tail _ (.tail _ (.tail _ (.tail _ (.tail _ (.head _))))))) rfl rfl)),?_⟩|refine⟨.inr (.inr (loadK rfl (O.at (.tail _ (.tail _ (.tail _ (.tail _ (.tail _ (.tail _ (.head _)))))))) rfl rfl)),?_⟩|refine⟨.inl (Ext.refl _),?_⟩|refine⟨.inr (.inr rfl),?_⟩|refine⟨.inr (by kernel_rfl),?_⟩|refine⟨.inl (by kernel_rfl),?_⟩|refine id ?_);refine gH ?_
    refine O.buildLX (l:=([r62,r63]:(List Asg))) (enc:=encAsg) (s:=2) (z:=(.agg ⟨[(i64 0),(n8 0)]⟩)) rfl rfl (by kernel_rfl) (by kernel_rfl) rfl rfl rfl rfl (fun _=>rfl) fun g64 h O=>?_;refine gH ?_
    obtain⟨hn67,hm⟩:=hm
    refine O.useL (fun _ hb=>learns_Saturate_walk hm hb) (.head _) hn67 (fun _=>rfl) (i:=2) rfl (by kernel_rfl) (fun h2 q=>(LLe.cons (VLe.refl _ _) (LLe.cons (VLe.refl _ _) (LLe.cons (q) (LLe.nil _))))) (fun r66 h hm' O=>?_);replace hm:=hm';refine gH ?_
    (first|refine⟨.inr (.inr (loadK rfl (O.at (.head _)) rfl rfl)),?_⟩|refine⟨.inr (.inr (loadK rfl (O.at (.tail _ (.head _))) rfl rfl)),?_⟩|refine⟨.inr (.inr (loadK rfl (O.at (.tail _ (.tail _ (.head _)))) rfl rfl)),?_⟩|refine⟨.inr (.inr (loadK rfl (O.at (.tail _ (.tail _ (.tail _ (.head _))))) rfl rfl)),?_⟩|refine⟨.inr (.inr (loadK rfl (O.at (.tail _ (.tail _ (.tail _ (.tail _ (.head _)))))) rfl rfl)),?_⟩|refine⟨.inr (.inr (loadK rfl (O.at (.tail _ (.tail _ (.tail _ (.tail _ (.tail _ (.head _))))))) rfl rfl)),?_⟩|refine⟨.inr (.inr (loadK rfl (O.at (.tail _ (.tail _ (.tail _ (.tail _ (.tail _ (.tail _ (.head _)))))))) rfl rfl)),?_⟩|refine⟨.inl (Ext.refl _),?_⟩|refine⟨.inr (.inr rfl),?_⟩|refine⟨.inr (by kernel_rfl),?_⟩|refine⟨.inl (by kernel_rfl),?_⟩|refine id ?_);refine gH ?_
    refine gX ?_
    refine br hm (fun hm=>?_) fun hm=>?_
    ·refine gX ?_
     refine br hm (fun hm=>?_) fun hm=>?_
     ·refine gX ?_
      refine br hm (fun hm=>?_) fun hm=>?_
      ·refine gX ?_
       refine br hm (fun hm=>?_) fun hm=>?_
       ·refine gX ?_
        refine lmN ?_;refine gH ?_
        refine br hm (fun hm=>?_) fun hm=>?_
        ·refine gX ?_
         refine atN hm fun x68 hx68 hm=>?_;refine gH ?_
         refine br hm (fun hm=>?_) fun hm=>?_
         ·refine gX ?_
          refine atN hm fun x69 hx69 hm=>?_;refine gH ?_
          refine br hm (fun hm=>?_) fun hm=>?_
          ·refine gX ?_
           refine br hm (fun hm=>?_) fun hm=>?_
           ·refine gX ?_
            refine br hm (fun hm=>?_) fun hm=>?_
            ·refine gX ?_
             refine ca (law25_lives_walk hm O.has) fun r70 hm=>?_;refine gX ?_
             exact fe hm O
            ·refine gX ?_
             exact fe hm O
           ·refine gX ?_
            refine bf ?_;refine gX ?_
            exact fe hm O
          ·refine gX ?_
           refine bf ?_;refine gH ?_
           refine bf ?_;refine gX ?_
           exact fe hm O
         ·refine gX ?_
          refine bf ?_;refine gH ?_
          refine bf ?_;refine gH ?_
          refine bf ?_;refine gX ?_
          exact fe hm O
        ·refine gX ?_
         refine bf ?_;refine gH ?_
         refine bf ?_;refine gH ?_
         refine bf ?_;refine gH ?_
         refine bf ?_;refine gX ?_
         exact fe hm O
       ·refine gX ?_
        refine bf ?_;refine gH ?_
        refine bf ?_;refine gH ?_
        refine bf ?_;refine gH ?_
        refine bf ?_;refine gH ?_
        refine bf ?_;refine gX ?_
        exact fe hm O
      ·refine gX ?_
       refine bf ?_;refine gH ?_
       refine bf ?_;refine gH ?_
       refine bf ?_;refine gH ?_
       refine bf ?_;refine gH ?_
       refine bf ?_;refine gH ?_
       refine bf ?_;refine gX ?_
       exact fe hm O
     ·refine gX ?_
      refine bf ?_;refine gH ?_
      refine bf ?_;refine gH ?_
      refine bf ?_;refine gH ?_
      refine bf ?_;refine gH ?_
      refine bf ?_;refine gH ?_
      refine bf ?_;refine gH ?_
      refine bf ?_;refine gX ?_
      exact fe hm O
    ·refine gX ?_
     refine bf ?_;refine gH ?_
     refine bf ?_;refine gH ?_
     refine bf ?_;refine gH ?_
     refine bf ?_;refine gH ?_
     refine bf ?_;refine gH ?_
     refine bf ?_;refine gH ?_
     refine bf ?_;refine gH ?_
     refine bf ?_;refine gX ?_
     exact fe hm O
def nmK (i:Nat):ByteArray:=⟨#[110,UInt8.ofNat (48+i/100),UInt8.ofNat (48+i/10%10),UInt8.ofNat (48+i%10)]⟩
def isF:Option (Value×Heap)→Bool
 |some (.bool false,_)=>true
 |_=>false
theorem isF_iff {x:Option (Value×Heap)} (h:isF x=true):∃ h',x=some (.bool false,h'):=by
 unfold isF at h
 split at h
 ·exact⟨_,rfl⟩
 ·cases h
def deadV:List AObj:=[.dead,.dead]
theorem deadV_get {g:Nat}{o:AObj} (e:deadV[g]?=some o):o=.dead:=by
 have:=List.mem_of_getElem? e
 simp only[deadV,List.mem_cons,List.not_mem_nil,or_false,or_self] at this
 exact this
theorem bears_dead {h:Heap} (hs:NG≤h.size):Go.Abs.Bears NG (heapOf deadV) h:=by
 refine⟨rfl,hs,fun g o e=>?_⟩
 rw[heapOf_get] at e
 exact .inl (deadV_get e)
def runes:List Int:=[48,49,50,51,52,53,54,55,56,57,110]
theorem bad_run:(runes.all fun r=>isF (runFn Tryz.prog [] (orcExt Tryz.prog) 60 147 #[.int .i32 r] (heapOf deadV)))=true:=by kernel_rfl
noncomputable def orcB (f:FuncId) (vs:Array Value) (h:Heap):Option Value :=
 match Nat.beq f 147 with
 |true=>match vs.toList with
  |[.int .i32 r]=>match runes.contains r with
   |true=>some (.bool false)
   |false=>none
  |_=>none
 |false=>orcExt Tryz.prog f vs h
theorem orcB_sound (f:FuncId) (vs:Array Value) (h:Heap) (v:Value) (e:orcB f vs h=some v):CallD Tryz.prog NG f vs h v h:=by
 unfold orcB at e
 split at e
 ·rename_i hf
  split at e
  ·rename_i r hv
   split at e
   ·rename_i hr
    cases e
    obtain rfl:f=147:=Nat.eq_of_beq_eq_true hf
    obtain rfl:vs = #[.int .i32 r]:=Array.ext' hv
    obtain⟨h',e⟩:=isF_iff (List.all_eq_true.1 bad_run r (List.contains_iff_mem.1 hr))
    have c:=(runFn_sound hM hP (fun f vs h v e=>orcExt_sound f vs h v e) 60 _ _ _ _ _ e).1
    exact CallD.sized fun hle=>c.lift (by kernel_rfl) rfl (bears_dead hle)
   ·cases e
  ·cases e
 ·exact orcExt_sound f vs h v e
theorem isname_runK1:((List.range 180).all fun i=>isTrue (runFn Tryz.prog [] orcB 60 142 #[.string (nmK i)] (heapOf deadV)))=true:=by kernel_rfl
theorem isname_runK2:((List.range 180).all fun i=>isTrue (runFn Tryz.prog [] orcB 60 142 #[.string (nmK (180+i))] (heapOf deadV)))=true:=by kernel_rfl
theorem isname_runK3:((List.range 160).all fun i=>isTrue (runFn Tryz.prog [] orcB 60 142 #[.string (nmK (360+i))] (heapOf deadV)))=true:=by kernel_rfl
theorem isNmK {i:Nat} (hi:i<520):IsNm (nmK i):=by
 have hr:isTrue (runFn Tryz.prog [] orcB 60 142 #[.string (nmK i)] (heapOf deadV))=true:=by
  by_cases h1:i<180
  ·exact List.all_eq_true.1 isname_runK1 i (List.mem_range.2 h1)
  by_cases h2:i<360
  ·have:=List.all_eq_true.1 isname_runK2 (i-180) (List.mem_range.2 (by omega))
   rwa [show 180+(i-180)=i by omega] at this
  ·have:=List.all_eq_true.1 isname_runK3 (i-360) (List.mem_range.2 (by omega))
   rwa [show 360+(i-360)=i by omega] at this
 obtain⟨h',e⟩:=isTrue_iff hr
 have c:=(runFn_sound hM hP orcB_sound 60 _ _ _ _ _ e).1
 exact⟨PureV.flatB rfl,fun h b=>c.lift (by kernel_rfl) rfl (bears_dead (hasSize b))⟩
theorem nmK_inj {i j:Nat} (hi:i<1000) (hj:j<1000) (h:nmK i=nmK j):i=j:=by
 have h1:=congrArg (fun s:ByteArray=>s.data.toList) h
 simp only[nmK,List.cons.injEq,and_true,true_and] at h1
 obtain⟨a,b,c⟩:=h1
 have a:=congrArg UInt8.toNat a
 have b:=congrArg UInt8.toNat b
 have c:=congrArg UInt8.toNat c
 simp only[UInt8.toNat_ofNat'] at a b c
 omega
def chain (n:Nat):Circ:=⟨⟨0,[],0,0⟩::(List.range n).map (fun i=>⟨3,[i],0,0⟩),⟨#[97]⟩::(List.range n).map (fun i=>nmK (i+1)),[],[0]⟩
theorem chain_len (n:Nat):(chain n).nodes.length=n+1:=by simp[chain]
theorem chain_node {n i:Nat}{x:Node} (h:(chain n).nodes[i]?=some x):(i=0∧x=⟨0,[],0,0⟩)∨(∃ j,i=j+1∧j<n∧x=⟨3,[j],0,0⟩):=by
 cases i with
 |zero=>simp only[chain,List.getElem?_cons_zero,Option.some.injEq] at h;exact .inl ⟨rfl,h.symm⟩
 |succ j =>
  simp only[chain,List.getElem?_cons_succ,List.getElem?_map] at h
  by_cases hj:j<n
  ·rw[List.getElem?_range hj] at h
   simp only[Option.map_some,Option.some.injEq] at h
   exact .inr ⟨j,rfl,hj,h.symm⟩
  ·rw[List.getElem?_eq_none (by simpa using hj)] at h
   cases h
theorem chain_at {n j:Nat} (hj:j<n):(chain n).nodes[j+1]?=some ⟨3,[j],0,0⟩:=by
 simp only[chain,List.getElem?_cons_succ,List.getElem?_map,List.getElem?_range hj,Option.map_some]
theorem chain_succ_nodes (n:Nat):(chain n).nodes++[⟨3,[n],0,0⟩]=(chain (n+1)).nodes:=by simp[chain,List.range_succ]
theorem chain_succ_names (n:Nat):(chain n).names++[nmK (n+1)]=(chain (n+1)).names:=by simp[chain,List.range_succ]
theorem chain_names {n:Nat} (hn:n≤512):NamesOk (chain n):=by
 refine FnV.of_walk (enc:=i64) (PureV.flat rfl) fun h hB=>?_
 refine names_all_walk (K:=fun r=>r=0) (names_all_vc ?_ ?_ ?_ rfl) hB
 ·intro s m
  simp only[chain,List.mem_cons,List.mem_map,List.mem_range] at m
  rcases m with rfl|⟨i,hi,rfl⟩
  ·exact isNm25 (.head _)
  ·exact isNmK (by omega)
 ·unfold chain List.Nodup
  refine List.pairwise_cons.2 ⟨fun s m e=>?_,?_⟩
  ·obtain⟨i,_,rfl⟩:=List.mem_map.1 m
   have:=congrArg ByteArray.size e
   simp[nmK,ByteArray.size] at this
  ·rw[List.pairwise_map]
   refine List.Pairwise.imp_of_mem ?_ (List.nodup_range (n:=n))
   intro a b ha hb hne e
   have:=nmK_inj (by have:=List.mem_range.1 ha;omega) (by have:=List.mem_range.1 hb;omega) e
   omega
 ·simp[chain];omega
theorem chain_cc {n:Nat} (hn:n≤512):CC (chain n):=by
 have ins:∀ (i:Nat) (x:Node),(chain n).nodes[i]?=some x→(∀ k∈x.ins,k<(chain n).nodes.length)∧x.ins.length≤16:=fun i x hx=>by
  rw[chain_len]
  rcases chain_node hx with⟨_,rfl⟩|⟨j,_,hj,rfl⟩
  ·exact⟨(fun k m=>by cases m),by decide⟩
  ·exact⟨(fun k m=>by rw[List.mem_singleton.1 m];omega),by simp⟩
 have F:FanOk (chain n):=fan_ok ⟨by rw[chain_len];omega,ins⟩
 refine⟨⟨⟨by rw[chain_len];omega,by simp[chain],chain_names hn,F,fun m hm=>(by cases hm),Nat.zero_le _,fun o m=>?_,by simp[chain],fun i x hx=>?_,by rw[chain_len];omega⟩,rfl,fun i x hx=>?_⟩,fun i x hx=>?_⟩
 ·rw[List.mem_singleton.1 m,chain_len];omega
 ·have q:=(ins i x hx).1
  rcases chain_node hx with⟨_,rfl⟩|⟨j,rfl,hj,rfl⟩
  ·exact⟨by decide,by decide,q,(fun e=>by cases e),fun _=>⟨rfl,rfl⟩,(fun e=>by cases e),fun e=>absurd e (by decide)⟩
  ·exact⟨(by show 3≤15;decide),(by show Arity 3 1;decide),q,(fun e=>absurd e (by show ¬ 3=13;decide)),fun _=>⟨rfl,rfl⟩,(fun e=>absurd e (by show ¬ 3=15;decide)),(fun _ _ k m=>by rw[List.mem_singleton.1 m];omega)⟩
 ·rcases chain_node hx with⟨_,rfl⟩|⟨j,_,_,rfl⟩ <;> simp
 ·rcases chain_node hx with⟨_,rfl⟩|⟨j,_,_,rfl⟩ <;> simp
theorem buf_one:(gateR 3 1 [1]).2.2=true∧(gateR 3 1 [1]).1=1∧(gateR 3 1 [1]).2.1=[1]:=by decide +kernel
theorem buf_zero:(gateR 3 1 [0]).2.2=false:=by decide +kernel
theorem buf_x:(gateR 3 1 [2]).2.1=[1]:=by decide +kernel
theorem chain_ones (n:Nat):CW (chain n) [⟨n,1⟩] (List.replicate (n+1) 1):=by
 have gd:∀ i,i<n+1→(List.replicate (n+1) 1).getD i 0=1:=fun i hi=>by rw[List.getD,List.getElem?_replicate,if_pos hi];rfl
 refine⟨by rw[chain_len];simp,fun i=>?_,fun a m=>?_,fun i x hx hf=>?_⟩
 ·rw[List.getD,List.getElem?_replicate]
  split <;> simp
 ·rw[List.mem_singleton.1 m];exact gd n (by omega)
 ·rcases chain_node hx with⟨_,rfl⟩|⟨j,rfl,hj,rfl⟩
  ·cases hf
  ·have e:insV (List.replicate (n+1) 1) ⟨3,[j],0,0⟩=[1]:=by
    show [(List.replicate (n+1) 1).getD j 0]=[1]
    rw[gd j (by omega)]
   rw[e,gd (j+1) (by omega)]
   obtain⟨h1,h2,h3⟩:=buf_one
   exact⟨h1,by rw[h2];exact .inr rfl,fun k=>by rw[h3];exact .inr rfl⟩
theorem chain_law {n:Nat} (hn:n≤512):∃ v,lawO (chain n) [] [⟨n,1⟩]=some v∧v.length=n+1∧v.getD 0 0=1:=by
 have C:=chain_cc hn
 have g:GivOk (chain n) [⟨n,1⟩]:=⟨fun a m=>by rw[List.mem_singleton.1 m,chain_len];exact⟨Nat.lt_succ_self n,Nat.le_refl 1⟩,by simp⟩
 rcases clo_cases C.p C.f3 g with⟨v,D,_⟩|⟨N,_⟩
 ·have L:Lst (lawP (chain n) []) [⟨n,1⟩] v:=⟨⟨(cw_split.1 D.cw).1,fun l m=>by cases m⟩,D.giv,fun t T E=>⟨rfl,D.snd t (cw_split.2 ⟨T.1,E⟩)⟩⟩
  refine⟨v,lstO_ok lawP_len L,D.len.trans (chain_len n),?_⟩
  have key:∀ k,k≤n→v.getD (n-k) 0=1:=by
   intro k
   induction k with
   |zero=>intro _;exact D.giv ⟨n,1⟩ (.head _)
   |succ k ih =>
    intro hk
    have h1:=ih (by omega)
    have hj:n-(k+1)<n:=by omega
    have e1:n-k=n-(k+1)+1:=by omega
    rw[e1] at h1
    have cl:=D.cls (n-(k+1)+1) (by rw[chain_len];omega) _ (chain_at hj) rfl
    have hle:=D.le (n-(k+1))
    have e:insV v ⟨3,[n-(k+1)],0,0⟩=[v.getD (n-(k+1)) 0]:=rfl
    rw[e,h1] at cl
    generalize v.getD (n-(k+1)) 0=z at *
    obtain⟨c1,_,c3⟩:=cl
    have hz:z=0∨z=1∨z=2:=by omega
    rcases hz with rfl|rfl|rfl
    ·rw[buf_zero] at c1;cases c1
    ·rfl
    ·have:=c3 0
     rw[buf_x] at this
     rcases this with q|q <;> cases q
  have:=key n (Nat.le_refl n)
  rwa [Nat.sub_self] at this
 ·exact absurd (chain_ones n) (N _)
theorem sat_full {c:Circ} (C:CC c) {given:List Asg} (g:GivOk c given) {v:List Nat} (h:closeC c given v=true) (hk:∀ n,n<c.nodes.length→v.getD n 0≠2) (d:Nat):satO c d given=some v:=by
 have D:=clo_some (closeC_ok C.p C.f3 g h)
 have W:=(cw_split.1 D.cw).1
 have P:satP c d v:=by
  cases d with
  |zero=>exact W
  |succ d=>exact⟨W,fun n hn h2=>absurd h2 (hk n hn)⟩
 exact lstO_ok satP_len ⟨P,D.giv,fun t T E=>by rw[D.len];exact⟨D.len,D.snd t (cw_split.2 ⟨satP_cw T,E⟩)⟩⟩
theorem sat_none {c:Circ} (C:CC c) {given:List Asg} (g:GivOk c given) (h:closeF c given=none) (d:Nat):satO c d given=none :=
 lstO_none fun t T E=>clo_no C.p C.f3 g (closeN_ok C.p C.f3 g h) t (cw_split.2 ⟨satP_cw T,E⟩)
theorem k1:lawO c25 [⟨⟨0,1⟩,⟨1,1⟩⟩,⟨⟨1,1⟩,⟨0,0⟩⟩] [⟨0,1⟩]=none:=lstO_none fun t T E=>by
 have h1:=E ⟨0,1⟩ (List.mem_singleton.2 rfl)
 have h2:=T.2 ⟨⟨0,1⟩,⟨1,1⟩⟩ (.head _) h1
 have h3:=T.2 ⟨⟨1,1⟩,⟨0,0⟩⟩ (.tail _ (.head _)) h2
 dsimp only at h1 h3
 omega
theorem k2:satO c25 4 [⟨5,0⟩,⟨0,1⟩]=some [1,0,0,0,0,0]:=sat_full cc_c25 (givB_ok (by decide +kernel)) (by decide +kernel) (by decide +kernel) 4
theorem k3:satO c25 1 [⟨5,0⟩,⟨1,1⟩]=none:=sat_none cc_c25 (givB_ok (by decide +kernel)) (by decide +kernel) 1
theorem nmK_of {i:Nat} (hi:i<520):(⟨((⟨#[110]⟩:ByteArray).data.toList++(strOfNums (([((48+(i/100))%256),((48+((i/10)%10))%256),((48+(i%10))%256)]:(List Nat)).map Int.ofNat)).data.toList).toArray⟩:ByteArray)=nmK i:=by
 rw[Nat.mod_eq_of_lt (by omega:48+i/100<256),Nat.mod_eq_of_lt (by omega:48+i/10%10<256),Nat.mod_eq_of_lt (by omega:48+i%10<256)]
 rfl
theorem learnsKnown_vc {K:Bool→Prop} (k:K true):probecardlaw25_LearnsKnown_wp K:=by
 unfold probecardlaw25_LearnsKnown_wp
 refine joinLoop (fun s=>1≤s.2.2∧s.2.2≤513∧s.1=(chain (s.2.2-1)).nodes∧s.2.1=(chain (s.2.2-1)).names) (fun s=>513-s.2.2) (fun a=>a=((chain 512).nodes,(chain 512).names)) ?_ ⟨Nat.le_refl 1,by decide,rfl,rfl⟩ ?_
 ·rintro kk ⟨v,w,i⟩ nx ⟨h1,h2,h3,h4⟩ hnx hk
  dsimp only at h1 h2 h3 h4
  obtain⟨j,rfl⟩:∃ j,i=j+1:=⟨i-1,by omega⟩
  simp only[Nat.add_sub_cancel] at h3 h4
  subst h3 h4
  have hl:=chain_len j
  have hl2:(chain j).names.length=j+1:=by simp[chain]
  refine⟨fun q=>?_,fun q=>?_⟩
  ·have q:=lt_t.1 q
   refine⟨by omega,by omega,by rw[hl];simp only[List.length_singleton];omega,by omega,by omega,by omega,by omega,by omega,by omega,by omega,by omega,by omega,by rw[strOfNums_size];simp[ByteArray.size],by rw[hl2];simp only[List.length_singleton];omega,by omega,hnx _ ⟨by dsimp only;omega,by dsimp only;omega,?_,?_⟩ (by dsimp only;omega)⟩
   ·dsimp only
    simp only[Nat.add_sub_cancel]
    exact chain_succ_nodes j
   ·dsimp only
    rw[nmK_of (by omega)]
    simp only[Nat.add_sub_cancel]
    exact chain_succ_names j
  ·have q:=lt_f.1 q
   obtain rfl:j=512:=by omega
   exact hk _ rfl
 rintro _ rfl
 have C:CC (chain 512):=chain_cc (Nat.le_refl _)
 have hl:=chain_len 512
 show learns_Static_wp (chain 512) _
 unfold learns_Static_wp probecardlaw25_at_wp
 refine plain_vc C.p ⟨fun q=>absurd rfl (ne_t.1 q),fun _=>⟨fun _=>⟨rfl,?_⟩,fun q=>absurd (lt_f.1 q) (by omega)⟩⟩
 show learns_Close_wp (chain 512) _ _ _
 obtain⟨v,e,vl,v0⟩:=chain_law (Nat.le_refl 512)
 refine lClose_vc C ⟨fun l m=>(by cases m),by decide⟩ ⟨fun a m=>by rw[List.mem_singleton.1 m,hl];exact⟨Nat.lt_succ_self _,Nat.le_refl 1⟩,by decide⟩ (by decide) ?_
 rw[e]
 refine joinB (a:=false) (fun F=>⟨fun e=>absurd rfl (ne_t.1 e),fun _=>⟨fun e=>absurd (lt_t.1 e) (Nat.lt_irrefl 0),fun _=>⟨fun e=>absurd rfl (ne_t.1 e),fun _=>⟨(fun e=>by cases e),fun _=>⟨fun e=>absurd vl (ne_t.1 e),fun _=>?_⟩⟩⟩⟩⟩) ⟨(fun e=>by cases e),fun _=>?_⟩
 ·exact⟨1,(by show v[0]?=some 1;rw[getN vl (by decide:0<512+1),v0]),F⟩
 unfold probecardlaw25_example_wp
 refine⟨rfl,rfl,lClose_vc cc_c25 ⟨fun l m=>?_,by decide⟩ (givB_ok (by decide +kernel)) (by decide) ?_⟩
 ·rcases List.mem_cons.1 m with rfl|m
  ·decide
  ·rw[List.mem_singleton.1 m];decide
 rw[k1]
 refine⟨rfl,lSaturate_vc cc_c25 (by decide) (givB_ok (by decide +kernel)) ?_⟩
 rw[k2]
 refine⟨rfl,lSaturate_vc cc_c25 (by decide) (givB_ok (by decide +kernel)) ?_⟩
 rw[k3]
 exact⟨fun _=>⟨fun _=>⟨fun _=>⟨fun _=>⟨fun _=>⟨_,rfl,fun _=>⟨_,rfl,fun _=>⟨fun _=>⟨fun _=>k,(fun e=>by cases e)⟩,fun e=>absurd rfl (eq_f.1 e)⟩,fun e=>absurd rfl (eq_f.1 e)⟩,fun e=>absurd rfl (eq_f.1 e)⟩,fun e=>absurd rfl (eq_f.1 e)⟩,(fun e=>by cases e)⟩,fun e=>absurd rfl (eq_f.1 e)⟩,(fun e=>by cases e)⟩,fun e=>absurd rfl (eq_f.1 e)⟩
def learnsKnown_sh:List (Sh×Bool):=[]
theorem learnsKnown_call (x:DenL learnsKnown_sh) (_w:wfL learnsKnown_sh x):FnV Tryz.prog NG vars 7 ⟨argL learnsKnown_sh x⟩ (.bool true) :=
 FnV.of_walk (enc:=Value.bool) (r:=true) (PureV.flat rfl) fun _h hB=>probecardlaw25_LearnsKnown_walk (K:=fun r=>r=true) (learnsKnown_vc rfl) hB
end Go.Proofs.YteanlacbmiiloaaGreatDoor
