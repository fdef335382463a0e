/-
  R4, QL, Lw2, R3, Q7, Q10, Q11, Q12, Q13, Q14, LearnsComplete: parts of the proof.
-/
import Derived.Test.YtfhldkgelipnaaaGreatDoorLm48
namespace Go.Proofs.YtfhldkgelipnaaaGreatDoor
open Go.Abs
set_option maxRecDepth 100000
set_option maxHeartbeats 8000000
def probecardlaw25_lives_wp  (K:Bool→Prop):Prop :=
 probecardlaw25_example_wp  (fun r1=>probecardlaw25_at_wp 5 1 (fun r6=>1=([r6]:(List Asg)).length∧learns_Saturate_wp r1 0 ([r6]:(List Asg)) (fun r9=>probecardlaw25_at_wp 5 1 (fun r11=>1=([r11]:(List Asg)).length∧learns_Saturate_wp r1 1 ([r11]:(List Asg)) (fun r14=>learns_Static_wp r1 (fun r16=>learns_Static_wp (⟨([(⟨0,([]:(List Nat)),0,0⟩:Node),(⟨4,([0]:(List Nat)),0,0⟩:Node),(⟨5,([0,1]:(List Nat)),0,0⟩:Node)]:(List Node)),([(⟨#[97]⟩:ByteArray),(⟨#[98]⟩:ByteArray),(⟨#[99]⟩:ByteArray)]:(List ByteArray)),([]:(List Memo)),([2]:(List Nat))⟩:Circ) (fun r17=>learns_Saturate_wp (⟨([(⟨0,([]:(List Nat)),0,0⟩:Node),(⟨4,([0]:(List Nat)),0,0⟩:Node),(⟨5,([0,1]:(List Nat)),0,0⟩:Node)]:(List Node)),([(⟨#[97]⟩:ByteArray),(⟨#[98]⟩:ByteArray),(⟨#[99]⟩:ByteArray)]:(List ByteArray)),([]:(List Memo)),([2]:(List Nat))⟩:Circ) 1 ([]:(List Asg)) (fun r18=>joinW (α:=Bool) (fun k20=>((neN r9.2.2 0)=true→k20 true)∧((neN r9.2.2 0)=false→((neN r14.2.2 0)=true→k20 true)∧((neN r14.2.2 0)=false→((neN r16.2 0)=true→k20 true)∧((neN r16.2 0)=false→((neN r17.2 0)=true→k20 true)∧((neN r17.2 0)=false→((neN r18.2.2 0)=true→k20 true)∧((neN r18.2.2 0)=false→probecardlaw25_equal_wp r9.1 r9.2.1 ([2,2,2,2,2,1]:(List Nat)) true (fun r21=>((!r21)=true→k20 true)∧((!r21)=false→probecardlaw25_equal_wp r14.1 r14.2.1 ([2,1,2,2,2,1]:(List Nat)) true (fun r22=>((!r22)=true→k20 true)∧((!r22)=false→probecardlaw25_equal_wp r18.1 r18.2.1 ([2,2,0]:(List Nat)) true (fun r23=>k20 (!r23)))))))))))) (fun v19=>(v19=true→K false)∧(v19=false→joinW (α:=Bool) (fun k25=>((neN r16.1.length 1)=true→k25 true)∧((neN r16.1.length 1)=false→∃ x26,r16.1[0]?=some x26∧probecardlaw25_at_wp 5 1 (fun r27=>probecardlaw25_at_wp 1 1 (fun r28=>((!(((eqN x26.cond.net r27.net)&&((eqN x26.cond.value r27.value)&&true))&&(((eqN x26.thn.net r28.net)&&((eqN x26.thn.value r28.value)&&true))&&true)))=true→k25 true)∧((!(((eqN x26.cond.net r27.net)&&((eqN x26.cond.value r27.value)&&true))&&(((eqN x26.thn.net r28.net)&&((eqN x26.thn.value r28.value)&&true))&&true)))=false→((neN r17.1.length 1)=true→k25 true)∧((neN r17.1.length 1)=false→∃ x29,r17.1[0]?=some x29∧probecardlaw25_at_wp 2 1 (fun r30=>probecardlaw25_at_wp 2 0 (fun r31=>k25 (!(((eqN x29.cond.net r30.net)&&((eqN x29.cond.value r30.value)&&true))&&(((eqN x29.thn.net r31.net)&&((eqN x29.thn.value r31.value)&&true))&&true))))))))))) (fun v24=>(v24=true→K false)∧(v24=false→probecardlaw25_at_wp 2 1 (fun r32=>1=([r32]:(List Asg)).length∧learns_Close_wp (⟨([(⟨0,([]:(List Nat)),0,0⟩:Node),(⟨4,([0]:(List Nat)),0,0⟩:Node),(⟨5,([0,1]:(List Nat)),0,0⟩:Node)]:(List Node)),([(⟨#[97]⟩:ByteArray),(⟨#[98]⟩:ByteArray),(⟨#[99]⟩:ByteArray)]:(List ByteArray)),([]:(List Memo)),([2]:(List Nat))⟩:Circ) r17.1 ([r32]:(List Asg)) (fun r35=>probecardlaw25_at_wp 0 1 (fun r37=>probecardlaw25_at_wp 1 1 (fun r38=>probecardlaw25_at_wp 0 1 (fun r41=>1=([(⟨r37,r38⟩:Lawv)]:(List Lawv)).length∧1=([r41]:(List Asg)).length∧learns_Close_wp r1 ([(⟨r37,r38⟩:Lawv)]:(List Lawv)) ([r41]:(List Asg)) (fun r44=>((eqN r35.2.2 0)=true→((!r35.2.1)=true→((eqN r44.2.2 0)=true→probecardlaw25_equal_wp r44.1 r44.2.1 ([1,1,1,0,0,1]:(List Nat)) true (fun r49=>K r49))∧((eqN r44.2.2 0)=false→K false))∧((!r35.2.1)=false→K false))∧((eqN r35.2.2 0)=false→K false)))))))))))))))))))
theorem probecardlaw25_lives_walk  {K:Bool→Prop} (hm:probecardlaw25_lives_wp  K) {h0:Heap} (hB:HasB vars h0):∃ r,K r∧CallD Tryz.prog NG 23 ⟨[]⟩ h0 (Value.bool r) h0:=by
 unfold probecardlaw25_lives_wp at hm
 refine fw Tryz.func23 hB (enc:=Value.bool) (fun r=>PureV.flat rfl) fun O=>?_;conv=>whnf
 refine gX ?_
 refine ca (probecardlaw25_example_walk hm O.has) fun r1 hm=>?_;refine gH ?_
 refine O.new (anew_alloc (l:=[(.slice none 0 0),(.slice none 0 0),(.slice none 0 0),(.slice none 0 0)]) rfl rfl rfl) fun g2 h O=>?_;refine gH ?_
 refine O.stC 4 (.head _) [((encL 4 encNode) r1.nodes),((encL 1 Value.string) r1.names),((encL 3 encMem) r1.mems),((encL 1 i64) r1.outs)] fun h O=>?_;refine gX ?_
 refine fz ?_;refine gH ?_
 refine fz ?_;refine gH ?_
 refine NewG.frzW rfl (VLe.els (s:=4) (es':=([(⟨0,([]:(List Nat)),0,0⟩:Node),(⟨4,([0]:(List Nat)),0,0⟩:Node),(⟨5,([0,1]:(List Nat)),0,0⟩:Node)]).map encNode) rfl (map_size (enc:=encNode) (s:=4) (fun _=>rfl) _) (LLe.cons (VLe.refl _ _) (LLe.cons (VLe.nil _ _) (LLe.cons (VLe.refl _ _) (LLe.cons (VLe.refl _ _) (LLe.cons (VLe.refl _ _) (LLe.cons (VLe.refl _ _) (LLe.cons (VLe.refl _ _) (LLe.cons (VLe.refl _ _) (LLe.cons (VLe.refl _ _) (LLe.cons (VLe.refl _ _) (LLe.cons (VLe.refl _ _) (LLe.cons (VLe.refl _ _) (LLe.nil _)))))))))))))) ?_;refine gH ?_
 refine fz ?_;refine gH ?_
 refine fz ?_;refine gH ?_
 refine O.new (anew_alloc (l:=[(.slice none 0 0),(.slice none 0 0),(.slice none 0 0),(.slice none 0 0)]) rfl rfl rfl) fun g4 h O=>?_;refine gH ?_
 refine O.stC 4 (.head _) [((encL 4 encNode) ([(⟨0,([]:(List Nat)),0,0⟩:Node),(⟨4,([0]:(List Nat)),0,0⟩:Node),(⟨5,([0,1]:(List Nat)),0,0⟩:Node)]:(List Node))),((encL 1 Value.string) ([(⟨#[97]⟩:ByteArray),(⟨#[98]⟩:ByteArray),(⟨#[99]⟩:ByteArray)]:(List ByteArray))),(.slice none 0 0),((encL 1 i64) ([2]:(List Nat)))] fun h O=>?_;refine gX ?_
 refine ldA (O.at (.tail _ (.head _))) ?_;refine gH ?_
 first|refine⟨.inr (.inr (loadAggK rfl (O.at (.tail _ (.head _))) rfl rfl (lbE rfl) rfl)),?_⟩|refine⟨.inr (.inl (by kernel_rfl)),?_⟩
 refine gX ?_
 refine ca (probecardlaw25_at_walk hm O.has) fun r6 hm=>?_;refine gH ?_
 refine⟨.inl (Ext.refl _),?_⟩;refine gH ?_
 refine O.buildLX (l:=([r6]:(List Asg))) (enc:=encAsg) (s:=2) (z:=(.agg ⟨[(i64 0),(n8 0)]⟩)) rfl rfl (by kernel_rfl) (by kernel_rfl) rfl rfl rfl rfl (fun _=>rfl) fun g7 h O=>?_;refine gH ?_
 obtain⟨hn10,hm⟩:=hm
 refine O.useL (fun _ hb=>learns_Saturate_walk hm hb) (.head _) hn10 (fun _=>rfl) (i:=2) rfl (by kernel_rfl) (fun h2 q=>(LLe.cons (VLe.refl _ _) (LLe.cons (VLe.refl _ _) (LLe.cons (q) (LLe.nil _))))) (fun r9 h hm' O=>?_);replace hm:=hm';refine gH ?_
 refine⟨.inr (by kernel_rfl),?_⟩;refine gH ?_
 refine gX ?_
 refine ldA (O.at (.tail _ (.tail _ (.head _)))) ?_;refine gH ?_
 first|refine⟨.inr (.inr (loadAggK rfl (O.at (.tail _ (.tail _ (.head _)))) rfl rfl (lbE rfl) rfl)),?_⟩|refine⟨.inr (.inl (by kernel_rfl)),?_⟩
 refine gX ?_
 refine ca (probecardlaw25_at_walk hm O.has) fun r11 hm=>?_;refine gH ?_
 refine⟨.inl (Ext.refl _),?_⟩;refine gH ?_
 refine O.buildLX (l:=([r11]:(List Asg))) (enc:=encAsg) (s:=2) (z:=(.agg ⟨[(i64 0),(n8 0)]⟩)) rfl rfl (by kernel_rfl) (by kernel_rfl) rfl rfl rfl rfl (fun _=>rfl) fun g12 h O=>?_;refine gH ?_
 obtain⟨hn15,hm⟩:=hm
 refine O.useL (fun _ hb=>learns_Saturate_walk hm hb) (.head _) hn15 (fun _=>rfl) (i:=2) rfl (by kernel_rfl) (fun h2 q=>(LLe.cons (VLe.refl _ _) (LLe.cons (VLe.refl _ _) (LLe.cons (q) (LLe.nil _))))) (fun r14 h hm' O=>?_);replace hm:=hm';refine gH ?_
 refine⟨.inr (by kernel_rfl),?_⟩;refine gH ?_
 refine gX ?_
 refine ldA (O.at (.tail _ (.tail _ (.tail _ (.head _))))) ?_;refine gH ?_
 refine ca (learns_Static_walk hm O.has) fun r16 hm=>?_;refine gX ?_
 refine ldA (O.at (.tail _ (.tail _ (.head _)))) ?_;refine gH ?_
 refine caW (learns_Static_walk hm O.has) (LLe.cons (VLe.agg (LLe.cons (VLe.refl _ _) (LLe.cons (VLe.refl _ _) (LLe.cons (VLe.nil _ _) (LLe.cons (VLe.refl _ _) (LLe.nil _)))))) (LLe.nil _)) fun r17 hm=>?_;refine gX ?_
 refine ldA (O.at (.tail _ (.tail _ (.head _)))) ?_;refine gH ?_
 refine caW (learns_Saturate_walk hm O.has) (LLe.cons (VLe.agg (LLe.cons (VLe.refl _ _) (LLe.cons (VLe.refl _ _) (LLe.cons (VLe.nil _ _) (LLe.cons (VLe.refl _ _) (LLe.nil _)))))) (LLe.cons (VLe.refl _ _) (LLe.cons (VLe.nil _ _) (LLe.nil _)))) fun r18 hm=>?_;refine gH ?_
 apply Cs;conv=>whnf
 refine jn hm 178 [2,3,10,12] (fun s=>s) (fun v19 h=>Own vars h0 [((some g2),.cells [((encL 4 encNode) r1.nodes),((encL 1 Value.string) r1.names),((encL 3 encMem) r1.mems),((encL 1 i64) r1.outs)] false),((some g4),.cells [((encL 4 encNode) ([(⟨0,([]:(List Nat)),0,0⟩:Node),(⟨4,([0]:(List Nat)),0,0⟩:Node),(⟨5,([0,1]:(List Nat)),0,0⟩:Node)]:(List Node))),((encL 1 Value.string) ([(⟨#[97]⟩:ByteArray),(⟨#[98]⟩:ByteArray),(⟨#[99]⟩:ByteArray)]:(List ByteArray))),(.slice none 0 0),((encL 1 i64) ([2]:(List Nat)))] false)] h) (fun v19=>[(114,(.bool v19))]) (fun hm=>?_) ?_
 ·refine gX ?_
  refine br hm (fun hm=>?_) fun hm=>?_
  ·refine gX ?_
   refine bt ?_;refine gH ?_
   refine bt ?_;refine gH ?_
   refine bt ?_;refine gH ?_
   refine bt ?_;refine gH ?_
   refine bt ?_;refine gH ?_
   refine bt ?_;refine gH ?_
   exact jx true hm (O.sel [3,2] (by decide))
  ·refine gX ?_
   refine br hm (fun hm=>?_) fun hm=>?_
   ·refine gX ?_
    refine bt ?_;refine gH ?_
    refine bt ?_;refine gH ?_
    refine bt ?_;refine gH ?_
    refine bt ?_;refine gH ?_
    refine bt ?_;refine gH ?_
    exact jx true hm (O.sel [3,2] (by decide))
   ·refine gX ?_
    refine br hm (fun hm=>?_) fun hm=>?_
    ·refine gX ?_
     refine bt ?_;refine gH ?_
     refine bt ?_;refine gH ?_
     refine bt ?_;refine gH ?_
     refine bt ?_;refine gH ?_
     exact jx true hm (O.sel [3,2] (by decide))
    ·refine gX ?_
     refine br hm (fun hm=>?_) fun hm=>?_
     ·refine gX ?_
      refine bt ?_;refine gH ?_
      refine bt ?_;refine gH ?_
      refine bt ?_;refine gH ?_
      exact jx true hm (O.sel [3,2] (by decide))
     ·refine gX ?_
      refine br hm (fun hm=>?_) fun hm=>?_
      ·refine gX ?_
       refine bt ?_;refine gH ?_
       refine bt ?_;refine gH ?_
       exact jx true hm (O.sel [3,2] (by decide))
      ·refine gX ?_
       refine fz ?_;refine gH ?_
       refine caW (probecardlaw25_equal_walk hm O.has) (LLe.cons (VLe.ofN) (LLe.cons (VLe.refl _ _) (LLe.cons (VLe.refl _ _) (LLe.cons (VLe.refl _ _) (LLe.nil _))))) fun r21 hm=>?_;refine gH ?_
       refine br hm (fun hm=>?_) fun hm=>?_
       ·refine gX ?_
        refine bt ?_;refine gH ?_
        exact jx true hm (O.sel [3,2] (by decide))
       ·refine gX ?_
        refine fz ?_;refine gH ?_
        refine caW (probecardlaw25_equal_walk hm O.has) (LLe.cons (VLe.ofN) (LLe.cons (VLe.refl _ _) (LLe.cons (VLe.refl _ _) (LLe.cons (VLe.refl _ _) (LLe.nil _))))) fun r22 hm=>?_;refine gH ?_
        refine br hm (fun hm=>?_) fun hm=>?_
        ·refine gX ?_
         exact jx true hm (O.sel [3,2] (by decide))
        ·refine gX ?_
         refine fz ?_;refine gH ?_
         refine caW (probecardlaw25_equal_walk hm O.has) (LLe.cons (VLe.ofN) (LLe.cons (VLe.refl _ _) (LLe.cons (VLe.refl _ _) (LLe.cons (VLe.refl _ _) (LLe.nil _))))) fun r23 hm=>?_;refine gH ?_
         exact jx (!r23) hm (O.sel [3,2] (by decide))
 ·clear hm;rintro v19 base h hm O
  refine gX ?_
  refine br hm (fun hm=>?_) fun hm=>?_
  ·refine gX ?_
   exact fe hm O
  ·apply Cs;conv=>whnf
   apply Cs;conv=>whnf
   refine jn hm 178 [2,3,12] (fun s=>s) (fun v24 h=>Own vars h0 [((some g2),.cells [((encL 4 encNode) r1.nodes),((encL 1 Value.string) r1.names),((encL 3 encMem) r1.mems),((encL 1 i64) r1.outs)] false),((some g4),.cells [((encL 4 encNode) ([(⟨0,([]:(List Nat)),0,0⟩:Node),(⟨4,([0]:(List Nat)),0,0⟩:Node),(⟨5,([0,1]:(List Nat)),0,0⟩:Node)]:(List Node))),((encL 1 Value.string) ([(⟨#[97]⟩:ByteArray),(⟨#[98]⟩:ByteArray),(⟨#[99]⟩:ByteArray)]:(List ByteArray))),(.slice none 0 0),((encL 1 i64) ([2]:(List Nat)))] false)] h) (fun v24=>[(140,(.bool v24))]) (fun hm=>?_) ?_
   ·refine gX ?_
    refine br hm (fun hm=>?_) fun hm=>?_
    ·refine gX ?_
     refine bt ?_;refine gH ?_
     refine bt ?_;refine gH ?_
     exact jx true hm O
    ·refine gX ?_
     refine atF hm fun x26 hx26 hm=>?_;refine gH ?_
     first|refine⟨.inr (.inr (rfl)),?_⟩|refine⟨.inr (.inl (by kernel_rfl)),?_⟩
     refine gX ?_
     refine ca (probecardlaw25_at_walk hm O.has) fun r27 hm=>?_;refine gH ?_
     refine⟨.inl (Ext.refl _),?_⟩;refine gH ?_
     refine ca (probecardlaw25_at_walk hm O.has) fun r28 hm=>?_;refine gH ?_
     refine⟨.inl (Ext.refl _),?_⟩;refine gH ?_
     refine⟨.bool (!(((eqN x26.cond.net r27.net)&&((eqN x26.cond.value r27.value)&&true))&&(((eqN x26.thn.net r28.net)&&((eqN x26.thn.value r28.value)&&true))&&true))),by kernel_rfl,?_⟩;refine gH ?_
     refine br hm (fun hm=>?_) fun hm=>?_
     ·refine gX ?_
      refine bt ?_;refine gH ?_
      exact jx true hm O
     ·refine gX ?_
      refine br hm (fun hm=>?_) fun hm=>?_
      ·refine gX ?_
       exact jx true hm O
      ·refine gX ?_
       refine atF hm fun x29 hx29 hm=>?_;refine gH ?_
       first|refine⟨.inr (.inr (rfl)),?_⟩|refine⟨.inr (.inl (by kernel_rfl)),?_⟩
       refine gX ?_
       refine ca (probecardlaw25_at_walk hm O.has) fun r30 hm=>?_;refine gH ?_
       refine⟨.inl (Ext.refl _),?_⟩;refine gH ?_
       refine ca (probecardlaw25_at_walk hm O.has) fun r31 hm=>?_;refine gH ?_
       refine⟨.inl (Ext.refl _),?_⟩;refine gH ?_
       refine⟨.bool (!(((eqN x29.cond.net r30.net)&&((eqN x29.cond.value r30.value)&&true))&&(((eqN x29.thn.net r31.net)&&((eqN x29.thn.value r31.value)&&true))&&true))),by kernel_rfl,?_⟩;refine gH ?_
       exact jx (!(((eqN x29.cond.net r30.net)&&((eqN x29.cond.value r30.value)&&true))&&(((eqN x29.thn.net r31.net)&&((eqN x29.thn.value r31.value)&&true))&&true))) hm O
   ·clear hm;rintro v24 base h hm O
    refine gX ?_
    refine br hm (fun hm=>?_) fun hm=>?_
    ·refine gX ?_
     exact fe hm O
    ·refine gX ?_
     refine ldA (O.at (.tail _ (.head _))) ?_;refine gH ?_
     first|refine⟨.inr (.inr (loadAggK rfl (O.at (.tail _ (.head _))) rfl rfl (lbE rfl) rfl)),?_⟩|refine⟨.inr (.inl (by kernel_rfl)),?_⟩
     refine gX ?_
     refine ca (probecardlaw25_at_walk hm O.has) fun r32 hm=>?_;refine gH ?_
     refine⟨.inl (Ext.refl _),?_⟩;refine gH ?_
     refine O.buildLX (l:=([r32]:(List Asg))) (enc:=encAsg) (s:=2) (z:=(.agg ⟨[(i64 0),(n8 0)]⟩)) rfl rfl (by kernel_rfl) (by kernel_rfl) rfl rfl rfl rfl (fun _=>rfl) fun g33 h O=>?_;refine gH ?_
     obtain⟨hn36,hm⟩:=hm
     refine O.useL (fun _ hb=>learns_Close_walk hm hb) (.head _) hn36 (fun _=>rfl) (i:=2) rfl (by kernel_rfl) (fun h2 q=>(LLe.cons (VLe.agg (LLe.cons (VLe.refl _ _) (LLe.cons (VLe.refl _ _) (LLe.cons (VLe.nil _ _) (LLe.cons (VLe.refl _ _) (LLe.nil _)))))) (LLe.cons (VLe.refl _ _) (LLe.cons (VLe.toN (by simp) q) (LLe.nil _))))) (fun r35 h hm' O=>?_);replace hm:=hm';refine gH ?_
     refine⟨.inr (by kernel_rfl),?_⟩;refine gH ?_
     refine gX ?_
     refine ldA (O.at (.tail _ (.head _))) ?_;refine gH ?_
     first|refine⟨.inr (.inr (loadAggK rfl (O.at (.tail _ (.head _))) rfl rfl (lbE rfl) rfl)),?_⟩|refine⟨.inr (.inl (by kernel_rfl)),?_⟩
     refine gX ?_
     refine ca (probecardlaw25_at_walk hm O.has) fun r37 hm=>?_;refine gH ?_
     refine⟨.inl (Ext.refl _),?_⟩;refine gH ?_
     refine ca (probecardlaw25_at_walk hm O.has) fun r38 hm=>?_;refine gH ?_
     refine⟨.inl (Ext.refl _),?_⟩;refine gH ?_
     refine O.buildLX (l:=([(⟨r37,r38⟩:Lawv)]:(List Lawv))) (enc:=encLaw) (s:=4) (z:=(.agg ⟨[(i64 0),(n8 0),(i64 0),(n8 0)]⟩)) rfl rfl (by kernel_rfl) (by kernel_rfl) rfl rfl rfl rfl (fun _=>rfl) fun g39 h O=>?_;refine gH ?_
     refine ca (probecardlaw25_at_walk hm O.has) fun r41 hm=>?_;refine gH ?_
     refine⟨.inl (Ext.refl _),?_⟩;refine gH ?_
     refine O.buildLX (l:=([r41]:(List Asg))) (enc:=encAsg) (s:=2) (z:=(.agg ⟨[(i64 0),(n8 0)]⟩)) rfl rfl (by kernel_rfl) (by kernel_rfl) rfl rfl rfl rfl (fun _=>rfl) fun g42 h O=>?_;refine gH ?_
     obtain⟨hn47,hn48,hm⟩:=hm
     refine O.useXL (.tail _ (.head _)) hn47 (fun _=>rfl) (i:=1) rfl (by kernel_rfl) (fun h2 q=>(LLe.cons (VLe.refl _ _) (LLe.cons (q) (LLe.cons (VLe.refl _ _) (LLe.nil _))))) fun h O=>O.useXL (.head _) hn48 (fun _=>rfl) (i:=2) rfl (by kernel_rfl) (fun h2 q=>(LLe.cons (VLe.refl _ _) (LLe.cons (VLe.refl _ _) (LLe.cons (VLe.toN (by simp) q) (LLe.nil _))))) fun h O=>ca (learns_Close_walk hm O.has) fun r44 hm=>?_;refine gH ?_
     refine⟨.inr (by kernel_rfl),?_⟩;refine gH ?_
     refine gX ?_
     refine br hm (fun hm=>?_) fun hm=>?_
     ·refine gX ?_
      refine br hm (fun hm=>?_) fun hm=>?_
      ·refine gX ?_
       refine br hm (fun hm=>?_) fun hm=>?_
       ·refine gX ?_
        refine fz ?_;refine gH ?_
        refine ca (probecardlaw25_equal_walk hm O.has) fun r49 hm=>?_;refine gX ?_
        exact fe hm O
       ·refine gX ?_
        exact fe hm O
      ·refine gX ?_
       refine bf ?_;refine gX ?_
       exact fe hm O
     ·refine gX ?_
      refine bf ?_;refine gH ?_
      refine bf ?_;refine gX ?_
      exact fe hm O
def nm25:List ByteArray:=[⟨#[97]⟩,⟨#[98]⟩,⟨#[99]⟩,⟨#[100]⟩,⟨#[101]⟩,⟨#[102]⟩,⟨#[103]⟩]
theorem isname_run25:(nm25.all fun s=>isTrue (runFn Tryz.prog [] (orcExt Tryz.prog) 60 142 #[.string s] (heapOf vars)))=true:=by kernel_rfl
theorem isNm25 {s:ByteArray} (h:s∈nm25):IsNm s:=by
 obtain⟨h',e⟩:=isTrue_iff (List.all_eq_true.1 isname_run25 s h)
 have c:=(runFn_sound hM hP (fun f vs h v e=>orcExt_sound f vs h v e) 60 _ _ _ _ _ e).1
 exact⟨PureV.flatB rfl,fun h b=>c.lift (by kernel_rfl) rfl (bears_vars (hasSize b) (hasVars b))⟩
def nodeB (n i:Nat) (x:Node):Bool:=decide (x.kind≤11)&&decide (Arity x.kind x.ins.length)&&(x.ins.all fun k=>Nat.blt k n)&&decide (x.mem=0)&&decide (x.bit=0)&&(x.ins.all fun k=>Nat.blt k i)&&decide (x.ins.length≤3)
def circB (c:Circ):Bool:=(List.range c.nodes.length).all fun i=>match c.nodes[i]? with
 |some x=>nodeB c.nodes.length i x
 |none=>true
theorem cc25 {c:Circ} (h:circB c=true) (h0:0<c.nodes.length) (hl:c.nodes.length≤16) (hn:c.names.length=c.nodes.length) (h1:(c.names.all fun s=>nm25.any fun q=>decide (q=s))=true) (h2:c.names.Nodup) (hm:c.mems=[]) (ho:∀ o∈c.outs,o<c.nodes.length) (hol:c.outs.length≤16):CC c:=by
 have key:∀ i x,c.nodes[i]?=some x→nodeB c.nodes.length i x=true:=fun i x hx=>by
  have:=List.all_eq_true.1 h i (List.mem_range.2 (lt_of_get hx))
  rw[hx] at this;exact this
 unfold nodeB at key
 simp only[Bool.and_eq_true,decide_eq_true_eq,List.all_eq_true,Nat.blt_eq] at key
 have F:FanOk c:=fan_ok ⟨hl,fun i x hx=>⟨(key i x hx).1.1.1.1.2,by have:=(key i x hx).2;omega⟩⟩
 have N:NamesOk c:=by
  refine FnV.of_walk (enc:=i64) (PureV.flat rfl) fun h hB=>?_
  exact names_all_walk (K:=fun r=>r=0) (names_all_vc (fun s m=>isNm25 (by
   obtain⟨q,hq,e⟩:=List.any_eq_true.1 (List.all_eq_true.1 h1 s m)
   rw[← of_decide_eq_true e];exact hq)) h2 (by omega) rfl) hB
 refine⟨⟨⟨hl,hn,N,F,fun m hmm=>(by rw[hm] at hmm;cases hmm),by rw[hm];exact Nat.zero_le _,ho,hol,fun i x hx=>?_,h0⟩,hm,fun i x hx=>?_⟩,fun i x hx=>(key i x hx).2⟩
 ·obtain⟨⟨⟨⟨⟨⟨k1,k2⟩,k3⟩,k4⟩,k5⟩,k6⟩,k7⟩:=key i x hx
  exact⟨by omega,k2,k3,fun e=>by omega,fun _=>⟨k4,k5⟩,fun e=>by omega,fun _ _=>k6⟩
 ·have:=(key i x hx).1.1.1.1.1.1
  omega
def okE (c:Circ) (given:List Asg):Bool:=match closeF c given with
 |some v=>closeC c given v
 |none=>true
theorem okE_ok {c:Circ} (C:CC c) {given:List Asg} (g:GivOk c given) (h:okE c given=true):clo c given=closeF c given:=by
 unfold okE at h
 cases e:closeF c given with
 |none=>exact closeN_ok C.p C.f3 g e
 |some v=>rw[e] at h;exact closeC_ok C.p C.f3 g h
theorem sat0 {c:Circ} (C:CC c) {given:List Asg} (g:GivOk c given):satO c 0 given=clo c given:=by
 rcases clo_cases C.p C.f3 g with⟨v,D,e⟩|⟨N,e⟩
 ·rw[e];exact lstO_ok satP_len (lst_close D)
 ·rw[e];exact lstO_none fun t T E=>N t (cw_split.2 ⟨T,E⟩)
def leB (v t:List Nat):Bool:=blwL v t
theorem leB_ok {n:Nat}{v t:List Nat} (h:leB v t=true) (ht:t.length=n):LeN n v t:=by
 obtain⟨h1,h2⟩:=blwL_iff.1 h
 exact⟨h1.trans ht,h2⟩
def givB (c:Circ) (given:List Asg):Bool:=(given.all fun a=>Nat.blt a.net c.nodes.length&&Nat.ble a.value 1)&&Nat.ble given.length 1000
theorem givB_ok {c:Circ}{given:List Asg} (h:givB c given=true):GivOk c given:=by
 unfold givB at h
 simp only[Bool.and_eq_true,List.all_eq_true,Nat.blt_eq,Nat.ble_eq] at h
 exact⟨h.1,by omega⟩
def meetF (c:Circ) (v:List Nat) (n:Nat):Option (List Nat):=meetO (closeF c (knownA v++[⟨n,0⟩])) (closeF c (knownA v++[⟨n,1⟩]))
def meetB (c:Circ) (v:List Nat) (n:Nat):Bool:=givB c (knownA v++[⟨n,0⟩])&&givB c (knownA v++[⟨n,1⟩])&&okE c (knownA v++[⟨n,0⟩])&&okE c (knownA v++[⟨n,1⟩])
theorem meetB_ok {c:Circ} (C:CC c) {v:List Nat}{n:Nat} (h:meetB c v n=true):meetO (satO c 0 (knownA v++[⟨n,0⟩])) (satO c 0 (knownA v++[⟨n,1⟩]))=meetF c v n:=by
 unfold meetB at h
 simp only[Bool.and_eq_true] at h
 obtain⟨⟨⟨h1,h2⟩,h3⟩,h4⟩:=h
 rw[sat0 C (givB_ok h1),sat0 C (givB_ok h2),okE_ok C (givB_ok h1) h3,okE_ok C (givB_ok h2) h4]
 rfl
def leOB (o:Option (List Nat)) (t:List Nat):Bool:=match o with
 |some v=>leB v t
 |none=>false
theorem leOB_ok {n:Nat}{o:Option (List Nat)}{t:List Nat} (h:leOB o t=true) (ht:t.length=n):leO n o t:=by
 cases o with
 |none=>cases h
 |some v=>exact⟨v,rfl,leB_ok h ht⟩
def clsB (c:Circ) (v:List Nat):Bool:=givB c (knownA v)&&closeC c (knownA v) v
theorem clsB_ok {c:Circ} (C:CC c) {v:List Nat} (h:clsB c v=true):CW c [] v:=by
 unfold clsB at h
 simp only[Bool.and_eq_true] at h
 exact (cw_split.1 (clo_some (closeC_ok C.p C.f3 (givB_ok h.1) h.2)).cw).1
def sat1B (c:Circ) (v:List Nat):Bool:=clsB c v&&(List.range c.nodes.length).all fun n => !Nat.beq (v.getD n 0) 2||(meetB c v n&&leOB (meetF c v n) v)
theorem sat1B_ok {c:Circ} (C:CC c) {v:List Nat} (h:sat1B c v=true):satP c 1 v:=by
 unfold sat1B at h
 simp only[Bool.and_eq_true,List.all_eq_true,Bool.or_eq_true,Bool.not_eq_true',List.mem_range] at h
 have W:=clsB_ok C h.1
 refine⟨W,fun n hn h2=>?_⟩
 rcases h.2 n hn with q|q
 ·rw[h2] at q;cases q
 ·show leO _ (meetO (satO c 0 _) (satO c 0 _)) v
  rw[meetB_ok C q.1]
  exact leOB_ok q.2 W.len
def extB (given:List Asg) (v:List Nat):Bool:=given.all fun a=>Nat.beq (v.getD a.net 0) a.value
theorem extB_ok {given:List Asg}{v:List Nat} (h:extB given v=true):Ext given v:=fun a m=>Nat.eq_of_beq_eq_true (List.all_eq_true.1 h a m)
def oneB (c:Circ) (given:List Asg) (v0:List Nat) (n:Nat) (w:List Nat):Bool:=givB c given&&closeC c given v0&&Nat.blt n c.nodes.length&&meetB c v0 n&&(match meetF c v0 n with|some z=>eqLs z w|none=>false)&&sat1B c w&&extB given w
theorem oneB_ok {c:Circ} (C:CC c) {given:List Asg}{v0 w:List Nat}{n:Nat} (h:oneB c given v0 n w=true):satO c 1 given=some w:=by
 unfold oneB at h
 simp only[Bool.and_eq_true,Nat.blt_eq] at h
 obtain⟨⟨⟨⟨⟨⟨h1,h2⟩,h3⟩,h4⟩,h5⟩,h6⟩,h7⟩:=h
 have W:=sat1B_ok C h6
 have wl:=satP_len w W
 have D:=clo_some (closeC_ok C.p C.f3 (givB_ok h1) h2)
 refine lstO_ok satP_len ⟨W,extB_ok h7,fun t T E=>?_⟩
 rw[wl]
 have lt:LeN c.nodes.length v0 t:=⟨D.len,D.snd t (cw_split.2 ⟨satP_cw T,E⟩)⟩
 have M:=sat_meet C.p.good.len (d:=0) (fun e he=>by
  have:e=0:=by omega
  subst this;exact satD C (by decide)) T lt D.le h3
 rw[meetB_ok C h4] at M
 obtain⟨z,e,hz⟩:=M
 rw[e] at h5
 rw[← eqLs_iff h5]
 exact hz
def keepF (c:Circ) (i:Nat) (a:Asg):Bool:=neN a.net (i/2)&&match closeF c [⟨a.net,1-a.value⟩] with
 |none=>false
 |some w=>neN (w.getD (i/2) 0) (1-i%2)
def rowF (c:Circ) (i:Nat):List Lawv:=match closeF c [⟨i/2,i%2⟩] with
 |none=>[⟨⟨i/2,i%2⟩,⟨i/2,1-i%2⟩⟩]
 |some v=>((knownA v).filter (keepF c i)).map (lawR i)
def outF (c:Circ):List Lawv:=(List.range (2*c.nodes.length)).flatMap (rowF c)
def onesB (c:Circ):Bool:=(List.range (2*c.nodes.length)).all fun i=>okE c [⟨i/2,i%2⟩]
theorem outF_ok {c:Circ} (C:CC c) (h:onesB c=true):outR c=outF c:=by
 have key:∀ m w,m<c.nodes.length→w≤1→clo c [⟨m,w⟩]=closeF c [⟨m,w⟩]:=fun m w hm hw=>by
  have:=List.all_eq_true.1 h (2*m+w) (List.mem_range.2 (by omega))
  rw[show (2*m+w)/2=m by omega,show (2*m+w)%2=w by omega] at this
  exact okE_ok C (one_giv hm hw) this
 unfold outR outF
 rw[List.flatMap_def,List.flatMap_def]
 congr 1
 refine List.map_congr_left fun i hi=>?_
 have hi:=List.mem_range.1 hi
 unfold rowR rowF
 rw[← key (i/2) (i%2) (by omega) (by omega)]
 cases e:clo c [⟨i/2,i%2⟩] with
 |none=>rfl
 |some v =>
  dsimp only
  congr 1
  refine List.filter_congr fun a m=>?_
  obtain⟨a1,a2,a3⟩:=mem_known.1 m
  have D:=clo_some e
  have:=D.le a.net
  have:=D.len
  unfold keepR keepF
  rw[key a.net (1-a.value) (by omega) (by omega)]
  cases closeF c [⟨a.net,1-a.value⟩] <;> rfl
def c25:Circ:=⟨[⟨0,[],0,0⟩,⟨0,[],0,0⟩,⟨5,[0,1],0,0⟩,⟨4,[0],0,0⟩,⟨5,[3,1],0,0⟩,⟨7,[2,4],0,0⟩],[⟨#[97]⟩,⟨#[98]⟩,⟨#[100]⟩,⟨#[101]⟩,⟨#[102]⟩,⟨#[103]⟩],[],[5]⟩
def h25:Circ:=⟨[⟨0,[],0,0⟩,⟨4,[0],0,0⟩,⟨5,[0,1],0,0⟩],[⟨#[97]⟩,⟨#[98]⟩,⟨#[99]⟩],[],[2]⟩
theorem cc_c25:CC c25:=cc25 (by decide +kernel) (by decide) (by decide) rfl (by decide +kernel) (by decide +kernel) rfl (by decide) (by decide)
theorem cc_h25:CC h25:=cc25 (by decide +kernel) (by decide) (by decide) rfl (by decide +kernel) (by decide +kernel) rfl (by decide) (by decide)
theorem e1:satO c25 0 [⟨5,1⟩]=some [2,2,2,2,2,1]:=by
 rw[sat0 cc_c25 (givB_ok (by decide +kernel))]
 exact closeC_ok cc_c25.p cc_c25.f3 (givB_ok (by decide +kernel)) (by decide +kernel)
theorem e2:satO c25 1 [⟨5,1⟩]=some [2,1,2,2,2,1]:=oneB_ok cc_c25 (v0:=[2,2,2,2,2,1]) (n:=1) (by decide +kernel)
theorem e3:outR c25=[⟨⟨5,1⟩,⟨1,1⟩⟩]:=by
 rw[outF_ok cc_c25 (by decide +kernel)];rfl
theorem e4:outR h25=[⟨⟨2,1⟩,⟨2,0⟩⟩]:=by
 rw[outF_ok cc_h25 (by decide +kernel)];rfl
theorem e5:satO h25 1 []=some [2,2,0]:=oneB_ok cc_h25 (v0:=[2,2,2]) (n:=0) (by decide +kernel)
theorem e6:lawO h25 [⟨⟨2,1⟩,⟨2,0⟩⟩] [⟨2,1⟩]=none:=lstO_none fun t T E=>by
 have h1:=E ⟨2,1⟩ (List.mem_singleton.2 rfl)
 have h2:=T.2 _ (List.mem_singleton.2 rfl) h1
 dsimp only at h1 h2
 omega
theorem e7:lawO c25 [⟨⟨0,1⟩,⟨1,1⟩⟩] [⟨0,1⟩]=some [1,1,1,0,0,1]:=by
 refine lstO_ok lawP_len ⟨⟨clsB_ok cc_c25 (by decide +kernel),fun l m _=>by rw[List.mem_singleton.1 m];rfl⟩,fun a m=>by rw[List.mem_singleton.1 m];rfl,fun t T E=>?_⟩
 have h1:=E ⟨0,1⟩ (List.mem_singleton.2 rfl)
 have h2:=T.2 _ (List.mem_singleton.2 rfl) h1
 have D:=clo_some (closeC_ok cc_c25.p cc_c25.f3 (given:=[⟨0,1⟩,⟨1,1⟩]) (v:=[1,1,1,0,0,1]) (givB_ok (by decide +kernel)) (by decide +kernel))
 refine⟨rfl,D.snd t (cw_split.2 ⟨T.1,fun a m=>?_⟩)⟩
 rcases List.mem_cons.1 m with rfl|m
 ·exact h1
 ·rw[List.mem_singleton.1 m];exact h2
theorem lives25_vc {K:Bool→Prop} (k:K true):probecardlaw25_lives_wp K:=by
 unfold probecardlaw25_lives_wp probecardlaw25_example_wp probecardlaw25_at_wp
 refine⟨rfl,lSaturate_vc cc_c25 (by decide) (givB_ok (by decide +kernel)) ?_⟩
 rw[e1]
 refine⟨rfl,lSaturate_vc cc_c25 (by decide) (givB_ok (by decide +kernel)) ?_⟩
 rw[e2]
 refine static_vc cc_c25 fun l1 hp1 _=>?_
 obtain rfl:l1=[⟨⟨5,1⟩,⟨1,1⟩⟩]:=by rw[e3] at hp1;exact List.perm_singleton.1 hp1
 refine static_vc cc_h25 fun l2 hp2 _=>?_
 obtain rfl:l2=[⟨⟨2,1⟩,⟨2,0⟩⟩]:=by rw[e4] at hp2;exact List.perm_singleton.1 hp2
 refine lSaturate_vc cc_h25 (by decide) (givB_ok (by decide +kernel)) ?_
 rw[e5]
 refine joinB (a:=false) (fun F=>⟨fun e=>absurd rfl (ne_t.1 e),fun _=>⟨fun e=>absurd rfl (ne_t.1 e),fun _=>⟨fun e=>absurd rfl (ne_t.1 e),fun _=>⟨fun e=>absurd rfl (ne_t.1 e),fun _=>⟨fun e=>absurd rfl (ne_t.1 e),fun _ =>
  equal_vc (a:=[2,2,2,2,2,1]) (x:=true) (by decide) ⟨(fun e=>by cases e),fun _=>equal_vc (a:=[2,1,2,2,2,1]) (x:=true) (by decide) ⟨(fun e=>by cases e),fun _=>equal_vc (a:=[2,2,0]) (x:=true) (by decide) F⟩⟩⟩⟩⟩⟩⟩) ⟨(fun e=>by cases e),fun _=>?_⟩
 refine joinB (a:=false) (fun F=>⟨fun e=>absurd rfl (ne_t.1 e),fun _=>⟨_,rfl,(fun e=>by cases e),fun _=>⟨fun e=>absurd rfl (ne_t.1 e),fun _=>⟨_,rfl,F⟩⟩⟩⟩) ⟨(fun e=>by cases e),fun _=>?_⟩
 refine⟨rfl,lClose_vc cc_h25 ⟨fun l m=>?_,by decide⟩ (givB_ok (by decide +kernel)) (by decide) ?_⟩
 ·rw[List.mem_singleton.1 m];decide
 rw[e6]
 refine⟨rfl,rfl,lClose_vc cc_c25 ⟨fun l m=>?_,by decide⟩ (givB_ok (by decide +kernel)) (by decide) ?_⟩
 ·rw[List.mem_singleton.1 m];decide
 rw[e7]
 exact⟨fun _=>⟨fun _=>⟨fun _=>equal_vc (a:=[1,1,1,0,0,1]) (x:=true) (by decide) k,fun e=>absurd rfl (eq_f.1 e)⟩,(fun e=>by cases e)⟩,fun e=>absurd rfl (eq_f.1 e)⟩
structure U4 where
 a:Nat
 b:Nat
 c:Nat
 d:Nat
structure Z2 where
 a:Int
 b:Int
theorem law25_livesF:FnV Tryz.prog NG vars 23 ⟨[]⟩ (.bool true):=FnV.of_walk (enc:=Value.bool) (r:=true) (PureV.flat rfl) fun _h hB=>probecardlaw25_lives_walk (K:=fun r=>r=true) (lives25_vc rfl) hB
def law25_lives_wp (K:Bool→Prop):Prop:=K true
theorem law25_lives_walk {K:Bool→Prop} (hm:law25_lives_wp K) {h0:Heap} (hB:HasB vars h0):∃ r,K r∧CallD Tryz.prog NG 23 ⟨[]⟩ h0 (Value.bool r) h0:=law25_livesF.walk (enc:=Value.bool) hm hB
set_option maxHeartbeats 8000000
def probecardlaw25_LearnsComplete_wp (p0:CData) (p1:(List U2)) (K:Bool→Prop):Prop :=
 law24_Plain_wp p0 (fun r1=>probecardlaw24_Free_wp r1 (fun r4=>joinW (α:=Bool) (fun k6=>((ltN 3 p1.length)=true→k6 true)∧((ltN 3 p1.length)=false→((ltN 3 r4.length)=true→k6 true)∧((ltN 3 r4.length)=false→((eqN r4.length 3)=true→k6 (ltN 7 r1.nodes.length))∧((eqN r4.length 3)=false→k6 false)))) (fun v5=>(v5=true→law25_lives_wp  (fun r7=>K r7))∧(v5=false→probecardlaw24_Given_wp r1.nodes.length p1 (fun r8=>joinW (α:=(List Nat)) (fun k13=>loopW (S:=((List Nat)×Nat)) (fun (v15,v16) nx18=>r4.length≤16∧((ltN v16 (2 ^ r4.length))=true→joinW (α:=(List Nat)) (fun k22=>probecardlaw24_Total_wp r1 v16 (fun r23=>probecardlaw25_has_wp r23 r8 (fun r28=>((!r28)=true→k22 v15)∧((!r28)=false→(v15.isEmpty=true→loopW (S:=((List Nat)×Nat)) (fun (v30,v31) nx33=>((ltN v31 v30.length)=true→joinW (α:=(List Nat)) (fun k37=>∃ x38,v30[v31]?=some x38∧∃ x40,v30[v31]?=some x40∧((neN x38 x40)=true→∃ x41,v30[v31]?=some x41∧k37 (v30.set v31 2))∧((neN x38 x40)=false→k37 v30)) (fun v35=>v31+1<2 ^ 63∧nx33 (v35,(v31+1))))∧((ltN v31 v30.length)=false→k22 v30)) (r23,0))∧(v15.isEmpty=false→loopW (S:=((List Nat)×Nat)) (fun (v43,v45) nx48=>((ltN v45 r23.length)=true→joinW (α:=(List Nat)) (fun k54=>∃ x55,v43[v45]?=some x55∧∃ x57,r23[v45]?=some x57∧((neN x55 x57)=true→∃ x59,v43[v45]?=some x59∧k54 (v43.set v45 2))∧((neN x55 x57)=false→k54 v43)) (fun v50=>v45+1<2 ^ 63∧nx48 (v50,(v45+1))))∧((ltN v45 r23.length)=false→k22 v43)) (v15,0)))))) (fun v20=>v16+1<2 ^ 63∧nx18 (v20,(v16+1))))∧((ltN v16 (2 ^ r4.length))=false→k13 v15)) (([]:List Nat),0)) (fun v11=>learns_Saturate_wp r1 r4.length r8 (fun r60=>((eqN r60.2.2 0)=true→probecardlaw25_equal_wp r60.1 r60.2.1 v11 (!v11.isEmpty) (fun r61=>(r61=true→law25_lives_wp  (fun r62=>K r62))∧(r61=false→K false)))∧((eqN r60.2.2 0)=false→K false))))))))
theorem probecardlaw25_LearnsComplete_walk {p0:CData}{p1:(List U2)}{K:Bool→Prop} (hm:probecardlaw25_LearnsComplete_wp p0 p1 K) {h0:Heap} (hB:HasB vars h0):∃ r,K r∧CallD Tryz.prog NG 10 ⟨[encC p0,(encL 2 encU2) p1]⟩ h0 (Value.bool r) h0:=by
 unfold probecardlaw25_LearnsComplete_wp at hm
 refine fw Tryz.func10 hB (enc:=Value.bool) (fun r=>PureV.flat rfl) fun O=>?_;conv=>whnf
 refine gX ?_
 refine fz ?_;refine gX ?_
 refine ca (law24_Plain_walk hm O.has) fun r1 hm=>?_;refine gH ?_
 refine O.new (anew_alloc (l:=[(.slice none 0 0),(.slice none 0 0),(.slice none 0 0),(.slice none 0 0)]) rfl rfl rfl) fun g2 h O=>?_;refine gH ?_
 refine O.stC 4 (.head _) [((encL 4 encNode) r1.nodes),((encL 1 Value.string) r1.names),((encL 3 encMem) r1.mems),((encL 1 i64) r1.outs)] fun h O=>?_;refine gX ?_
 refine ldA (O.at (.head _)) ?_;refine gH ?_
 refine ca (probecardlaw24_Free_walk hm O.has) fun r4 hm=>?_;refine gH ?_
 apply Cs;conv=>whnf
 refine jn hm 101 [1,5,6] (fun s=>s) (fun v5 h=>Own vars h0 [((some g2),.cells [((encL 4 encNode) r1.nodes),((encL 1 Value.string) r1.names),((encL 3 encMem) r1.mems),((encL 1 i64) r1.outs)] false)] h) (fun v5=>[(37,(.bool v5))]) (fun hm=>?_) ?_
 ·refine gX ?_
  refine br hm (fun hm=>?_) fun hm=>?_
  ·refine gX ?_
   refine bt ?_;refine gH ?_
   exact jx true hm O
  ·refine gX ?_
   refine br hm (fun hm=>?_) fun hm=>?_
   ·refine gX ?_
    exact jx true hm O
   ·refine gX ?_
    refine br hm (fun hm=>?_) fun hm=>?_
    ·refine gX ?_
     exact jx (ltN 7 r1.nodes.length) hm O
    ·refine gX ?_
     exact jx false hm O
 ·clear hm;rintro v5 base h hm O
  refine gX ?_
  refine br hm (fun hm=>?_) fun hm=>?_
  ·refine gX ?_
   refine ca (law25_lives_walk hm O.has) fun r7 hm=>?_;refine gX ?_
   exact fe hm O
  ·refine gX ?_
   refine ca (probecardlaw24_Given_walkN hm O.has) fun r8 hm=>?_;refine gH ?_
   apply Cs;conv=>whnf
   apply Cs;refine gH ?_
   have O:=O.addNil (.cells (flatC ((([]:List Nat)).map n8)) false)
   refine jn (σ:=(List Nat)×Option Nat) hm 101 [5,6,7] (fun s=>s.1) (fun (v11,a10) h=>(a10=none↔v11=[])∧Own vars h0 [((some g2),.cells [((encL 4 encNode) r1.nodes),((encL 1 Value.string) r1.names),((encL 3 encMem) r1.mems),((encL 1 i64) r1.outs)] false),(a10,.cells (flatC (v11.map n8)) false)] h) (fun (v11,a10)=>[(8,(clipV a10 (v11.map n8)))]) (fun hm=>?_) ?_
   ·refine gX ?_
    refine lw 101 [5,6,7] (σ:=((List Nat)×Nat)×Option Nat) (fun s=>s.1) (fun ((v15,v16),a14) h=>(a14=none↔v15=[])∧Own vars h0 [((some g2),.cells [((encL 4 encNode) r1.nodes),((encL 1 Value.string) r1.names),((encL 3 encMem) r1.mems),((encL 1 i64) r1.outs)] false),(a14,.cells (flatC (v15.map n8)) false)] h) (fun ((v15,v16),a14)=>[(8,(clipV a14 (v15.map n8))),(9,(i64 v16))]) ((([]:List Nat),0),none) hm ⟨⟨(fun _=>rfl),(fun _=>rfl)⟩,(O.sel [1,0] (by decide))⟩ ?_
    clear hm;rintro⟨⟨v15,v16⟩,a14⟩ nx18 base h hm ⟨ha17,O⟩
    refine gX ?_
    refine⟨_,shiftK (.inl rfl) rfl rfl (shl_small r4.length hm.1),?_⟩;refine gX ?_
    replace hm:=hm.2
    refine br hm (fun hm=>?_) fun hm=>?_
    ·apply Cs;conv=>whnf
     refine jn (σ:=(List Nat)×Option Nat) hm 101 [5,6,7,9] (fun s=>s.1) (fun (v20,a19) h=>(a19=none↔v20=[])∧Own vars h0 [((some g2),.cells [((encL 4 encNode) r1.nodes),((encL 1 Value.string) r1.names),((encL 3 encMem) r1.mems),((encL 1 i64) r1.outs)] false),(a19,.cells (flatC (v20.map n8)) false)] h) (fun (v20,a19)=>[(8,(clipV a19 (v20.map n8)))]) (fun hm=>?_) ?_
     ·refine gX ?_
      refine ldA (O.at (.head _)) ?_;refine gH ?_
      refine caO (probecardlaw24_Total_walkO hm O.has) O fun r23 a24 h hx ha26 hn27 O hm=>?_;refine gX ?_
      refine CallD.useB (fun _ hb=>probecardlaw25_has_walk hm hb) (fun _=>flatB_ok rfl) fzVars O.has (fun h2 F=>(LLe.cons (O.clipL F (Nat.zero_le _) (.head _) ha26 (fun _=>rfl)) (LLe.cons (VLe.ofN) (LLe.nil _)))) (by kernel_rfl) (fun r28 hm'=>?_);replace hm:=hm';refine gX ?_
      refine br hm (fun hm=>?_) fun hm=>?_
      ·refine gX ?_
       exact jx (v15,a14) hm ⟨⟨ha17.1,ha17.2⟩,(O.sel [1,2] (by decide))⟩
      ·refine gX ?_
       refine nlC ha17.1 ha17.2 ?_;refine gX ?_
       refine br hm (fun hm=>?_) fun hm=>?_
       ·refine gX ?_
        refine lw 101 [5,6,7,9] (σ:=((List Nat)×Nat)×Option Nat) (fun s=>s.1) (fun ((v30,v31),a29) h=>(a29=none↔v30=[])∧Own vars h0 [((some g2),.cells [((encL 4 encNode) r1.nodes),((encL 1 Value.string) r1.names),((encL 3 encMem) r1.mems),((encL 1 i64) r1.outs)] false),(a29,.cells (flatC (v30.map n8)) false)] h) (fun ((v30,v31),a29)=>[(8,(clipV a29 (v30.map n8))),(10,(clipV a29 (v30.map n8))),(11,(i64 v31))]) ((r23,0),a24) hm ⟨⟨ha26,(hn27 rfl)⟩,(O.sel [1,0] (by decide))⟩ ?_
        clear hm;rintro⟨⟨v30,v31⟩,a29⟩ nx33 base h hm ⟨ha32,O⟩
        refine gX ?_
        refine br hm (fun hm=>?_) fun hm=>?_
        ·apply Cs;conv=>whnf
         refine jn (σ:=(List Nat)×Option Nat) hm 101 [5,6,7,9,11] (fun s=>s.1) (fun (v35,a34) h=>(a34=none↔v35=[])∧Own vars h0 [((some g2),.cells [((encL 4 encNode) r1.nodes),((encL 1 Value.string) r1.names),((encL 3 encMem) r1.mems),((encL 1 i64) r1.outs)] false),(a34,.cells (flatC (v35.map n8)) false)] h) (fun (v35,a34)=>[(8,(clipV a34 (v35.map n8))),(10,(clipV a34 (v35.map n8)))]) (fun hm=>?_) ?_
         ·refine gX ?_
          obtain⟨x38,hx38,hm⟩:=hm
          have h9:=hm
          obtain⟨g39,rfl⟩:=addr_some ha32.1 hx38
          replace hm:=h9
          refine indexK (s:=1) (j:=v31) rfl rfl rfl rfl (by rw[List.length_map];exact lt_of_get hx38) ?_;refine gH ?_
          refine⟨_,loadK rfl (O.at (.tail _ (.head _))) rfl (cell_map (enc:=n8) (s:=1) (k:=0) (fun _=>rfl) hx38 rfl),?_⟩;refine gH ?_
          obtain⟨x40,hx40,hm⟩:=hm
          refine indexK (s:=1) (j:=v31) rfl rfl rfl rfl (by rw[List.length_map];exact lt_of_get hx40) ?_;refine gH ?_
          refine⟨_,loadK rfl (O.at (.tail _ (.head _))) rfl (cell_map (enc:=n8) (s:=1) (k:=0) (fun _=>rfl) hx40 rfl),?_⟩;refine gX ?_
          refine br hm (fun hm=>?_) fun hm=>?_
          ·refine gX ?_
           obtain⟨x41,hx41,hm⟩:=hm
           refine indexK (s:=1) (j:=v31) rfl rfl rfl rfl (by rw[List.length_map];exact lt_of_get hx41) ?_;refine gH ?_
           refine O.stE 1 (.tail _ (.head _)) hx41 2 fun h O=>?_;refine gH ?_
           try rw[growV_set (enc:=n8) (l:=v30) (j:=v31) (x:=2)] at O
           exact⟨((v30.set v31 2),(some g39)),hm,⟨⟨someNone,(fun e=>ha32.2 (by simpa using e))⟩,O⟩,VLe.refl _ _,VLe.refl _ _,VLe.refl _ _,VLe.refl _ _,VLe.refl _ _,(by first|exact VLe.refl _ _|exact VLe.clipLen rfl (by simp)),(by first|exact VLe.refl _ _|exact VLe.clipLen rfl (by simp)),trivial⟩
          ·refine gX ?_
           exact jx (v30,(some g39)) hm ⟨⟨someNone,ha32.2⟩,O⟩
         ·clear hm;rintro⟨v35,a34⟩ base h hm ⟨ha36,O⟩
          refine gX ?_
          refine aAdd hm fun hm=>?_;refine gH ?_
          exact jx ((v35,(v31+1)),a34) hm ⟨⟨ha36.1,ha36.2⟩,O⟩
        ·refine gX ?_
         exact jx (v30,a29) hm ⟨⟨ha32.1,ha32.2⟩,O⟩
       ·refine gX ?_
        refine lw 101 [5,6,7,9] (σ:=((List Nat)×Nat)×(Option Nat×Option Nat)) (fun s=>s.1) (fun ((v43,v45),(a42,a44)) h=>(a42=none↔v43=[])∧(a44=none↔r23=[])∧Own vars h0 [((some g2),.cells [((encL 4 encNode) r1.nodes),((encL 1 Value.string) r1.names),((encL 3 encMem) r1.mems),((encL 1 i64) r1.outs)] false),(a42,.cells (flatC (v43.map n8)) false),(a44,.cells (flatC (r23.map n8)) false)] h) (fun ((v43,v45),(a42,a44))=>[(8,(clipV a42 (v43.map n8))),(10,(clipV a44 (r23.map n8))),(11,(i64 v45))]) ((v15,0),(a14,a24)) hm ⟨⟨ha17.1,ha17.2⟩,⟨ha26,(hn27 rfl)⟩,(O.sel [1,2,0] (by decide))⟩ ?_
        clear hm;rintro⟨⟨v43,v45⟩,⟨a42,a44⟩⟩ nx48 base h hm ⟨ha46,ha47,O⟩
        refine gX ?_
        refine br hm (fun hm=>?_) fun hm=>?_
        ·apply Cs;conv=>whnf
         refine jn (σ:=(List Nat)×(Option Nat×Option Nat)) hm 101 [5,6,7,9,11] (fun s=>s.1) (fun (v50,(a49,a51)) h=>(a49=none↔v50=[])∧(a51=none↔r23=[])∧Own vars h0 [((some g2),.cells [((encL 4 encNode) r1.nodes),((encL 1 Value.string) r1.names),((encL 3 encMem) r1.mems),((encL 1 i64) r1.outs)] false),(a49,.cells (flatC (v50.map n8)) false),(a51,.cells (flatC (r23.map n8)) false)] h) (fun (v50,(a49,a51))=>[(8,(clipV a49 (v50.map n8))),(10,(clipV a51 (r23.map n8)))]) (fun hm=>?_) ?_
         ·refine gX ?_
          obtain⟨x55,hx55,hm⟩:=hm
          have h9:=hm
          obtain⟨g56,rfl⟩:=addr_some ha46.1 hx55
          replace hm:=h9
          refine indexK (s:=1) (j:=v45) rfl rfl rfl rfl (by rw[List.length_map];exact lt_of_get hx55) ?_;refine gH ?_
          refine⟨_,loadK rfl (O.at (.tail _ (.head _))) rfl (cell_map (enc:=n8) (s:=1) (k:=0) (fun _=>rfl) hx55 rfl),?_⟩;refine gH ?_
          obtain⟨x57,hx57,hm⟩:=hm
          have h9:=hm
          obtain⟨g58,rfl⟩:=addr_some ha47.1 hx57
          replace hm:=h9
          refine indexK (s:=1) (j:=v45) rfl rfl rfl rfl (by rw[List.length_map];exact lt_of_get hx57) ?_;refine gH ?_
          refine⟨_,loadK rfl (O.at (.tail _ (.tail _ (.head _)))) rfl (cell_map (enc:=n8) (s:=1) (k:=0) (fun _=>rfl) hx57 rfl),?_⟩;refine gX ?_
          refine br hm (fun hm=>?_) fun hm=>?_
          ·refine gX ?_
           obtain⟨x59,hx59,hm⟩:=hm
           refine indexK (s:=1) (j:=v45) rfl rfl rfl rfl (by rw[List.length_map];exact lt_of_get hx59) ?_;refine gH ?_
           refine O.stE 1 (.tail _ (.head _)) hx59 2 fun h O=>?_;refine gH ?_
           try rw[growV_set (enc:=n8) (l:=v43) (j:=v45) (x:=2)] at O
           exact⟨((v43.set v45 2),((some g56),(some g58))),hm,⟨⟨someNone,(fun e=>ha46.2 (by simpa using e))⟩,⟨someNone,ha47.2⟩,O⟩,VLe.refl _ _,VLe.refl _ _,VLe.refl _ _,VLe.refl _ _,VLe.refl _ _,(by first|exact VLe.refl _ _|exact VLe.clipLen rfl (by simp)),VLe.refl _ _,trivial⟩
          ·refine gX ?_
           exact jx (v43,((some g56),(some g58))) hm ⟨⟨someNone,ha46.2⟩,⟨someNone,ha47.2⟩,O⟩
         ·clear hm;rintro⟨v50,⟨a49,a51⟩⟩ base h hm ⟨ha52,ha53,O⟩
          refine gX ?_
          refine aAdd hm fun hm=>?_;refine gH ?_
          exact jx ((v50,(v45+1)),(a49,a51)) hm ⟨⟨ha52.1,ha52.2⟩,⟨ha53.1,ha53.2⟩,O⟩
        ·refine gX ?_
         exact jx (v43,a42) hm ⟨⟨ha46.1,ha46.2⟩,(O.sel [0,1] (by decide))⟩
     ·clear hm;rintro⟨v20,a19⟩ base h hm ⟨ha21,O⟩
      refine gX ?_
      refine aAdd hm fun hm=>?_;refine gH ?_
      exact jx ((v20,(v16+1)),a19) hm ⟨⟨ha21.1,ha21.2⟩,O⟩
    ·refine gX ?_
     exact jx (v15,a14) hm ⟨⟨ha17.1,ha17.2⟩,O⟩
   ·clear hm;rintro⟨v11,a10⟩ base h hm ⟨ha12,O⟩
    refine gX ?_
    refine ldA (O.at (.head _)) ?_;refine gH ?_
    refine caW (learns_Saturate_walk hm O.has) (LLe.cons (VLe.refl _ _) (LLe.cons (VLe.refl _ _) (LLe.cons (VLe.ofN) (LLe.nil _)))) fun r60 hm=>?_;refine gX ?_
    refine br hm (fun hm=>?_) fun hm=>?_
    ·refine gX ?_
     refine nnC ha12.1 ha12.2 ?_;refine gH ?_
     refine CallD.useB (fun _ hb=>probecardlaw25_equal_walk hm hb) (fun _=>flatB_ok rfl) fzVars O.has (fun h2 F=>(LLe.cons (VLe.ofN) (LLe.cons (VLe.refl _ _) (LLe.cons (O.clipL F (Nat.zero_le _) (.tail _ (.head _)) ha12.1 (fun _=>rfl)) (LLe.cons (VLe.refl _ _) (LLe.nil _)))))) (by kernel_rfl) (fun r61 hm'=>?_);replace hm:=hm';refine gH ?_
     refine br hm (fun hm=>?_) fun hm=>?_
     ·refine gX ?_
      refine ca (law25_lives_walk hm O.has) fun r62 hm=>?_;refine gX ?_
      exact fe hm O
     ·refine gX ?_
      exact fe hm O
    ·refine gX ?_
     refine bf ?_;refine gX ?_
     exact fe hm O
theorem cc_circ (x:CData):CC (circN (plainC x)):=⟨pln_circ x,circ_few3 rfl⟩
theorem giv_given {c:Circ} (C:CC c) {l:List U2} (hl:l.length≤6):GivOk c (givenN c.nodes.length l)∧(givenN c.nodes.length l).length≤6:=by
 have hlen:(givenN c.nodes.length l).length≤6:=by unfold givenN;rw[List.length_map];exact hl
 exact⟨⟨given_ok C.p.good.pos,by omega⟩,hlen⟩
theorem cloR_err (o:Option (List Nat)):(cloR o).2.2=0:=by cases o <;> rfl
theorem plain24_vc {x:CData} (hx:CB x) {K:Circ→Prop} (h:K (circN (plainC x))):law24_Plain_wp x K:=by
 unfold law24_Plain_wp
 exact of_circ_vc (x:=plainC x) (plainC_ok hx) h
theorem cloR_len {o:Option (List Nat)}{n:Nat} (hn:n<2 ^ 60) (h:∀ v,o=some v→v.length=n):(cloR o).1.length<2 ^ 60:=by
 cases o with
 |none=>exact Nat.two_pow_pos _
 |some v=>have:=h v rfl;show v.length<_;omega
theorem satO_len {c:Circ}{d:Nat}{g:List Asg}:∀ v,satO c d g=some v→v.length=c.nodes.length:=fun v e=>satP_len v (lstO_some e).mem
theorem tot_exists {c:Circ} (C:CC c) (b:Nat):∃ t,TotOk c b t:=by
 obtain⟨t,h,_⟩:=probecardlaw24_Total_walk (K:=fun t=>TotOk c b t) (total_vc C.p fun t T=>T) (h0:=heapOf vars) (fun i o e=>by rw[heapOf_get];exact e)
 exact⟨t,h⟩
def bitsN:List Nat→Nat
 |[]=>0
 |x::l=>x+2*bitsN l
theorem bitsN_get:∀ {l:List Nat},(∀ x∈l,x≤1)→∀ {j x:Nat},l[j]?=some x→bitsN l/2 ^ j%2=x
 |[],_,j,x,h=>by cases h
 |y::l,hl,0,x,h=>by
  cases h
  have:=hl y (by simp)
  unfold bitsN
  omega
 |y::l,hl,j+1,x,h=>by
  have:=hl y (by simp)
  have e:bitsN (y::l)/2 ^ (j+1)=bitsN l/2 ^ j:=by
   rw[Nat.pow_succ,Nat.mul_comm,← Nat.div_div_eq_div_mul]
   congr 1
   show (y+2*bitsN l)/2=bitsN l
   omega
  rw[e]
  exact bitsN_get (fun x m=>hl x (by simp[m])) h
theorem close_self {c:Circ}{v:List Nat} (W:CW c [] v):CloseOk c (knownA v) v :=
 ⟨W.len,W.le,fun _t T=>((known_ext W.len T.len).1 T.ext).2,fun i _=>W.cls i,(known_ext W.len W.len).2 ⟨W.len,fun _=>.inr rfl⟩⟩
theorem full_tot {c:Circ} (C:CC c) {v:List Nat} (W:CW c [] v) (h:∀ f∈freeN c,v.getD f 0≠2):∃ b,TotOk c b v:=by
 have hl:∀ x∈(freeN c).map fun f=>v.getD f 0,x≤1:=fun x m=>by
  obtain⟨f,hf,rfl⟩:=List.mem_map.1 m
  have:=h f hf
  have:=W.le f
  omega
 obtain⟨t,T⟩:=tot_exists C (bitsN ((freeN c).map fun f=>v.getD f 0))
 have key:=closed_tot C.p C.f3 (close_self W) T fun f hf=>by
  obtain⟨j,hj,e⟩:=List.getElem_of_mem hf
  have hj':(freeN c)[j]?=some f:=by rw[List.getElem?_eq_getElem hj,e]
  rw[T.free j f hj']
  exact (bitsN_get hl (by rw[List.getElem?_map,hj'];rfl)).symm
 have e:v=t:=List.ext_getElem (W.len.trans T.len.symm) fun j h1 h2=>by
  have:=key j
  rw[List.getD,List.getElem?_eq_getElem h1,List.getD,List.getElem?_eq_getElem h2] at this
  exact this
 rw[e]
 exact⟨_,T⟩
def unkF (c:Circ) (v:List Nat):List Nat:=(freeN c).filter fun f=>v.getD f 0==2
theorem unk_side {c:Circ}{v s:List Nat}{n:Nat}{m:Nat} (h:LeN m v s) (hn:n∈freeN c) (h2:v.getD n 0=2) (hs:s.getD n 0≠2):(unkF c s).length<(unkF c v).length:=by
 have e:unkF c s=(unkF c v).filter fun f=>s.getD f 0==2:=by
  unfold unkF
  rw[List.filter_filter]
  refine List.filter_congr fun f _=>?_
  rcases h.2 f with q|q
  ·rw[q];simp
  ·rw[q];simp
 rw[e]
 refine Nat.lt_of_le_of_ne (List.length_filter_le _ _) fun q=>?_
 have:=List.length_filter_eq_length_iff.1 q n (by unfold unkF;rw[List.mem_filter,h2];exact⟨hn,rfl⟩)
 exact hs (by simpa using this)
structure AllIn (c:Circ) (given:List Asg) (v:List Nat):Prop where
 com:∀ i x,x≤1→(∀ t,TotE c given t→t.getD i 0=x)→v.getD i 0=x
 ex:∃ t,TotE c given t
theorem sat_complete {c:Circ} (C:CC c):∀ j,j<90→∀ given,GivOk c given→∀ v,satO c j given=some v→(unkF c v).length≤j→AllIn c given v:=by
 have full:∀ {j:Nat} {given:List Asg} {v:List Nat},Lst (satP c j) given v→(∀ f∈freeN c,v.getD f 0≠2)→AllIn c given v:=fun {j given v} L h=>by
  have T:=full_tot C (satP_cw L.mem) h
  exact⟨fun i x _ hx=>hx v ⟨T,L.ext⟩,v,T,L.ext⟩
 intro j
 induction j with
 |zero =>
  intro _ given g v e hu
  refine full (lstO_some e) fun f hf h2=>?_
  have:f∈unkF c v:=by unfold unkF;rw[List.mem_filter,h2];exact⟨hf,rfl⟩
  have:=List.length_pos_of_mem this
  omega
 |succ j ih =>
  intro hj given g v e hu
  have L:=lstO_some e
  by_cases hall:∀ f∈freeN c,v.getD f 0≠2
  ·exact full L hall
  have ⟨n,hn⟩:=Classical.not_forall.1 hall
  have ⟨hn,h2⟩:=Classical.not_imp.1 hn
  have h2:=Classical.not_not.1 h2
  have W:=satP_cw L.mem
  have hc:=C.p.good.len
  have hin:=(freeN_mem hn).1
  have G:=giv_known W.len hc W.le
  have gl:(knownA v).length<2 ^ 50:=by have:=known_len v;have:=W.len;omega
  have toG:∀ {x:Nat} {t:List Nat},TotE c (knownA v++[⟨n,x⟩]) t→TotE c given t:=fun {x t} T=>by
   have l:=(known_ext W.len (tot_cls C T.1).len).1 (ext_snoc.1 T.2).1
   exact⟨T.1,l.ext (fun a m=>(g.ok a m).2) L.ext⟩
  have side:∀ {x:Nat} (hx:x≤1) {s:List Nat},satO c j (knownA v++[⟨n,x⟩])=some s→AllIn c (knownA v++[⟨n,x⟩]) s:=fun {x} hx {s} es=>by
   have S:=lstO_some es
   have sl:=satP_len s S.mem
   have hvs:=(known_ext W.len sl).1 (ext_snoc.1 S.ext).1
   have hs:s.getD n 0=x:=(ext_snoc.1 S.ext).2
   refine ih (by omega) _ (G.snoc (a:=⟨n,x⟩) gl hin hx) s es ?_
   have:=unk_side hvs hn h2 (by rw[hs];omega)
   omega
  obtain⟨z,ez,hz⟩:=L.mem.2 n hin h2
  have s0:=@side 0 (by omega)
  have s1:=@side 1 (by omega)
  have ln:∀ {x:Nat} {s:List Nat},satO c j (knownA v++[⟨n,x⟩])=some s→s.length=c.nodes.length:=fun es=>satP_len _ (lstO_some es).mem
  have l0:=@ln 0
  have l1:=@ln 1
  have ez:meetO (satO c j (knownA v++[⟨n,0⟩])) (satO c j (knownA v++[⟨n,1⟩]))=some z:=ez
  generalize satO c j (knownA v++[⟨n,0⟩])=lo at ez s0 l0
  generalize satO c j (knownA v++[⟨n,1⟩])=hi at ez s1 l1
  have fin:∀ i x,x≤1→z.getD i 0=x→v.getD i 0=x:=fun i x hx e=>by
   rcases hz.2 i with q|q
   ·omega
   ·rw[← q];exact e
  cases lo with
  |none =>
   have ez:hi=some z:=ez
   subst ez
   have A:=s1 rfl
   exact⟨fun i x hx h=>fin i x hx (A.com i x hx fun t T=>h t (toG T)),A.ex.imp fun t T=>toG T⟩
  |some a =>
   have A:=s0 rfl
   cases hi with
   |none =>
    cases ez
    exact⟨fun i x hx h=>fin i x hx (A.com i x hx fun t T=>h t (toG T)),A.ex.imp fun t T=>toG T⟩
   |some b =>
    have B:=s1 rfl
    cases ez
    refine⟨fun i x hx h=>fin i x hx ?_,A.ex.imp fun t T=>toG T⟩
    rw[joinedN_get ((l0 rfl).trans (l1 rfl).symm),A.com i x hx fun t T=>h t (toG T),B.com i x hx fun t T=>h t (toG T)]
    unfold cm
    rw[if_pos rfl]
theorem bitsN_lt:∀ {l:List Nat},(∀ x∈l,x≤1)→bitsN l<2 ^ l.length
 |[],_=>by decide
 |y::l,hl=>by
  have:=hl y (by simp)
  have:=bitsN_lt (l:=l) fun x m=>hl x (by simp[m])
  show y+2*bitsN l<2 ^ (l.length+1)
  rw[Nat.pow_succ]
  omega
theorem getD_ext {v t:List Nat} (hl:v.length=t.length) (h:∀ i,v.getD i 0=t.getD i 0):v=t:=List.ext_getElem hl fun j h1 h2=>by
 have:=h j
 rw[List.getD,List.getElem?_eq_getElem h1,List.getD,List.getElem?_eq_getElem h2] at this
 exact this
theorem tot_num {c:Circ} (C:CC c) {t:List Nat} (T:∃ b,TotOk c b t):∃ b,b<2 ^ (freeN c).length∧TotOk c b t:=by
 have hb:=tot_known C T
 obtain⟨b,T⟩:=T
 have hl:∀ x∈(freeN c).map fun f=>t.getD f 0,x≤1:=fun x m=>by
  obtain⟨f,_,rfl⟩:=List.mem_map.1 m
  exact hb f
 refine⟨bitsN ((freeN c).map fun f=>t.getD f 0),by have:=bitsN_lt hl;rw[List.length_map] at this;exact this,T.len,fun j f hj=>?_,T.gate,T.le⟩
 exact (bitsN_get hl (by rw[List.getElem?_map,hj];rfl)).symm
theorem tot_uniq {c:Circ} (C:CC c) {b:Nat}{t s:List Nat} (T:TotOk c b t) (S:TotOk c b s):t=s :=
 getD_ext (T.len.trans S.len.symm) (closed_tot C.p C.f3 (close_self (tot_cls C ⟨b,T⟩)) S fun f hf=>by
  obtain⟨j,hj,e⟩:=List.getElem_of_mem hf
  have hj':(freeN c)[j]?=some f:=by rw[List.getElem?_eq_getElem hj,e]
  rw[T.free j f hj',S.free j f hj'])
def TotB (c:Circ) (given:List Asg) (b:Nat) (t:List Nat):Prop:=(∃ b',b'<b∧TotOk c b' t)∧Ext given t
structure ComB (c:Circ) (given:List Asg) (b:Nat) (v:List Nat):Prop where
 len:v.length=c.nodes.length
 le:∀ i,v.getD i 0≤2
 ex:∃ t,TotB c given b t
 com:∀ i x,x≤1→(v.getD i 0=x ↔ ∀ t,TotB c given b t→t.getD i 0=x)
theorem totB_succ {c:Circ} (C:CC c) {given:List Asg}{b:Nat}{t:List Nat} (T:TotOk c b t) {s:List Nat}:TotB c given (b+1) s↔TotB c given b s∨(s=t∧Ext given s):=by
 constructor
 ·rintro⟨⟨b',h,S⟩,E⟩
  by_cases e:b'=b
  ·subst e;exact .inr ⟨tot_uniq C S T,E⟩
  ·exact .inl ⟨⟨b',by omega,S⟩,E⟩
 ·rintro (⟨⟨b',h,S⟩,E⟩|⟨rfl,E⟩)
  ·exact⟨⟨b',by omega,S⟩,E⟩
  ·exact⟨⟨b,by omega,T⟩,E⟩
theorem com_sat {c:Circ} (C:CC c) {given:List Asg} (g:GivOk c given) {k:Nat} (hk:(freeN c).length≤k) (hk9:k<90) {v:List Nat} (h:(v=[]∧∀ t,¬ TotB c given (2 ^ (freeN c).length) t)∨ComB c given (2 ^ (freeN c).length) v):v=ofO (satO c k given):=by
 have toE:∀ {t:List Nat},TotE c given t↔TotB c given (2 ^ (freeN c).length) t:=fun {t}=>⟨fun T=>⟨(tot_num C T.1),T.2⟩,fun T=>⟨T.1.imp fun b h=>h.2,T.2⟩⟩
 have S:=sat_sound C (d:=k) (by omega) g
 cases e:satO c k given with
 |none =>
  rcases h with⟨h,_⟩|h
  ·exact h
  ·obtain⟨t,T⟩:=h.ex
   obtain⟨y,ey,_⟩:=S.2 t (toE.2 T)
   rw[e] at ey;cases ey
 |some w =>
  have A:=sat_complete C k hk9 given g w e (by
   have:=List.length_filter_le (fun f=>w.getD f 0==2) (freeN c)
   unfold unkF;omega)
  have L:=lstO_some e
  have W:=satP_cw L.mem
  rcases h with⟨_,h⟩|h
  ·obtain⟨t,T⟩:=A.ex
   exact absurd (toE.1 T) (h t)
  ·have ww:∀ i x,x≤1→(w.getD i 0=x ↔ ∀ t,TotB c given (2 ^ (freeN c).length) t→t.getD i 0=x):=fun i x hx=>⟨fun ew t T=>by
    obtain⟨y,ey,hy⟩:=S.2 t (toE.2 T)
    rw[e] at ey;cases ey
    rcases hy.2 i with q|q
    ·omega
    ·rw[← q];exact ew,fun H=>A.com i x hx fun t T=>H t (toE.1 T)⟩
   refine getD_ext (h.len.trans W.len.symm) fun i=>?_
   have h1:=h.le i
   have h2:=W.le i
   by_cases q:v.getD i 0≤1
   ·exact ((ww i _ q).2 ((h.com i _ q).1 rfl)).symm
   ·by_cases q2:w.getD i 0≤1
    ·exact (h.com i _ q2).2 ((ww i _ q2).1 rfl)
    ·have h1:v.getD i 0≤2:=h1
     have h2:w.getD i 0≤2:=h2
     show v.getD i 0=w.getD i 0
     omega
theorem joinR {α:Type}{first:(α→Prop)→Prop}{rest:α→Prop} (h:∀ a,rest a) (f:∀ k,(∀ a,k a)→first k):joinW first rest:=f rest h
def maskN (v t:List Nat) (i:Nat):List Nat:=(List.range v.length).map fun j=>if j<i∧v.getD j 0≠t.getD j 0 then 2 else v.getD j 0
theorem maskN_get {v t:List Nat}{i j:Nat} (hj:j<v.length):(maskN v t i).getD j 0=if j<i∧v.getD j 0≠t.getD j 0 then 2 else v.getD j 0:=by
 unfold maskN
 rw[List.getD,List.getElem?_map,List.getElem?_range hj]
 rfl
theorem maskN_len (v t:List Nat) (i:Nat):(maskN v t i).length=v.length:=by unfold maskN;simp
theorem maskN_zero (v t:List Nat):maskN v t 0=v:=getD_ext (maskN_len ..) fun j=>by
 by_cases h:j<v.length
 ·rw[maskN_get h,if_neg (by omega)]
 ·rw[getD_out (by rw[maskN_len];omega),getD_out (by omega)]
theorem maskN_skip {v t:List Nat}{i:Nat} (h:v.getD i 0=t.getD i 0):maskN v t (i+1)=maskN v t i:=getD_ext (by rw[maskN_len,maskN_len]) fun j=>by
 by_cases hj:j<v.length
 ·rw[maskN_get hj,maskN_get hj]
  by_cases e:j=i
  ·subst e;rw[if_neg (by omega),if_neg (by omega)]
  ·by_cases q:j<i∧v.getD j 0≠t.getD j 0
   ·rw[if_pos q,if_pos ⟨by omega,q.2⟩]
   ·rw[if_neg q,if_neg (by omega)]
 ·rw[getD_out (by rw[maskN_len];omega),getD_out (by rw[maskN_len];omega)]
theorem maskN_set {v t:List Nat}{i:Nat} (hi:i<v.length) (h:v.getD i 0≠t.getD i 0):(maskN v t i).set i 2=maskN v t (i+1):=getD_ext (by rw[List.length_set,maskN_len,maskN_len]) fun j=>by
 rw[getD_set (by rw[maskN_len];exact hi)]
 by_cases hj:j<v.length
 ·rw[maskN_get hj,maskN_get hj]
  by_cases e:i=j
  ·subst e;rw[if_pos rfl,if_pos ⟨by omega,h⟩]
  ·rw[if_neg e]
   by_cases q:j<i∧v.getD j 0≠t.getD j 0
   ·rw[if_pos q,if_pos ⟨by omega,q.2⟩]
   ·rw[if_neg q,if_neg (by omega)]
 ·rw[if_neg (by omega),getD_out (by rw[maskN_len];omega),getD_out (by rw[maskN_len];omega)]
theorem com_step {c:Circ} (C:CC c) {given:List Asg}{b:Nat}{v t:List Nat} (T:TotOk c b t) (E:Ext given t) (h:ComB c given b v):ComB c given (b+1) (maskN v t v.length):=by
 have hb:=tot_known C ⟨b,T⟩
 have key:∀ i,(maskN v t v.length).getD i 0=if v.getD i 0≠t.getD i 0 then 2 else v.getD i 0:=fun i=>by
  by_cases q:i<v.length
  ·rw[maskN_get q]
   by_cases e:v.getD i 0=t.getD i 0
   ·rw[if_neg (fun h=>h.2 e),if_neg (fun h=>h e)]
   ·rw[if_pos ⟨q,e⟩,if_pos e]
  ·rw[getD_out (by rw[maskN_len];omega),getD_out (l:=v) (by omega),getD_out (l:=t) (by rw[T.len,← h.len];omega)]
   rfl
 refine⟨by rw[maskN_len];exact h.len,fun i=>?_,h.ex.imp fun s S=>(totB_succ C T).2 (.inl S),fun i x hx=>?_⟩
 ·rw[key];split
  ·exact Nat.le_refl _
  ·exact h.le i
 ·rw[key]
  constructor
  ·intro e s S
   by_cases q:v.getD i 0=t.getD i 0
   ·rw[if_neg (fun h=>h q)] at e
    rcases (totB_succ C T).1 S with S|⟨rfl,_⟩
    ·exact (h.com i x hx).1 e s S
    ·rw[← q];exact e
   ·rw[if_pos q] at e;omega
  ·intro H
   have e1:=(h.com i x hx).2 fun s S=>H s ((totB_succ C T).2 (.inl S))
   have e2:=H t ((totB_succ C T).2 (.inr ⟨rfl,E⟩))
   rw[if_neg (fun h=>h (e1.trans e2.symm))]
   exact e1
theorem com_first {c:Circ} (C:CC c) {given:List Asg}{b:Nat}{t:List Nat} (T:TotOk c b t) (E:Ext given t) (h:∀ s,¬ TotB c given b s):ComB c given (b+1) t :=
 ⟨T.len,T.le,⟨t,(totB_succ C T).2 (.inr ⟨rfl,E⟩)⟩,fun i x _=>⟨fun e s S=>by
  rcases (totB_succ C T).1 S with S|⟨rfl,_⟩
  ·exact absurd S (h s)
  ·exact e,fun H=>H t ((totB_succ C T).2 (.inr ⟨rfl,E⟩))⟩⟩
theorem com_same {c:Circ} (C:CC c) {given:List Asg}{b:Nat}{v t:List Nat} (T:TotOk c b t) (E:¬ Ext given t):(ComB c given b v→ComB c given (b+1) v)∧((∀ s,¬ TotB c given b s)→∀ s,¬ TotB c given (b+1) s):=by
 have e:∀ s,TotB c given (b+1) s↔TotB c given b s:=fun s=>⟨fun S=>by
  rcases (totB_succ C T).1 S with S|⟨rfl,E'⟩
  ·exact S
  ·exact absurd E' E,fun S=>(totB_succ C T).2 (.inl S)⟩
 exact⟨fun h=>⟨h.len,h.le,h.ex.imp fun s S=>(e s).2 S,fun i x hx=>(h.com i x hx).trans ⟨fun H s S=>H s ((e s).1 S),fun H s S=>H s ((e s).2 S)⟩⟩,fun h s S=>h s ((e s).1 S)⟩
theorem learnsComplete_vc {x:CData} (hx:CB x) {l:List U2} (hl:∀ u∈l,u.a<256):probecardlaw25_LearnsComplete_wp x l (· = true):=by
 unfold probecardlaw25_LearnsComplete_wp
 refine plain24_vc hx ?_
 have C:=cc_circ x
 have hfree:=circ_free x
 generalize circN (plainC x)=c at C hfree ⊢
 have hc:=C.p.good.len
 have hpos:=C.p.good.pos
 refine freeN_vc (by omega) ?_
 by_cases q:l.length≤3
 rotate_left
 ·exact joinB (a:=true) (fun F=>⟨fun _=>F,fun e=>absurd (lt_f.1 e) q⟩) ⟨fun _=>rfl,(fun e=>by cases e)⟩
 by_cases q2:(freeN c).length≤3
 rotate_left
 ·exact joinB (a:=true) (fun F=>⟨fun _=>F,fun _=>⟨fun _=>F,fun e=>absurd (lt_f.1 e) q2⟩⟩) ⟨fun _=>rfl,(fun e=>by cases e)⟩
 refine joinR (fun b=>⟨fun _=>rfl,fun _=>?_⟩) fun k hk=>⟨fun _=>hk _,fun _=>⟨fun _=>hk _,fun _=>⟨fun _=>hk _,fun _=>hk _⟩⟩⟩
 refine given_vc hpos hl (by omega) ?_
 obtain⟨g,gl⟩:=giv_given C (l:=l) (by omega)
 generalize givenN c.nodes.length l=given at g gl ⊢
 have hb63:2 ^ (freeN c).length≤2 ^ 16:=Nat.pow_le_pow_right (by decide) (by omega)
 refine joinLoop (fun s=>s.2≤2 ^ (freeN c).length∧((s.1=[]∧∀ t,¬ TotB c given s.2 t)∨ComB c given s.2 s.1)) (fun s=>2 ^ (freeN c).length-s.2) (fun v=>(v=[]∧∀ t,¬ TotB c given (2 ^ (freeN c).length) t)∨ComB c given (2 ^ (freeN c).length) v) ?_ ⟨Nat.zero_le _,.inl ⟨rfl,fun t T=>by obtain⟨⟨b',h,_⟩,_⟩:=T;omega⟩⟩ ?_
 ·rintro kk ⟨v,b⟩ nx ⟨hb,hI⟩ hnx hkk
  dsimp only at hb hI
  refine⟨by omega,fun q=>?_,fun q=>?_⟩
  ·have q:b<2 ^ (freeN c).length:=lt_t.1 q
   have next:∀ v',((v'=[]∧∀ t,¬ TotB c given (b+1) t)∨ComB c given (b+1) v')→b+1<2 ^ 63∧nx (v',b+1):=fun v' h=>⟨by omega,hnx _ ⟨q,h⟩ (by dsimp only;omega)⟩
   refine joinI (total_vc C.p fun t T=>has25_vc (fun a m=>by rw[T.len];exact (g.ok a m).1) g.len (fun E=>⟨(fun e=>by cases e),fun _=>?_⟩) (fun E=>⟨fun _=>next v ?_,(fun e=>by cases e)⟩))
   ·have tl:=T.len
    rcases hI with⟨rfl,hI⟩|hI
    ·refine⟨fun _=>?_,(fun e=>by cases e)⟩
     refine loopW_intro (fun s=>s.1=t∧s.2≤t.length) (fun s=>t.length-s.2) ?_ ⟨rfl,Nat.zero_le _⟩
     rintro⟨w,i⟩ nx2 ⟨hw,hi⟩ hnx2
     dsimp only at hw hi
     subst hw
     refine⟨fun q=>?_,fun _=>next w (.inr (com_first C T E hI))⟩
     have q:i<w.length:=lt_t.1 q
     exact joinI ⟨_,getD_some q,_,getD_some q,fun e=>absurd rfl (ne_t.1 e),fun _=>⟨by omega,hnx2 _ ⟨rfl,q⟩ (by dsimp only;omega)⟩⟩
    ·have hvl:=hI.len
     have hne:v.isEmpty=false:=by cases v with
      |nil=>simp only[List.length_nil] at hvl;omega
      |cons _ _=>rfl
     refine⟨fun e=>(by rw[hne] at e;cases e),fun _=>?_⟩
     refine loopW_intro (fun s=>s.2≤t.length∧s.1=maskN v t s.2) (fun s=>t.length-s.2) ?_ ⟨Nat.zero_le _,(maskN_zero v t).symm⟩
     rintro⟨w,i⟩ nx2 ⟨hi,hw⟩ hnx2
     dsimp only at hi hw
     have hwl:w.length=c.nodes.length:=by rw[hw,maskN_len];exact hvl
     refine⟨fun q=>?_,fun q=>?_⟩
     ·have q:i<t.length:=lt_t.1 q
      have hwi:w.getD i 0=v.getD i 0:=by rw[hw,maskN_get (by omega),if_neg (by omega)]
      refine joinI ⟨_,getN hwl (by omega),_,getD_some q,fun e=>⟨_,getN hwl (by omega),by omega,hnx2 _ ⟨q,?_⟩ (by dsimp only;omega)⟩,fun e=>⟨by omega,hnx2 _ ⟨q,?_⟩ (by dsimp only;omega)⟩⟩
      ·dsimp only
       rw[hw,maskN_set (by omega) (by rw[← hwi];exact ne_t.1 e)]
      ·dsimp only
       rw[hw,maskN_skip (by rw[← hwi];exact ne_f.1 e)]
     ·have q:t.length≤i:=lt_f.1 q
      refine next w (.inr ?_)
      rw[hw,show i=v.length by omega]
      exact com_step C T E hI
   ·exact hI.imp (fun ⟨h1,h2⟩=>⟨h1,(com_same (v:=v) C T E).2 h2⟩) (com_same C T E).1
  ·have q:2 ^ (freeN c).length≤b:=lt_f.1 q
   have:b=2 ^ (freeN c).length:=by omega
   subst this
   exact hkk v hI
 rintro v hv
 have ev:=com_sat C g (Nat.le_refl _) (by omega) hv
 subst ev
 refine lSaturate_vc C (by omega) g ⟨fun _=>?_,fun e=>absurd (cloR_err _) (eq_f.1 e)⟩
 rw[cloR_fst,show (cloR (satO c (freeN c).length given)).2.1 = !(ofO (satO c (freeN c).length given)).isEmpty from (congrArg (fun r=>r.2.1) (cloR_sat (satO_pos C (d:=(freeN c).length) (given:=given)))).symm]
 refine equal_vc ?_ ⟨fun _=>rfl,(fun e=>by cases e)⟩
 rw[← cloR_fst]
 exact cloR_len (n:=c.nodes.length) (by omega) satO_len
def learnsComplete_sh:List (Sh×Bool):=[(shC,true),(.slice shU2,false)]
theorem learnsComplete_call (x:DenL learnsComplete_sh) (w:wfL learnsComplete_sh x):FnV Tryz.prog NG vars 10 ⟨argL learnsComplete_sh x⟩ (.bool true):=by
 obtain⟨c,vs,u⟩:=x
 obtain⟨wc,wv,_⟩:=w
 obtain⟨y,hy,e1⟩:=c_arg wc
 obtain⟨l,hl,e2⟩:=pairs_arg wv
 have e:argL learnsComplete_sh (c,vs,u)=[encC y,encL 2 encU2 l]:=by
  show [elV (!true) (shC.cellsF c),elV (!false) ((Sh.slice shU2).cellsF vs)]=_
  rw[e1,e2];rfl
 rw[e]
 exact FnV.of_walk (enc:=Value.bool) (r:=true) (PureV.flat rfl) fun h hB=>probecardlaw25_LearnsComplete_walk (learnsComplete_vc hy (fun u m=>(hl u m).1)) hB
end Go.Proofs.YtfhldkgelipnaaaGreatDoor
