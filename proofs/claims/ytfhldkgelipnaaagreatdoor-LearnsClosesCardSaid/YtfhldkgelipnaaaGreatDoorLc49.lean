/-
  R4, QL, Lw2, R3, Q7, Q9, Q10, Q15, LearnsCloses: parts of the proof.
-/
import Derived.Test.YtfhldkgelipnaaaGreatDoorLc48
namespace Go.Proofs.YtfhldkgelipnaaaGreatDoor
open Go.Abs
set_option maxRecDepth 100000
set_option maxHeartbeats 8000000
def probecardlaw25_lives_wp  (K:Bool→Prop):Prop :=
 probecardlaw25_example_wp  (fun r1=>probecardlaw25_at_wp 5 1 (fun r6=>1=([r6]:(List Asg)).length∧learns_Saturate_wp r1 0 ([r6]:(List Asg)) (fun r9=>probecardlaw25_at_wp 5 1 (fun r11=>1=([r11]:(List Asg)).length∧learns_Saturate_wp r1 1 ([r11]:(List Asg)) (fun r14=>learns_Static_wp r1 (fun r16=>learns_Static_wp (⟨([(⟨0,([]:(List Nat)),0,0⟩:Node),(⟨4,([0]:(List Nat)),0,0⟩:Node),(⟨5,([0,1]:(List Nat)),0,0⟩:Node)]:(List Node)),([(⟨#[97]⟩:ByteArray),(⟨#[98]⟩:ByteArray),(⟨#[99]⟩:ByteArray)]:(List ByteArray)),([]:(List Memo)),([2]:(List Nat))⟩:Circ) (fun r17=>learns_Saturate_wp (⟨([(⟨0,([]:(List Nat)),0,0⟩:Node),(⟨4,([0]:(List Nat)),0,0⟩:Node),(⟨5,([0,1]:(List Nat)),0,0⟩:Node)]:(List Node)),([(⟨#[97]⟩:ByteArray),(⟨#[98]⟩:ByteArray),(⟨#[99]⟩:ByteArray)]:(List ByteArray)),([]:(List Memo)),([2]:(List Nat))⟩:Circ) 1 ([]:(List Asg)) (fun r18=>joinW (α:=Bool) (fun k20=>((neN r9.2.2 0)=true→k20 true)∧((neN r9.2.2 0)=false→((neN r14.2.2 0)=true→k20 true)∧((neN r14.2.2 0)=false→((neN r16.2 0)=true→k20 true)∧((neN r16.2 0)=false→((neN r17.2 0)=true→k20 true)∧((neN r17.2 0)=false→((neN r18.2.2 0)=true→k20 true)∧((neN r18.2.2 0)=false→probecardlaw25_equal_wp r9.1 r9.2.1 ([2,2,2,2,2,1]:(List Nat)) true (fun r21=>((!r21)=true→k20 true)∧((!r21)=false→probecardlaw25_equal_wp r14.1 r14.2.1 ([2,1,2,2,2,1]:(List Nat)) true (fun r22=>((!r22)=true→k20 true)∧((!r22)=false→probecardlaw25_equal_wp r18.1 r18.2.1 ([2,2,0]:(List Nat)) true (fun r23=>k20 (!r23)))))))))))) (fun v19=>(v19=true→K false)∧(v19=false→joinW (α:=Bool) (fun k25=>((neN r16.1.length 1)=true→k25 true)∧((neN r16.1.length 1)=false→∃ x26,r16.1[0]?=some x26∧probecardlaw25_at_wp 5 1 (fun r27=>probecardlaw25_at_wp 1 1 (fun r28=>((!(((eqN x26.cond.net r27.net)&&((eqN x26.cond.value r27.value)&&true))&&(((eqN x26.thn.net r28.net)&&((eqN x26.thn.value r28.value)&&true))&&true)))=true→k25 true)∧((!(((eqN x26.cond.net r27.net)&&((eqN x26.cond.value r27.value)&&true))&&(((eqN x26.thn.net r28.net)&&((eqN x26.thn.value r28.value)&&true))&&true)))=false→((neN r17.1.length 1)=true→k25 true)∧((neN r17.1.length 1)=false→∃ x29,r17.1[0]?=some x29∧probecardlaw25_at_wp 2 1 (fun r30=>probecardlaw25_at_wp 2 0 (fun r31=>k25 (!(((eqN x29.cond.net r30.net)&&((eqN x29.cond.value r30.value)&&true))&&(((eqN x29.thn.net r31.net)&&((eqN x29.thn.value r31.value)&&true))&&true))))))))))) (fun v24=>(v24=true→K false)∧(v24=false→probecardlaw25_at_wp 2 1 (fun r32=>1=([r32]:(List Asg)).length∧learns_Close_wp (⟨([(⟨0,([]:(List Nat)),0,0⟩:Node),(⟨4,([0]:(List Nat)),0,0⟩:Node),(⟨5,([0,1]:(List Nat)),0,0⟩:Node)]:(List Node)),([(⟨#[97]⟩:ByteArray),(⟨#[98]⟩:ByteArray),(⟨#[99]⟩:ByteArray)]:(List ByteArray)),([]:(List Memo)),([2]:(List Nat))⟩:Circ) r17.1 ([r32]:(List Asg)) (fun r35=>probecardlaw25_at_wp 0 1 (fun r37=>probecardlaw25_at_wp 1 1 (fun r38=>probecardlaw25_at_wp 0 1 (fun r41=>1=([(⟨r37,r38⟩:Lawv)]:(List Lawv)).length∧1=([r41]:(List Asg)).length∧learns_Close_wp r1 ([(⟨r37,r38⟩:Lawv)]:(List Lawv)) ([r41]:(List Asg)) (fun r44=>((eqN r35.2.2 0)=true→((!r35.2.1)=true→((eqN r44.2.2 0)=true→probecardlaw25_equal_wp r44.1 r44.2.1 ([1,1,1,0,0,1]:(List Nat)) true (fun r49=>K r49))∧((eqN r44.2.2 0)=false→K false))∧((!r35.2.1)=false→K false))∧((eqN r35.2.2 0)=false→K false)))))))))))))))))))
theorem probecardlaw25_lives_walk  {K:Bool→Prop} (hm:probecardlaw25_lives_wp  K) {h0:Heap} (hB:HasB vars h0):∃ r,K r∧CallD Tryz.prog NG 23 ⟨[]⟩ h0 (Value.bool r) h0:=by
 unfold probecardlaw25_lives_wp at hm
 refine fw Tryz.func23 hB (enc:=Value.bool) (fun r=>PureV.flat rfl) fun O=>?_;conv=>whnf
 refine gX ?_
 refine ca (probecardlaw25_example_walk hm O.has) fun r1 hm=>?_;refine gH ?_
 refine O.new (anew_alloc (l:=[(.slice none 0 0),(.slice none 0 0),(.slice none 0 0),(.slice none 0 0)]) rfl rfl rfl) fun g2 h O=>?_;refine gH ?_
 refine O.stC 4 (.head _) [((encL 4 encNode) r1.nodes),((encL 1 Value.string) r1.names),((encL 3 encMem) r1.mems),((encL 1 i64) r1.outs)] fun h O=>?_;refine gX ?_
 refine fz ?_;refine gH ?_
 refine fz ?_;refine gH ?_
 refine NewG.frzW rfl (VLe.els (s:=4) (es':=([(⟨0,([]:(List Nat)),0,0⟩:Node),(⟨4,([0]:(List Nat)),0,0⟩:Node),(⟨5,([0,1]:(List Nat)),0,0⟩:Node)]).map encNode) rfl (map_size (enc:=encNode) (s:=4) (fun _=>rfl) _) (LLe.cons (VLe.refl _ _) (LLe.cons (VLe.nil _ _) (LLe.cons (VLe.refl _ _) (LLe.cons (VLe.refl _ _) (LLe.cons (VLe.refl _ _) (LLe.cons (VLe.refl _ _) (LLe.cons (VLe.refl _ _) (LLe.cons (VLe.refl _ _) (LLe.cons (VLe.refl _ _) (LLe.cons (VLe.refl _ _) (LLe.cons (VLe.refl _ _) (LLe.cons (VLe.refl _ _) (LLe.nil _)))))))))))))) ?_;refine gH ?_
 refine fz ?_;refine gH ?_
 refine fz ?_;refine gH ?_
 refine O.new (anew_alloc (l:=[(.slice none 0 0),(.slice none 0 0),(.slice none 0 0),(.slice none 0 0)]) rfl rfl rfl) fun g4 h O=>?_;refine gH ?_
 refine O.stC 4 (.head _) [((encL 4 encNode) ([(⟨0,([]:(List Nat)),0,0⟩:Node),(⟨4,([0]:(List Nat)),0,0⟩:Node),(⟨5,([0,1]:(List Nat)),0,0⟩:Node)]:(List Node))),((encL 1 Value.string) ([(⟨#[97]⟩:ByteArray),(⟨#[98]⟩:ByteArray),(⟨#[99]⟩:ByteArray)]:(List ByteArray))),(.slice none 0 0),((encL 1 i64) ([2]:(List Nat)))] fun h O=>?_;refine gX ?_
 refine ldA (O.at (.tail _ (.head _))) ?_;refine gH ?_
 first|refine⟨.inr (.inr (loadAggK rfl (O.at (.tail _ (.head _))) rfl rfl (lbE rfl) rfl)),?_⟩|refine⟨.inr (.inl (by kernel_rfl)),?_⟩
 refine gX ?_
 refine ca (probecardlaw25_at_walk hm O.has) fun r6 hm=>?_;refine gH ?_
 refine⟨.inl (Ext.refl _),?_⟩;refine gH ?_
 refine O.buildLX (l:=([r6]:(List Asg))) (enc:=encAsg) (s:=2) (z:=(.agg ⟨[(i64 0),(n8 0)]⟩)) rfl rfl (by kernel_rfl) (by kernel_rfl) rfl rfl rfl rfl (fun _=>rfl) fun g7 h O=>?_;refine gH ?_
 obtain⟨hn10,hm⟩:=hm
 refine O.useL (fun _ hb=>learns_Saturate_walk hm hb) (.head _) hn10 (fun _=>rfl) (i:=2) rfl (by kernel_rfl) (fun h2 q=>(LLe.cons (VLe.refl _ _) (LLe.cons (VLe.refl _ _) (LLe.cons (q) (LLe.nil _))))) (fun r9 h hm' O=>?_);replace hm:=hm';refine gH ?_
 refine⟨.inr (by kernel_rfl),?_⟩;refine gH ?_
 refine gX ?_
 refine ldA (O.at (.tail _ (.tail _ (.head _)))) ?_;refine gH ?_
 first|refine⟨.inr (.inr (loadAggK rfl (O.at (.tail _ (.tail _ (.head _)))) rfl rfl (lbE rfl) rfl)),?_⟩|refine⟨.inr (.inl (by kernel_rfl)),?_⟩
 refine gX ?_
 refine ca (probecardlaw25_at_walk hm O.has) fun r11 hm=>?_;refine gH ?_
 refine⟨.inl (Ext.refl _),?_⟩;refine gH ?_
 refine O.buildLX (l:=([r11]:(List Asg))) (enc:=encAsg) (s:=2) (z:=(.agg ⟨[(i64 0),(n8 0)]⟩)) rfl rfl (by kernel_rfl) (by kernel_rfl) rfl rfl rfl rfl (fun _=>rfl) fun g12 h O=>?_;refine gH ?_
 obtain⟨hn15,hm⟩:=hm
 refine O.useL (fun _ hb=>learns_Saturate_walk hm hb) (.head _) hn15 (fun _=>rfl) (i:=2) rfl (by kernel_rfl) (fun h2 q=>(LLe.cons (VLe.refl _ _) (LLe.cons (VLe.refl _ _) (LLe.cons (q) (LLe.nil _))))) (fun r14 h hm' O=>?_);replace hm:=hm';refine gH ?_
 refine⟨.inr (by kernel_rfl),?_⟩;refine gH ?_
 refine gX ?_
 refine ldA (O.at (.tail _ (.tail _ (.tail _ (.head _))))) ?_;refine gH ?_
 refine ca (learns_Static_walk hm O.has) fun r16 hm=>?_;refine gX ?_
 refine ldA (O.at (.tail _ (.tail _ (.head _)))) ?_;refine gH ?_
 refine caW (learns_Static_walk hm O.has) (LLe.cons (VLe.agg (LLe.cons (VLe.refl _ _) (LLe.cons (VLe.refl _ _) (LLe.cons (VLe.nil _ _) (LLe.cons (VLe.refl _ _) (LLe.nil _)))))) (LLe.nil _)) fun r17 hm=>?_;refine gX ?_
 refine ldA (O.at (.tail _ (.tail _ (.head _)))) ?_;refine gH ?_
 refine caW (learns_Saturate_walk hm O.has) (LLe.cons (VLe.agg (LLe.cons (VLe.refl _ _) (LLe.cons (VLe.refl _ _) (LLe.cons (VLe.nil _ _) (LLe.cons (VLe.refl _ _) (LLe.nil _)))))) (LLe.cons (VLe.refl _ _) (LLe.cons (VLe.nil _ _) (LLe.nil _)))) fun r18 hm=>?_;refine gH ?_
 apply Cs;conv=>whnf
 refine jn hm 178 [2,3,10,12] (fun s=>s) (fun v19 h=>Own vars h0 [((some g2),.cells [((encL 4 encNode) r1.nodes),((encL 1 Value.string) r1.names),((encL 3 encMem) r1.mems),((encL 1 i64) r1.outs)] false),((some g4),.cells [((encL 4 encNode) ([(⟨0,([]:(List Nat)),0,0⟩:Node),(⟨4,([0]:(List Nat)),0,0⟩:Node),(⟨5,([0,1]:(List Nat)),0,0⟩:Node)]:(List Node))),((encL 1 Value.string) ([(⟨#[97]⟩:ByteArray),(⟨#[98]⟩:ByteArray),(⟨#[99]⟩:ByteArray)]:(List ByteArray))),(.slice none 0 0),((encL 1 i64) ([2]:(List Nat)))] false)] h) (fun v19=>[(114,(.bool v19))]) (fun hm=>?_) ?_
 ·refine gX ?_
  refine br hm (fun hm=>?_) fun hm=>?_
  ·refine gX ?_
   refine bt ?_;refine gH ?_
   refine bt ?_;refine gH ?_
   refine bt ?_;refine gH ?_
   refine bt ?_;refine gH ?_
   refine bt ?_;refine gH ?_
   refine bt ?_;refine gH ?_
   exact jx true hm (O.sel [3,2] (by decide))
  ·refine gX ?_
   refine br hm (fun hm=>?_) fun hm=>?_
   ·refine gX ?_
    refine bt ?_;refine gH ?_
    refine bt ?_;refine gH ?_
    refine bt ?_;refine gH ?_
    refine bt ?_;refine gH ?_
    refine bt ?_;refine gH ?_
    exact jx true hm (O.sel [3,2] (by decide))
   ·refine gX ?_
    refine br hm (fun hm=>?_) fun hm=>?_
    ·refine gX ?_
     refine bt ?_;refine gH ?_
     refine bt ?_;refine gH ?_
     refine bt ?_;refine gH ?_
     refine bt ?_;refine gH ?_
     exact jx true hm (O.sel [3,2] (by decide))
    ·refine gX ?_
     refine br hm (fun hm=>?_) fun hm=>?_
     ·refine gX ?_
      refine bt ?_;refine gH ?_
      refine bt ?_;refine gH ?_
      refine bt ?_;refine gH ?_
      exact jx true hm (O.sel [3,2] (by decide))
     ·refine gX ?_
      refine br hm (fun hm=>?_) fun hm=>?_
      ·refine gX ?_
       refine bt ?_;refine gH ?_
       refine bt ?_;refine gH ?_
       exact jx true hm (O.sel [3,2] (by decide))
      ·refine gX ?_
       refine fz ?_;refine gH ?_
       refine caW (probecardlaw25_equal_walk hm O.has) (LLe.cons (VLe.ofN) (LLe.cons (VLe.refl _ _) (LLe.cons (VLe.refl _ _) (LLe.cons (VLe.refl _ _) (LLe.nil _))))) fun r21 hm=>?_;refine gH ?_
       refine br hm (fun hm=>?_) fun hm=>?_
       ·refine gX ?_
        refine bt ?_;refine gH ?_
        exact jx true hm (O.sel [3,2] (by decide))
       ·refine gX ?_
        refine fz ?_;refine gH ?_
        refine caW (probecardlaw25_equal_walk hm O.has) (LLe.cons (VLe.ofN) (LLe.cons (VLe.refl _ _) (LLe.cons (VLe.refl _ _) (LLe.cons (VLe.refl _ _) (LLe.nil _))))) fun r22 hm=>?_;refine gH ?_
        refine br hm (fun hm=>?_) fun hm=>?_
        ·refine gX ?_
         exact jx true hm (O.sel [3,2] (by decide))
        ·refine gX ?_
         refine fz ?_;refine gH ?_
         refine caW (probecardlaw25_equal_walk hm O.has) (LLe.cons (VLe.ofN) (LLe.cons (VLe.refl _ _) (LLe.cons (VLe.refl _ _) (LLe.cons (VLe.refl _ _) (LLe.nil _))))) fun r23 hm=>?_;refine gH ?_
         exact jx (!r23) hm (O.sel [3,2] (by decide))
 ·clear hm;rintro v19 base h hm O
  refine gX ?_
  refine br hm (fun hm=>?_) fun hm=>?_
  ·refine gX ?_
   exact fe hm O
  ·apply Cs;conv=>whnf
   apply Cs;conv=>whnf
   refine jn hm 178 [2,3,12] (fun s=>s) (fun v24 h=>Own vars h0 [((some g2),.cells [((encL 4 encNode) r1.nodes),((encL 1 Value.string) r1.names),((encL 3 encMem) r1.mems),((encL 1 i64) r1.outs)] false),((some g4),.cells [((encL 4 encNode) ([(⟨0,([]:(List Nat)),0,0⟩:Node),(⟨4,([0]:(List Nat)),0,0⟩:Node),(⟨5,([0,1]:(List Nat)),0,0⟩:Node)]:(List Node))),((encL 1 Value.string) ([(⟨#[97]⟩:ByteArray),(⟨#[98]⟩:ByteArray),(⟨#[99]⟩:ByteArray)]:(List ByteArray))),(.slice none 0 0),((encL 1 i64) ([2]:(List Nat)))] false)] h) (fun v24=>[(140,(.bool v24))]) (fun hm=>?_) ?_
   ·refine gX ?_
    refine br hm (fun hm=>?_) fun hm=>?_
    ·refine gX ?_
     refine bt ?_;refine gH ?_
     refine bt ?_;refine gH ?_
     exact jx true hm O
    ·refine gX ?_
     refine atF hm fun x26 hx26 hm=>?_;refine gH ?_
     first|refine⟨.inr (.inr (rfl)),?_⟩|refine⟨.inr (.inl (by kernel_rfl)),?_⟩
     refine gX ?_
     refine ca (probecardlaw25_at_walk hm O.has) fun r27 hm=>?_;refine gH ?_
     refine⟨.inl (Ext.refl _),?_⟩;refine gH ?_
     refine ca (probecardlaw25_at_walk hm O.has) fun r28 hm=>?_;refine gH ?_
     refine⟨.inl (Ext.refl _),?_⟩;refine gH ?_
     refine⟨.bool (!(((eqN x26.cond.net r27.net)&&((eqN x26.cond.value r27.value)&&true))&&(((eqN x26.thn.net r28.net)&&((eqN x26.thn.value r28.value)&&true))&&true))),by kernel_rfl,?_⟩;refine gH ?_
     refine br hm (fun hm=>?_) fun hm=>?_
     ·refine gX ?_
      refine bt ?_;refine gH ?_
      exact jx true hm O
     ·refine gX ?_
      refine br hm (fun hm=>?_) fun hm=>?_
      ·refine gX ?_
       exact jx true hm O
      ·refine gX ?_
       refine atF hm fun x29 hx29 hm=>?_;refine gH ?_
       first|refine⟨.inr (.inr (rfl)),?_⟩|refine⟨.inr (.inl (by kernel_rfl)),?_⟩
       refine gX ?_
       refine ca (probecardlaw25_at_walk hm O.has) fun r30 hm=>?_;refine gH ?_
       refine⟨.inl (Ext.refl _),?_⟩;refine gH ?_
       refine ca (probecardlaw25_at_walk hm O.has) fun r31 hm=>?_;refine gH ?_
       refine⟨.inl (Ext.refl _),?_⟩;refine gH ?_
       refine⟨.bool (!(((eqN x29.cond.net r30.net)&&((eqN x29.cond.value r30.value)&&true))&&(((eqN x29.thn.net r31.net)&&((eqN x29.thn.value r31.value)&&true))&&true))),by kernel_rfl,?_⟩;refine gH ?_
       exact jx (!(((eqN x29.cond.net r30.net)&&((eqN x29.cond.value r30.value)&&true))&&(((eqN x29.thn.net r31.net)&&((eqN x29.thn.value r31.value)&&true))&&true))) hm O
   ·clear hm;rintro v24 base h hm O
    refine gX ?_
    refine br hm (fun hm=>?_) fun hm=>?_
    ·refine gX ?_
     exact fe hm O
    ·refine gX ?_
     refine ldA (O.at (.tail _ (.head _))) ?_;refine gH ?_
     first|refine⟨.inr (.inr (loadAggK rfl (O.at (.tail _ (.head _))) rfl rfl (lbE rfl) rfl)),?_⟩|refine⟨.inr (.inl (by kernel_rfl)),?_⟩
     refine gX ?_
     refine ca (probecardlaw25_at_walk hm O.has) fun r32 hm=>?_;refine gH ?_
     refine⟨.inl (Ext.refl _),?_⟩;refine gH ?_
     refine O.buildLX (l:=([r32]:(List Asg))) (enc:=encAsg) (s:=2) (z:=(.agg ⟨[(i64 0),(n8 0)]⟩)) rfl rfl (by kernel_rfl) (by kernel_rfl) rfl rfl rfl rfl (fun _=>rfl) fun g33 h O=>?_;refine gH ?_
     obtain⟨hn36,hm⟩:=hm
     refine O.useL (fun _ hb=>learns_Close_walk hm hb) (.head _) hn36 (fun _=>rfl) (i:=2) rfl (by kernel_rfl) (fun h2 q=>(LLe.cons (VLe.agg (LLe.cons (VLe.refl _ _) (LLe.cons (VLe.refl _ _) (LLe.cons (VLe.nil _ _) (LLe.cons (VLe.refl _ _) (LLe.nil _)))))) (LLe.cons (VLe.refl _ _) (LLe.cons (VLe.toN (by simp) q) (LLe.nil _))))) (fun r35 h hm' O=>?_);replace hm:=hm';refine gH ?_
     refine⟨.inr (by kernel_rfl),?_⟩;refine gH ?_
     refine gX ?_
     refine ldA (O.at (.tail _ (.head _))) ?_;refine gH ?_
     first|refine⟨.inr (.inr (loadAggK rfl (O.at (.tail _ (.head _))) rfl rfl (lbE rfl) rfl)),?_⟩|refine⟨.inr (.inl (by kernel_rfl)),?_⟩
     refine gX ?_
     refine ca (probecardlaw25_at_walk hm O.has) fun r37 hm=>?_;refine gH ?_
     refine⟨.inl (Ext.refl _),?_⟩;refine gH ?_
     refine ca (probecardlaw25_at_walk hm O.has) fun r38 hm=>?_;refine gH ?_
     refine⟨.inl (Ext.refl _),?_⟩;refine gH ?_
     refine O.buildLX (l:=([(⟨r37,r38⟩:Lawv)]:(List Lawv))) (enc:=encLaw) (s:=4) (z:=(.agg ⟨[(i64 0),(n8 0),(i64 0),(n8 0)]⟩)) rfl rfl (by kernel_rfl) (by kernel_rfl) rfl rfl rfl rfl (fun _=>rfl) fun g39 h O=>?_;refine gH ?_
     refine ca (probecardlaw25_at_walk hm O.has) fun r41 hm=>?_;refine gH ?_
     refine⟨.inl (Ext.refl _),?_⟩;refine gH ?_
     refine O.buildLX (l:=([r41]:(List Asg))) (enc:=encAsg) (s:=2) (z:=(.agg ⟨[(i64 0),(n8 0)]⟩)) rfl rfl (by kernel_rfl) (by kernel_rfl) rfl rfl rfl rfl (fun _=>rfl) fun g42 h O=>?_;refine gH ?_
     obtain⟨hn47,hn48,hm⟩:=hm
     refine O.useXL (.tail _ (.head _)) hn47 (fun _=>rfl) (i:=1) rfl (by kernel_rfl) (fun h2 q=>(LLe.cons (VLe.refl _ _) (LLe.cons (q) (LLe.cons (VLe.refl _ _) (LLe.nil _))))) fun h O=>O.useXL (.head _) hn48 (fun _=>rfl) (i:=2) rfl (by kernel_rfl) (fun h2 q=>(LLe.cons (VLe.refl _ _) (LLe.cons (VLe.refl _ _) (LLe.cons (VLe.toN (by simp) q) (LLe.nil _))))) fun h O=>ca (learns_Close_walk hm O.has) fun r44 hm=>?_;refine gH ?_
     refine⟨.inr (by kernel_rfl),?_⟩;refine gH ?_
     refine gX ?_
     refine br hm (fun hm=>?_) fun hm=>?_
     ·refine gX ?_
      refine br hm (fun hm=>?_) fun hm=>?_
      ·refine gX ?_
       refine br hm (fun hm=>?_) fun hm=>?_
       ·refine gX ?_
        refine fz ?_;refine gH ?_
        refine ca (probecardlaw25_equal_walk hm O.has) fun r49 hm=>?_;refine gX ?_
        exact fe hm O
       ·refine gX ?_
        exact fe hm O
      ·refine gX ?_
       refine bf ?_;refine gX ?_
       exact fe hm O
     ·refine gX ?_
      refine bf ?_;refine gH ?_
      refine bf ?_;refine gX ?_
      exact fe hm O
def nm25:List ByteArray:=[⟨#[97]⟩,⟨#[98]⟩,⟨#[99]⟩,⟨#[100]⟩,⟨#[101]⟩,⟨#[102]⟩,⟨#[103]⟩]
theorem isname_run25:(nm25.all fun s=>isTrue (runFn Tryz.prog [] (orcExt Tryz.prog) 60 142 #[.string s] (heapOf vars)))=true:=by kernel_rfl
theorem isNm25 {s:ByteArray} (h:s∈nm25):IsNm s:=by
 obtain⟨h',e⟩:=isTrue_iff (List.all_eq_true.1 isname_run25 s h)
 have c:=(runFn_sound hM hP (fun f vs h v e=>orcExt_sound f vs h v e) 60 _ _ _ _ _ e).1
 exact⟨PureV.flatB rfl,fun h b=>c.lift (by kernel_rfl) rfl (bears_vars (hasSize b) (hasVars b))⟩
def nodeB (n i:Nat) (x:Node):Bool:=decide (x.kind≤11)&&decide (Arity x.kind x.ins.length)&&(x.ins.all fun k=>Nat.blt k n)&&decide (x.mem=0)&&decide (x.bit=0)&&(x.ins.all fun k=>Nat.blt k i)&&decide (x.ins.length≤3)
def circB (c:Circ):Bool:=(List.range c.nodes.length).all fun i=>match c.nodes[i]? with
 |some x=>nodeB c.nodes.length i x
 |none=>true
theorem cc25 {c:Circ} (h:circB c=true) (h0:0<c.nodes.length) (hl:c.nodes.length≤16) (hn:c.names.length=c.nodes.length) (h1:(c.names.all fun s=>nm25.any fun q=>decide (q=s))=true) (h2:c.names.Nodup) (hm:c.mems=[]) (ho:∀ o∈c.outs,o<c.nodes.length) (hol:c.outs.length≤16):CC c:=by
 have key:∀ i x,c.nodes[i]?=some x→nodeB c.nodes.length i x=true:=fun i x hx=>by
  have:=List.all_eq_true.1 h i (List.mem_range.2 (lt_of_get hx))
  rw[hx] at this;exact this
 unfold nodeB at key
 simp only[Bool.and_eq_true,decide_eq_true_eq,List.all_eq_true,Nat.blt_eq] at key
 have F:FanOk c:=fan_ok ⟨hl,fun i x hx=>⟨(key i x hx).1.1.1.1.2,by have:=(key i x hx).2;omega⟩⟩
 have N:NamesOk c:=by
  refine FnV.of_walk (enc:=i64) (PureV.flat rfl) fun h hB=>?_
  exact names_all_walk (K:=fun r=>r=0) (names_all_vc (fun s m=>isNm25 (by
   obtain⟨q,hq,e⟩:=List.any_eq_true.1 (List.all_eq_true.1 h1 s m)
   rw[← of_decide_eq_true e];exact hq)) h2 (by omega) rfl) hB
 refine⟨⟨⟨hl,hn,N,F,fun m hmm=>(by rw[hm] at hmm;cases hmm),by rw[hm];exact Nat.zero_le _,ho,hol,fun i x hx=>?_,h0⟩,hm,fun i x hx=>?_⟩,fun i x hx=>(key i x hx).2⟩
 ·obtain⟨⟨⟨⟨⟨⟨k1,k2⟩,k3⟩,k4⟩,k5⟩,k6⟩,k7⟩:=key i x hx
  exact⟨by omega,k2,k3,fun e=>by omega,fun _=>⟨k4,k5⟩,fun e=>by omega,fun _ _=>k6⟩
 ·have:=(key i x hx).1.1.1.1.1.1
  omega
def okE (c:Circ) (given:List Asg):Bool:=match closeF c given with
 |some v=>closeC c given v
 |none=>true
theorem okE_ok {c:Circ} (C:CC c) {given:List Asg} (g:GivOk c given) (h:okE c given=true):clo c given=closeF c given:=by
 unfold okE at h
 cases e:closeF c given with
 |none=>exact closeN_ok C.p C.f3 g e
 |some v=>rw[e] at h;exact closeC_ok C.p C.f3 g h
theorem sat0 {c:Circ} (C:CC c) {given:List Asg} (g:GivOk c given):satO c 0 given=clo c given:=by
 rcases clo_cases C.p C.f3 g with⟨v,D,e⟩|⟨N,e⟩
 ·rw[e];exact lstO_ok satP_len (lst_close D)
 ·rw[e];exact lstO_none fun t T E=>N t (cw_split.2 ⟨T,E⟩)
def leB (v t:List Nat):Bool:=blwL v t
theorem leB_ok {n:Nat}{v t:List Nat} (h:leB v t=true) (ht:t.length=n):LeN n v t:=by
 obtain⟨h1,h2⟩:=blwL_iff.1 h
 exact⟨h1.trans ht,h2⟩
def givB (c:Circ) (given:List Asg):Bool:=(given.all fun a=>Nat.blt a.net c.nodes.length&&Nat.ble a.value 1)&&Nat.ble given.length 1000
theorem givB_ok {c:Circ}{given:List Asg} (h:givB c given=true):GivOk c given:=by
 unfold givB at h
 simp only[Bool.and_eq_true,List.all_eq_true,Nat.blt_eq,Nat.ble_eq] at h
 exact⟨h.1,by omega⟩
def meetF (c:Circ) (v:List Nat) (n:Nat):Option (List Nat):=meetO (closeF c (knownA v++[⟨n,0⟩])) (closeF c (knownA v++[⟨n,1⟩]))
def meetB (c:Circ) (v:List Nat) (n:Nat):Bool:=givB c (knownA v++[⟨n,0⟩])&&givB c (knownA v++[⟨n,1⟩])&&okE c (knownA v++[⟨n,0⟩])&&okE c (knownA v++[⟨n,1⟩])
theorem meetB_ok {c:Circ} (C:CC c) {v:List Nat}{n:Nat} (h:meetB c v n=true):meetO (satO c 0 (knownA v++[⟨n,0⟩])) (satO c 0 (knownA v++[⟨n,1⟩]))=meetF c v n:=by
 unfold meetB at h
 simp only[Bool.and_eq_true] at h
 obtain⟨⟨⟨h1,h2⟩,h3⟩,h4⟩:=h
 rw[sat0 C (givB_ok h1),sat0 C (givB_ok h2),okE_ok C (givB_ok h1) h3,okE_ok C (givB_ok h2) h4]
 rfl
def leOB (o:Option (List Nat)) (t:List Nat):Bool:=match o with
 |some v=>leB v t
 |none=>false
theorem leOB_ok {n:Nat}{o:Option (List Nat)}{t:List Nat} (h:leOB o t=true) (ht:t.length=n):leO n o t:=by
 cases o with
 |none=>cases h
 |some v=>exact⟨v,rfl,leB_ok h ht⟩
def clsB (c:Circ) (v:List Nat):Bool:=givB c (knownA v)&&closeC c (knownA v) v
theorem clsB_ok {c:Circ} (C:CC c) {v:List Nat} (h:clsB c v=true):CW c [] v:=by
 unfold clsB at h
 simp only[Bool.and_eq_true] at h
 exact (cw_split.1 (clo_some (closeC_ok C.p C.f3 (givB_ok h.1) h.2)).cw).1
def sat1B (c:Circ) (v:List Nat):Bool:=clsB c v&&(List.range c.nodes.length).all fun n => !Nat.beq (v.getD n 0) 2||(meetB c v n&&leOB (meetF c v n) v)
theorem sat1B_ok {c:Circ} (C:CC c) {v:List Nat} (h:sat1B c v=true):satP c 1 v:=by
 unfold sat1B at h
 simp only[Bool.and_eq_true,List.all_eq_true,Bool.or_eq_true,Bool.not_eq_true',List.mem_range] at h
 have W:=clsB_ok C h.1
 refine⟨W,fun n hn h2=>?_⟩
 rcases h.2 n hn with q|q
 ·rw[h2] at q;cases q
 ·show leO _ (meetO (satO c 0 _) (satO c 0 _)) v
  rw[meetB_ok C q.1]
  exact leOB_ok q.2 W.len
def extB (given:List Asg) (v:List Nat):Bool:=given.all fun a=>Nat.beq (v.getD a.net 0) a.value
theorem extB_ok {given:List Asg}{v:List Nat} (h:extB given v=true):Ext given v:=fun a m=>Nat.eq_of_beq_eq_true (List.all_eq_true.1 h a m)
def oneB (c:Circ) (given:List Asg) (v0:List Nat) (n:Nat) (w:List Nat):Bool:=givB c given&&closeC c given v0&&Nat.blt n c.nodes.length&&meetB c v0 n&&(match meetF c v0 n with|some z=>eqLs z w|none=>false)&&sat1B c w&&extB given w
theorem oneB_ok {c:Circ} (C:CC c) {given:List Asg}{v0 w:List Nat}{n:Nat} (h:oneB c given v0 n w=true):satO c 1 given=some w:=by
 unfold oneB at h
 simp only[Bool.and_eq_true,Nat.blt_eq] at h
 obtain⟨⟨⟨⟨⟨⟨h1,h2⟩,h3⟩,h4⟩,h5⟩,h6⟩,h7⟩:=h
 have W:=sat1B_ok C h6
 have wl:=satP_len w W
 have D:=clo_some (closeC_ok C.p C.f3 (givB_ok h1) h2)
 refine lstO_ok satP_len ⟨W,extB_ok h7,fun t T E=>?_⟩
 rw[wl]
 have lt:LeN c.nodes.length v0 t:=⟨D.len,D.snd t (cw_split.2 ⟨satP_cw T,E⟩)⟩
 have M:=sat_meet C.p.good.len (d:=0) (fun e he=>by
  have:e=0:=by omega
  subst this;exact satD C (by decide)) T lt D.le h3
 rw[meetB_ok C h4] at M
 obtain⟨z,e,hz⟩:=M
 rw[e] at h5
 rw[← eqLs_iff h5]
 exact hz
def keepF (c:Circ) (i:Nat) (a:Asg):Bool:=neN a.net (i/2)&&match closeF c [⟨a.net,1-a.value⟩] with
 |none=>false
 |some w=>neN (w.getD (i/2) 0) (1-i%2)
def rowF (c:Circ) (i:Nat):List Lawv:=match closeF c [⟨i/2,i%2⟩] with
 |none=>[⟨⟨i/2,i%2⟩,⟨i/2,1-i%2⟩⟩]
 |some v=>((knownA v).filter (keepF c i)).map (lawR i)
def outF (c:Circ):List Lawv:=(List.range (2*c.nodes.length)).flatMap (rowF c)
def onesB (c:Circ):Bool:=(List.range (2*c.nodes.length)).all fun i=>okE c [⟨i/2,i%2⟩]
theorem outF_ok {c:Circ} (C:CC c) (h:onesB c=true):outR c=outF c:=by
 have key:∀ m w,m<c.nodes.length→w≤1→clo c [⟨m,w⟩]=closeF c [⟨m,w⟩]:=fun m w hm hw=>by
  have:=List.all_eq_true.1 h (2*m+w) (List.mem_range.2 (by omega))
  rw[show (2*m+w)/2=m by omega,show (2*m+w)%2=w by omega] at this
  exact okE_ok C (one_giv hm hw) this
 unfold outR outF
 rw[List.flatMap_def,List.flatMap_def]
 congr 1
 refine List.map_congr_left fun i hi=>?_
 have hi:=List.mem_range.1 hi
 unfold rowR rowF
 rw[← key (i/2) (i%2) (by omega) (by omega)]
 cases e:clo c [⟨i/2,i%2⟩] with
 |none=>rfl
 |some v =>
  dsimp only
  congr 1
  refine List.filter_congr fun a m=>?_
  obtain⟨a1,a2,a3⟩:=mem_known.1 m
  have D:=clo_some e
  have:=D.le a.net
  have:=D.len
  unfold keepR keepF
  rw[key a.net (1-a.value) (by omega) (by omega)]
  cases closeF c [⟨a.net,1-a.value⟩] <;> rfl
def c25:Circ:=⟨[⟨0,[],0,0⟩,⟨0,[],0,0⟩,⟨5,[0,1],0,0⟩,⟨4,[0],0,0⟩,⟨5,[3,1],0,0⟩,⟨7,[2,4],0,0⟩],[⟨#[97]⟩,⟨#[98]⟩,⟨#[100]⟩,⟨#[101]⟩,⟨#[102]⟩,⟨#[103]⟩],[],[5]⟩
def h25:Circ:=⟨[⟨0,[],0,0⟩,⟨4,[0],0,0⟩,⟨5,[0,1],0,0⟩],[⟨#[97]⟩,⟨#[98]⟩,⟨#[99]⟩],[],[2]⟩
theorem cc_c25:CC c25:=cc25 (by decide +kernel) (by decide) (by decide) rfl (by decide +kernel) (by decide +kernel) rfl (by decide) (by decide)
theorem cc_h25:CC h25:=cc25 (by decide +kernel) (by decide) (by decide) rfl (by decide +kernel) (by decide +kernel) rfl (by decide) (by decide)
theorem e1:satO c25 0 [⟨5,1⟩]=some [2,2,2,2,2,1]:=by
 rw[sat0 cc_c25 (givB_ok (by decide +kernel))]
 exact closeC_ok cc_c25.p cc_c25.f3 (givB_ok (by decide +kernel)) (by decide +kernel)
theorem e2:satO c25 1 [⟨5,1⟩]=some [2,1,2,2,2,1]:=oneB_ok cc_c25 (v0:=[2,2,2,2,2,1]) (n:=1) (by decide +kernel)
theorem e3:outR c25=[⟨⟨5,1⟩,⟨1,1⟩⟩]:=by
 rw[outF_ok cc_c25 (by decide +kernel)];rfl
theorem e4:outR h25=[⟨⟨2,1⟩,⟨2,0⟩⟩]:=by
 rw[outF_ok cc_h25 (by decide +kernel)];rfl
theorem e5:satO h25 1 []=some [2,2,0]:=oneB_ok cc_h25 (v0:=[2,2,2]) (n:=0) (by decide +kernel)
theorem e6:lawO h25 [⟨⟨2,1⟩,⟨2,0⟩⟩] [⟨2,1⟩]=none:=lstO_none fun t T E=>by
 have h1:=E ⟨2,1⟩ (List.mem_singleton.2 rfl)
 have h2:=T.2 _ (List.mem_singleton.2 rfl) h1
 dsimp only at h1 h2
 omega
theorem e7:lawO c25 [⟨⟨0,1⟩,⟨1,1⟩⟩] [⟨0,1⟩]=some [1,1,1,0,0,1]:=by
 refine lstO_ok lawP_len ⟨⟨clsB_ok cc_c25 (by decide +kernel),fun l m _=>by rw[List.mem_singleton.1 m];rfl⟩,fun a m=>by rw[List.mem_singleton.1 m];rfl,fun t T E=>?_⟩
 have h1:=E ⟨0,1⟩ (List.mem_singleton.2 rfl)
 have h2:=T.2 _ (List.mem_singleton.2 rfl) h1
 have D:=clo_some (closeC_ok cc_c25.p cc_c25.f3 (given:=[⟨0,1⟩,⟨1,1⟩]) (v:=[1,1,1,0,0,1]) (givB_ok (by decide +kernel)) (by decide +kernel))
 refine⟨rfl,D.snd t (cw_split.2 ⟨T.1,fun a m=>?_⟩)⟩
 rcases List.mem_cons.1 m with rfl|m
 ·exact h1
 ·rw[List.mem_singleton.1 m];exact h2
theorem lives25_vc {K:Bool→Prop} (k:K true):probecardlaw25_lives_wp K:=by
 unfold probecardlaw25_lives_wp probecardlaw25_example_wp probecardlaw25_at_wp
 refine⟨rfl,lSaturate_vc cc_c25 (by decide) (givB_ok (by decide +kernel)) ?_⟩
 rw[e1]
 refine⟨rfl,lSaturate_vc cc_c25 (by decide) (givB_ok (by decide +kernel)) ?_⟩
 rw[e2]
 refine static_vc cc_c25 fun l1 hp1 _=>?_
 obtain rfl:l1=[⟨⟨5,1⟩,⟨1,1⟩⟩]:=by rw[e3] at hp1;exact List.perm_singleton.1 hp1
 refine static_vc cc_h25 fun l2 hp2 _=>?_
 obtain rfl:l2=[⟨⟨2,1⟩,⟨2,0⟩⟩]:=by rw[e4] at hp2;exact List.perm_singleton.1 hp2
 refine lSaturate_vc cc_h25 (by decide) (givB_ok (by decide +kernel)) ?_
 rw[e5]
 refine joinB (a:=false) (fun F=>⟨fun e=>absurd rfl (ne_t.1 e),fun _=>⟨fun e=>absurd rfl (ne_t.1 e),fun _=>⟨fun e=>absurd rfl (ne_t.1 e),fun _=>⟨fun e=>absurd rfl (ne_t.1 e),fun _=>⟨fun e=>absurd rfl (ne_t.1 e),fun _ =>
  equal_vc (a:=[2,2,2,2,2,1]) (x:=true) (by decide) ⟨(fun e=>by cases e),fun _=>equal_vc (a:=[2,1,2,2,2,1]) (x:=true) (by decide) ⟨(fun e=>by cases e),fun _=>equal_vc (a:=[2,2,0]) (x:=true) (by decide) F⟩⟩⟩⟩⟩⟩⟩) ⟨(fun e=>by cases e),fun _=>?_⟩
 refine joinB (a:=false) (fun F=>⟨fun e=>absurd rfl (ne_t.1 e),fun _=>⟨_,rfl,(fun e=>by cases e),fun _=>⟨fun e=>absurd rfl (ne_t.1 e),fun _=>⟨_,rfl,F⟩⟩⟩⟩) ⟨(fun e=>by cases e),fun _=>?_⟩
 refine⟨rfl,lClose_vc cc_h25 ⟨fun l m=>?_,by decide⟩ (givB_ok (by decide +kernel)) (by decide) ?_⟩
 ·rw[List.mem_singleton.1 m];decide
 rw[e6]
 refine⟨rfl,rfl,lClose_vc cc_c25 ⟨fun l m=>?_,by decide⟩ (givB_ok (by decide +kernel)) (by decide) ?_⟩
 ·rw[List.mem_singleton.1 m];decide
 rw[e7]
 exact⟨fun _=>⟨fun _=>⟨fun _=>equal_vc (a:=[1,1,1,0,0,1]) (x:=true) (by decide) k,fun e=>absurd rfl (eq_f.1 e)⟩,(fun e=>by cases e)⟩,fun e=>absurd rfl (eq_f.1 e)⟩
structure U4 where
 a:Nat
 b:Nat
 c:Nat
 d:Nat
def encU4 (x:U4):Value:=.agg ⟨[n8 x.a,n8 x.b,n8 x.c,n8 x.d]⟩
structure Z2 where
 a:Int
 b:Int
theorem law25_livesF:FnV Tryz.prog NG vars 23 ⟨[]⟩ (.bool true):=FnV.of_walk (enc:=Value.bool) (r:=true) (PureV.flat rfl) fun _h hB=>probecardlaw25_lives_walk (K:=fun r=>r=true) (lives25_vc rfl) hB
def law25_lives_wp (K:Bool→Prop):Prop:=K true
theorem law25_lives_walk {K:Bool→Prop} (hm:law25_lives_wp K) {h0:Heap} (hB:HasB vars h0):∃ r,K r∧CallD Tryz.prog NG 23 ⟨[]⟩ h0 (Value.bool r) h0:=law25_livesF.walk (enc:=Value.bool) hm hB
set_option maxHeartbeats 8000000
def probecardlaw25_LearnsCloses_wp (p0:CData) (p1:(List U2)) (p2:(List U4)) (K:Bool→Prop):Prop :=
 joinW (α:=Bool) (fun k2=>((ltN 4 p1.length)=true→k2 true)∧((ltN 4 p1.length)=false→k2 (ltN 8 p2.length))) (fun v1=>(v1=true→law25_lives_wp  (fun r3=>K r3))∧(v1=false→law24_Plain_wp p0 (fun r4=>probecardlaw24_Given_wp r4.nodes.length p1 (fun r7=>joinW (α:=(List Lawv)) (fun k12=>loopW (S:=((List Lawv)×Nat)) (fun (v14,v15) nx17=>((ltN v15 p2.length)=true→∃ x18,p2[v15]?=some x18∧x18.a<256∧0<r4.nodes.length∧∃ x19,p2[v15]?=some x19∧0<2∧probecardlaw25_at_wp (x18.a%r4.nodes.length) (x19.b%2) (fun r20=>∃ x21,p2[v15]?=some x21∧x21.c<256∧0<r4.nodes.length∧∃ x22,p2[v15]?=some x22∧0<2∧probecardlaw25_at_wp (x21.c%r4.nodes.length) (x22.d%2) (fun r23=>(v14.length+([(⟨r20,r23⟩:Lawv)]:(List Lawv)).length)*32≤2 ^ 47∧v15+1<2 ^ 63∧nx17 ((v14++([(⟨r20,r23⟩:Lawv)]:(List Lawv))),(v15+1)))))∧((ltN v15 p2.length)=false→k12 v14)) (([]:List Lawv),0)) (fun v10=>learns_Close_wp r4 v10 r7 (fun r28=>(([]:List Asg).length+r7.length)*16≤2 ^ 47∧implies_Close_wp r4 (([]:List Asg)++r7) (fun r35=>joinW (α:=((List Nat)×Bool)) (fun k46=>loopW (S:=((List Asg)×(List Nat)×Bool×Bool)) (fun (v50,v52,v53,v54) nx57=>joinW (α:=Bool) (fun k61=>(v54=true→k61 v53)∧(v54=false→k61 false)) (fun v58=>(v58=true → -(2 ^ 63)≤((Int.ofNat v10.length)-(Int.ofNat 1))∧((Int.ofNat v10.length)-(Int.ofNat 1))<2 ^ 63∧loopW (S:=((List Asg)×(List Nat)×Bool×Bool×Int)) (fun (v65,v67,v68,v69,v70) nx73=>joinW (α:=Bool) (fun k77=>((!ltI v70 (Int.ofNat 0))=true→k77 v68)∧((!ltI v70 (Int.ofNat 0))=false→k77 false)) (fun v74=>(v74=true→joinW (α:=((List Asg)×(List Nat)×Bool×Bool)) (fun k88=>joinW (α:=Bool) (fun k94=>∃ j96:Nat,v70=Int.ofNat j96∧∃ x95,v10[j96]?=some x95∧∃ x98,v67[x95.cond.net]?=some x98∧∃ j101:Nat,v70=Int.ofNat j101∧∃ x100,v10[j101]?=some x100∧((eqN x98 x100.cond.value)=true→∃ j103:Nat,v70=Int.ofNat j103∧∃ x102,v10[j103]?=some x102∧∃ x104,v67[x102.thn.net]?=some x104∧∃ j106:Nat,v70=Int.ofNat j106∧∃ x105,v10[j106]?=some x105∧k94 (neN x104 x105.thn.value))∧((eqN x98 x100.cond.value)=false→k94 false)) (fun v91=>(v91=true→∃ j108:Nat,v70=Int.ofNat j108∧∃ x107,v10[j108]?=some x107∧(v65.length+([x107.thn]:(List Asg)).length)*16≤2 ^ 47∧implies_Close_wp r4 (v65++([x107.thn]:(List Asg))) (fun r114=>k88 ((v65++([x107.thn]:(List Asg))),r114.1,r114.2.1,true)))∧(v91=false→k88 (v65,v67,v68,v69)))) (fun (v81,v83,v84,v85) => -(2 ^ 63)≤(v70-(Int.ofNat 1))∧(v70-(Int.ofNat 1))<2 ^ 63∧nx73 (v81,v83,v84,v85,(v70-(Int.ofNat 1)))))∧(v74=false→nx57 (v65,v67,v68,v69)))) (v50,v52,v53,false,((Int.ofNat v10.length)-(Int.ofNat 1))))∧(v58=false→k46 (v52,v53)))) ((([]:List Asg)++r7),r35.1,r35.2.1,true)) (fun (v42,v43)=>learns_Close_wp r4 ([]:(List Lawv)) r7 (fun r119=>implies_Close_wp r4 r7 (fun r120=>0<2∧v10.length<2 ^ 63∧(v10.length/2)≤v10.length∧learns_Close_wp r4 (v10.drop (v10.length/2)) r7 (fun r126=>((eqN r28.2.2 0)=true→((eqN r119.2.2 0)=true→((eqN r126.2.2 0)=true→probecardlaw25_equal_wp r28.1 r28.2.1 v42 v43 (fun r127=>(r127=true→probecardlaw25_equal_wp r119.1 r119.2.1 r120.1 r120.2.1 (fun r128=>(r128=true→probecardlaw25_least_wp r28.1 r28.2.1 r119.1 r119.2.1 (fun r129=>(r129=true→probecardlaw25_least_wp r28.1 r28.2.1 r126.1 r126.2.1 (fun r130=>(r130=true→law25_lives_wp  (fun r131=>K r131))∧(r130=false→K false)))∧(r129=false→K false)))∧(r128=false→K false)))∧(r127=false→K false)))∧((eqN r126.2.2 0)=false→K false))∧((eqN r119.2.2 0)=false→K false))∧((eqN r28.2.2 0)=false→K false))))))))))))
theorem probecardlaw25_LearnsCloses_walk {p0:CData}{p1:(List U2)}{p2:(List U4)}{K:Bool→Prop} (hm:probecardlaw25_LearnsCloses_wp p0 p1 p2 K) {h0:Heap} (hB:HasB vars h0):∃ r,K r∧CallD Tryz.prog NG 6 ⟨[encC p0,(encL 2 encU2) p1,(encL 4 encU4) p2]⟩ h0 (Value.bool r) h0:=by
 unfold probecardlaw25_LearnsCloses_wp at hm
 refine fw Tryz.func6 hB (enc:=Value.bool) (fun r=>PureV.flat rfl) fun O=>?_;conv=>whnf
 refine gX ?_
 refine fz ?_;refine gH ?_
 apply Cs;conv=>whnf
 refine jn hm 237 [1,2,3] (fun s=>s) (fun v1 h=>Own vars h0 [] h) (fun v1=>[(37,(.bool v1))]) (fun hm=>?_) ?_
 ·refine gX ?_
  refine br hm (fun hm=>?_) fun hm=>?_
  ·refine gX ?_
   exact jx true hm O
  ·refine gX ?_
   exact jx (ltN 8 p2.length) hm O
 ·clear hm;rintro v1 base h hm O
  refine gX ?_
  refine br hm (fun hm=>?_) fun hm=>?_
  ·refine gX ?_
   refine ca (law25_lives_walk hm O.has) fun r3 hm=>?_;refine gX ?_
   exact fe hm O
  ·refine gX ?_
   refine ca (law24_Plain_walk hm O.has) fun r4 hm=>?_;refine gH ?_
   refine O.new (anew_alloc (l:=[(.slice none 0 0),(.slice none 0 0),(.slice none 0 0),(.slice none 0 0)]) rfl rfl rfl) fun g5 h O=>?_;refine gH ?_
   refine O.stC 4 (.head _) [((encL 4 encNode) r4.nodes),((encL 1 Value.string) r4.names),((encL 3 encMem) r4.mems),((encL 1 i64) r4.outs)] fun h O=>?_;refine gX ?_
   refine ca (probecardlaw24_Given_walkN hm O.has) fun r7 hm=>?_;refine gH ?_
   apply Cs;conv=>whnf
   apply Cs;refine gH ?_
   have O:=O.addNil (.cells (flatC ((([]:List Lawv)).map encLaw)) false)
   refine jn (σ:=(List Lawv)×Option Nat) hm 237 [7,8] (fun s=>s.1) (fun (v10,a9) h=>(a9=none→v10=[])∧Own vars h0 [((some g5),.cells [((encL 4 encNode) r4.nodes),((encL 1 Value.string) r4.names),((encL 3 encMem) r4.mems),((encL 1 i64) r4.outs)] false),(a9,.cells (flatC (v10.map encLaw)) false)] h) (fun (v10,a9)=>[(9,(growV 4 a9 (v10.map encLaw)))]) (fun hm=>?_) ?_
   ·refine gX ?_
    refine lw 237 [2,7,8] (σ:=((List Lawv)×Nat)×Option Nat) (fun s=>s.1) (fun ((v14,v15),a13) h=>(a13=none→v14=[])∧Own vars h0 [((some g5),.cells [((encL 4 encNode) r4.nodes),((encL 1 Value.string) r4.names),((encL 3 encMem) r4.mems),((encL 1 i64) r4.outs)] false),(a13,.cells (flatC (v14.map encLaw)) false)] h) (fun ((v14,v15),a13)=>[(9,(growV 4 a13 (v14.map encLaw))),(10,(i64 v15))]) ((([]:List Lawv),0),none) hm ⟨(fun _=>rfl),(O.sel [1,0] (by decide))⟩ ?_
    clear hm;rintro⟨⟨v14,v15⟩,a13⟩ nx17 base h hm ⟨ha16,O⟩
    refine gX ?_
    refine br hm (fun hm=>?_) fun hm=>?_
    ·refine gX ?_
     refine atF hm fun x18 hx18 hm=>?_;refine gH ?_
     refine idxR rfl ?_;refine gH ?_
     refine aCv hm wI8 fun hm=>?_;refine gH ?_
     refine aRem hm fun hm=>?_;refine gH ?_
     refine atF hm fun x19 hx19 hm=>?_;refine gH ?_
     refine idxR rfl ?_;refine gH ?_
     refine aRem hm fun hm=>?_;refine gH ?_
     refine ca (probecardlaw25_at_walk hm O.has) fun r20 hm=>?_;refine gH ?_
     refine⟨.inl (Ext.refl _),?_⟩;refine gH ?_
     refine atF hm fun x21 hx21 hm=>?_;refine gH ?_
     refine idxR rfl ?_;refine gH ?_
     refine aCv hm wI8 fun hm=>?_;refine gH ?_
     refine aRem hm fun hm=>?_;refine gH ?_
     refine atF hm fun x22 hx22 hm=>?_;refine gH ?_
     refine idxR rfl ?_;refine gH ?_
     refine aRem hm fun hm=>?_;refine gH ?_
     refine ca (probecardlaw25_at_walk hm O.has) fun r23 hm=>?_;refine gH ?_
     refine⟨.inl (Ext.refl _),?_⟩;refine gH ?_
     refine O.buildLX (l:=([(⟨r20,r23⟩:Lawv)]:(List Lawv))) (enc:=encLaw) (s:=4) (z:=(.agg ⟨[(i64 0),(n8 0),(i64 0),(n8 0)]⟩)) rfl rfl (by kernel_rfl) (by kernel_rfl) rfl rfl rfl rfl (fun _=>rfl) fun g24 h O=>?_;refine gH ?_
     refine O.appendL (enc:=encLaw) (l:=v14) (new:=([(⟨r20,r23⟩:Lawv)]:(List Lawv))) (s:=4) (b:=32) (.tail _ (.tail _ (.head _))) ha16 rfl rfl rfl rfl rfl rfl rfl rfl (YOk.own (O.at (.head _)) rfl (fun _=>rfl) rfl) (fun _=>rfl) (fun _=>rfl) (by decide) hm.1 fun a26 h ha27 O=>?_;refine gH ?_
     replace hm:=hm.2
     refine gX ?_
     refine aAdd hm fun hm=>?_;refine gH ?_
     exact jx (((v14++([(⟨r20,r23⟩:Lawv)]:(List Lawv))),(v15+1)),a26) hm ⟨ha27,(O.sel [1,2] (by decide))⟩
    ·refine gX ?_
     exact jx (v14,a13) hm ⟨ha16,O⟩
   ·clear hm;rintro⟨v10,a9⟩ base h hm ⟨ha11,O⟩
    refine gX ?_
    refine ldA (O.at (.head _)) ?_;refine gH ?_
    refine O.useG (fun _ hb=>learns_Close_walk hm hb) (.tail _ (.head _)) ha11 (fun _=>rfl) (i:=1) rfl (by kernel_rfl) (fun h2 q=>(LLe.cons (VLe.refl _ _) (LLe.cons (q) (LLe.cons (VLe.refl _ _) (LLe.nil _))))) (fun r28 h hm' O=>?_);replace hm:=hm';refine gX ?_
    refine O.buildE rfl rfl rfl fun g29 h O=>?_;refine gH ?_
    refine O.appendS (enc:=encAsg) (l:=([]:List Asg)) (new:=r7) (s:=2) (b:=16) (.head _) rfl rfl rfl rfl rfl rfl rfl rfl rfl (YOk.fn rfl) (fun _=>rfl) (fun _=>rfl) (by decide) hm.1 fun g33 a34 h O=>?_;refine gX ?_
    replace hm:=hm.2
    refine ldA (O.at (.tail _ (.head _))) ?_;refine gH ?_
    refine CallD.useBO (fun _ hb=>implies_Close_walkO hm hb) (ValOk.tup (ValOk.clip (fun (r:((List Nat)×Bool×Nat))=>r.1)) (fun r=>[Value.bool (r.2.1),i64 (r.2.2)]) (fun _=>rfl)) (fun _=>rfl) fzVars O (fun h2 F=>(LLe.cons (VLe.refl _ _) (LLe.cons (O.flatL F (Nat.zero_le _) (.head _) (fun _=>rfl) ((rfl:_=((([]:List Asg)++r7).map encAsg).length).trans (List.length_map ..))) (LLe.nil _)))) (by kernel_rfl) fun r35 a36 h hx ha38 hn39 O hm=>?_;refine gH ?_
    refine jn (σ:=((List Nat)×Bool)×(Option Nat×Option Nat)) hm 237 [7,8,12,13,14] (fun s=>s.1) (fun ((v42,v43),(a40,a41)) h=>(a40=none→v10=[])∧(a41=none→v42=[])∧Own vars h0 [((some g5),.cells [((encL 4 encNode) r4.nodes),((encL 1 Value.string) r4.names),((encL 3 encMem) r4.mems),((encL 1 i64) r4.outs)] false),(a40,.cells (flatC (v10.map encLaw)) true),(a41,.cells (flatC (v42.map n8)) false)] h) (fun ((v42,v43),(a40,a41))=>[(9,(growV 4 a40 (v10.map encLaw))),(16,(clipV a41 (v42.map n8))),(17,(.bool v43))]) (fun hm=>?_) ?_
    ·refine gX ?_
     refine lw 237 [7,8,12,13,14] (σ:=((List Asg)×(List Nat)×Bool×Bool)×(Option Nat×Nat×Bool×Option Nat)) (fun s=>s.1) (fun ((v50,v52,v53,v54),(a47,a48,a49,a51)) h=>(a47=none→v10=[])∧(a51=none→v52=[])∧Own vars h0 [((some g5),.cells [((encL 4 encNode) r4.nodes),((encL 1 Value.string) r4.names),((encL 3 encMem) r4.mems),((encL 1 i64) r4.outs)] false),(a47,.cells (flatC (v10.map encLaw)) true),((some a48),.cells (flatC (v50.map encAsg)) false),(a51,.cells (flatC (v52.map n8)) false)] h) (fun ((v50,v52,v53,v54),(a47,a48,a49,a51))=>[(9,(growV 4 a47 (v10.map encLaw))),(15,(growS 2 a49 a48 ((v50.map encAsg).length))),(16,(clipV a51 (v52.map n8))),(17,(.bool v53)),(19,(.bool v54))]) (((([]:List Asg)++r7),r35.1,r35.2.1,true),(a9,g33,a34,a36)) hm ⟨ha11,ha38,(O.sel [2,3,1,0] (by decide))⟩ ?_
     clear hm;rintro⟨⟨v50,v52,v53,v54⟩,⟨a47,a48,a49,a51⟩⟩ nx57 base h hm ⟨ha55,ha56,O⟩
     conv=>whnf
     apply Cs;conv=>whnf
     refine jn hm 237 [7,8,9,12,13,14,15,16,17] (fun s=>s) (fun v58 h=>(a47=none→v10=[])∧(a51=none→v52=[])∧Own vars h0 [((some g5),.cells [((encL 4 encNode) r4.nodes),((encL 1 Value.string) r4.names),((encL 3 encMem) r4.mems),((encL 1 i64) r4.outs)] false),(a47,.cells (flatC (v10.map encLaw)) true),((some a48),.cells (flatC (v50.map encAsg)) false),(a51,.cells (flatC (v52.map n8)) false)] h) (fun v58=>[(110,(.bool v58))]) (fun hm=>?_) ?_
     ·refine gX ?_
      refine br hm (fun hm=>?_) fun hm=>?_
      ·refine gX ?_
       exact jx v53 hm ⟨ha55,ha56,O⟩
      ·refine gX ?_
       exact jx false hm ⟨ha55,ha56,O⟩
     ·clear hm;rintro v58 base h hm ⟨ha59,ha60,O⟩
      refine gX ?_
      refine br hm (fun hm=>?_) fun hm=>?_
      ·refine gX ?_
       refine⟨_,subZK (a:=(Int.ofNat v10.length)) (b:=(Int.ofNat 1)) rfl rfl hm.1 hm.2.1,?_⟩;refine gX ?_
       replace hm:=hm.2.2
       refine lw 237 [7,8,12,13,14] (σ:=((List Asg)×(List Nat)×Bool×Bool×Int)×(Option Nat×Nat×Bool×Option Nat)) (fun s=>s.1) (fun ((v65,v67,v68,v69,v70),(a62,a63,a64,a66)) h=>(a62=none→v10=[])∧(a66=none→v67=[])∧Own vars h0 [((some g5),.cells [((encL 4 encNode) r4.nodes),((encL 1 Value.string) r4.names),((encL 3 encMem) r4.mems),((encL 1 i64) r4.outs)] false),(a62,.cells (flatC (v10.map encLaw)) true),((some a63),.cells (flatC (v65.map encAsg)) false),(a66,.cells (flatC (v67.map n8)) false)] h) (fun ((v65,v67,v68,v69,v70),(a62,a63,a64,a66))=>[(9,(growV 4 a62 (v10.map encLaw))),(15,(growS 2 a64 a63 ((v65.map encAsg).length))),(16,(clipV a66 (v67.map n8))),(17,(.bool v68)),(19,(.bool v69)),(20,(z64 v70))]) ((v50,v52,v53,false,((Int.ofNat v10.length)-(Int.ofNat 1))),(a47,a48,a49,a51)) hm ⟨ha59,ha60,O⟩ ?_
       clear hm;rintro⟨⟨v65,v67,v68,v69,v70⟩,⟨a62,a63,a64,a66⟩⟩ nx73 base h hm ⟨ha71,ha72,O⟩
       conv=>whnf
       apply Cs;conv=>whnf
       refine jn hm 237 [7,8,9,12,13,14,15,16,17,19,20] (fun s=>s) (fun v74 h=>(a62=none→v10=[])∧(a66=none→v67=[])∧Own vars h0 [((some g5),.cells [((encL 4 encNode) r4.nodes),((encL 1 Value.string) r4.names),((encL 3 encMem) r4.mems),((encL 1 i64) r4.outs)] false),(a62,.cells (flatC (v10.map encLaw)) true),((some a63),.cells (flatC (v65.map encAsg)) false),(a66,.cells (flatC (v67.map n8)) false)] h) (fun v74=>[(118,(.bool v74))]) (fun hm=>?_) ?_
       ·refine gX ?_
        refine br hm (fun hm=>?_) fun hm=>?_
        ·refine gX ?_
         exact jx v68 hm ⟨ha71,ha72,O⟩
        ·refine gX ?_
         exact jx false hm ⟨ha71,ha72,O⟩
       ·clear hm;rintro v74 base h hm ⟨ha75,ha76,O⟩
        refine gX ?_
        refine br hm (fun hm=>?_) fun hm=>?_
        ·apply Cs;conv=>whnf
         refine jn (σ:=((List Asg)×(List Nat)×Bool×Bool)×(Option Nat×Nat×Bool×Option Nat)) hm 237 [7,8,12,13,14,20] (fun s=>s.1) (fun ((v81,v83,v84,v85),(a78,a79,a80,a82)) h=>(a78=none→v10=[])∧(a82=none→v83=[])∧Own vars h0 [((some g5),.cells [((encL 4 encNode) r4.nodes),((encL 1 Value.string) r4.names),((encL 3 encMem) r4.mems),((encL 1 i64) r4.outs)] false),(a78,.cells (flatC (v10.map encLaw)) true),((some a79),.cells (flatC (v81.map encAsg)) false),(a82,.cells (flatC (v83.map n8)) false)] h) (fun ((v81,v83,v84,v85),(a78,a79,a80,a82))=>[(9,(growV 4 a78 (v10.map encLaw))),(15,(growS 2 a80 a79 ((v81.map encAsg).length))),(16,(clipV a82 (v83.map n8))),(17,(.bool v84)),(19,(.bool v85))]) (fun hm=>?_) ?_
         ·apply Cs;conv=>whnf
          refine jn (σ:=Bool×(Option Nat×Option Nat)) hm 237 [7,8,12,13,14,15,17,19,20] (fun s=>s.1) (fun (v91,(a89,a90)) h=>(a89=none→v10=[])∧(a90=none→v67=[])∧Own vars h0 [((some g5),.cells [((encL 4 encNode) r4.nodes),((encL 1 Value.string) r4.names),((encL 3 encMem) r4.mems),((encL 1 i64) r4.outs)] false),(a89,.cells (flatC (v10.map encLaw)) true),((some a63),.cells (flatC (v65.map encAsg)) false),(a90,.cells (flatC (v67.map n8)) false)] h) (fun (v91,(a89,a90))=>[(9,(growV 4 a89 (v10.map encLaw))),(16,(clipV a90 (v67.map n8))),(154,(.bool v91))]) (fun hm=>?_) ?_
          ·refine gX ?_
           obtain⟨j96,hz,x95,hx95,hm⟩:=hm
           have h9:=hm
           obtain⟨g97,rfl⟩:=addr_some ha75 hx95
           replace hm:=h9
           refine indexK (s:=4) (j:=j96) rfl rfl rfl (congrArg (Value.int .i64) hz) (by rw[List.length_map];exact lt_of_get hx95) ?_;refine gH ?_
           refine⟨_,loadK rfl (O.at (.tail _ (.head _))) rfl (cell_map (enc:=encLaw) (s:=4) (k:=0) (fun _=>rfl) hx95 rfl),?_⟩;refine gH ?_
           obtain⟨x98,hx98,hm⟩:=hm
           have h9:=hm
           obtain⟨g99,rfl⟩:=addr_some ha76 hx98
           replace hm:=h9
           refine indexK (s:=1) (j:=x95.cond.net) rfl rfl rfl rfl (by rw[List.length_map];exact lt_of_get hx98) ?_;refine gH ?_
           refine⟨_,loadK rfl (O.at (.tail _ (.tail _ (.tail _ (.head _))))) rfl (cell_map (enc:=n8) (s:=1) (k:=0) (fun _=>rfl) hx98 rfl),?_⟩;refine gH ?_
           obtain⟨j101,hz,x100,hx100,hm⟩:=hm
           refine indexK (s:=4) (j:=j101) rfl rfl rfl (congrArg (Value.int .i64) hz) (by rw[List.length_map];exact lt_of_get hx100) ?_;refine gH ?_
           refine⟨_,loadK rfl (O.at (.tail _ (.head _))) rfl (cell_map (enc:=encLaw) (s:=4) (k:=1) (fun _=>rfl) hx100 rfl),?_⟩;refine gH ?_
           refine br hm (fun hm=>?_) fun hm=>?_
           ·refine gX ?_
            obtain⟨j103,hz,x102,hx102,hm⟩:=hm
            refine indexK (s:=4) (j:=j103) rfl rfl rfl (congrArg (Value.int .i64) hz) (by rw[List.length_map];exact lt_of_get hx102) ?_;refine gH ?_
            refine⟨_,loadK rfl (O.at (.tail _ (.head _))) rfl (cell_map (enc:=encLaw) (s:=4) (k:=2) (fun _=>rfl) hx102 rfl),?_⟩;refine gH ?_
            obtain⟨x104,hx104,hm⟩:=hm
            refine indexK (s:=1) (j:=x102.thn.net) rfl rfl rfl rfl (by rw[List.length_map];exact lt_of_get hx104) ?_;refine gH ?_
            refine⟨_,loadK rfl (O.at (.tail _ (.tail _ (.tail _ (.head _))))) rfl (cell_map (enc:=n8) (s:=1) (k:=0) (fun _=>rfl) hx104 rfl),?_⟩;refine gH ?_
            obtain⟨j106,hz,x105,hx105,hm⟩:=hm
            refine indexK (s:=4) (j:=j106) rfl rfl rfl (congrArg (Value.int .i64) hz) (by rw[List.length_map];exact lt_of_get hx105) ?_;refine gH ?_
            refine⟨_,loadK rfl (O.at (.tail _ (.head _))) rfl (cell_map (enc:=encLaw) (s:=4) (k:=3) (fun _=>rfl) hx105 rfl),?_⟩;refine gH ?_
            exact jx ((neN x104 x105.thn.value),((some g97),(some g99))) hm ⟨someNone,someNone,O⟩
           ·refine gX ?_
            exact jx (false,((some g97),(some g99))) hm ⟨someNone,someNone,O⟩
          ·clear hm;rintro⟨v91,⟨a89,a90⟩⟩ base h hm ⟨ha92,ha93,O⟩
           refine gX ?_
           refine br hm (fun hm=>?_) fun hm=>?_
           ·refine gX ?_
            obtain⟨j108,hz,x107,hx107,hm⟩:=hm
            have h9:=hm
            obtain⟨g109,rfl⟩:=addr_some ha92 hx107
            replace hm:=h9
            refine indexK (s:=4) (j:=j108) rfl rfl rfl (congrArg (Value.int .i64) hz) (by rw[List.length_map];exact lt_of_get hx107) ?_;refine gH ?_
            refine ldP (s:=4) (i:=2) (n:=2) (O.at (.tail _ (.head _))) hx107 ?_;refine gH ?_
            refine fz ?_;refine gH ?_
            refine O.apS (enc:=encAsg) (l:=v65) (new:=([x107.thn]:(List Asg))) 2 (.tail _ (.tail _ (.head _))) rfl hm fun g112 a113 h O hm=>?_;refine gX ?_
            refine ldA (O.at (.head _)) ?_;refine gH ?_
            refine CallD.useBO (fun _ hb=>implies_Close_walkO hm hb) (ValOk.tup (ValOk.clip (fun (r:((List Nat)×Bool×Nat))=>r.1)) (fun r=>[Value.bool (r.2.1),i64 (r.2.2)]) (fun _=>rfl)) (fun _=>rfl) fzVars O (fun h2 F=>(LLe.cons (VLe.refl _ _) (LLe.cons (O.flatL F (Nat.zero_le _) (.tail _ (.tail _ (.head _))) (fun _=>rfl) ((rfl:_=((v65++([x107.thn]:(List Asg))).map encAsg).length).trans (List.length_map ..))) (LLe.nil _)))) (by kernel_rfl) fun r114 a115 h hx ha117 hn118 O hm=>?_;refine gX ?_
            exact jx (((v65++([x107.thn]:(List Asg))),r114.1,r114.2.1,true),((some g109),g112,a113,a115)) hm ⟨someNone,ha117,(O.sel [1,2,3,0] (by decide))⟩
           ·refine gX ?_
            exact jx ((v65,v67,v68,v69),(a89,a63,a64,a90)) hm ⟨ha92,ha93,O⟩
         ·clear hm;rintro⟨⟨v81,v83,v84,v85⟩,⟨a78,a79,a80,a82⟩⟩ base h hm ⟨ha86,ha87,O⟩
          refine gX ?_
          refine⟨_,subZK (a:=v70) (b:=(Int.ofNat 1)) rfl rfl hm.1 hm.2.1,?_⟩;refine gH ?_
          replace hm:=hm.2.2
          exact jx ((v81,v83,v84,v85,(v70-(Int.ofNat 1))),(a78,a79,a80,a82)) hm ⟨ha86,ha87,O⟩
        ·refine gX ?_
         exact jx ((v65,v67,v68,v69),(a62,a63,a64,a66)) hm ⟨ha75,ha76,O⟩
      ·refine gX ?_
       exact jx ((v52,v53),(a47,a51)) hm ⟨ha59,ha60,(O.sel [0,1,3] (by decide))⟩
    ·clear hm;rintro⟨⟨v42,v43⟩,⟨a40,a41⟩⟩ base h hm ⟨ha44,ha45,O⟩
     refine gX ?_
     refine ldA (O.at (.head _)) ?_;refine gH ?_
     refine caW (learns_Close_walk hm O.has) (LLe.cons (VLe.refl _ _) (LLe.cons (VLe.nil _ _) (LLe.cons (VLe.refl _ _) (LLe.nil _)))) fun r119 hm=>?_;refine gX ?_
     refine ldA (O.at (.head _)) ?_;refine gH ?_
     refine caOW (implies_Close_walkO hm O.has) (LLe.cons (VLe.refl _ _) (LLe.cons (VLe.ofN) (LLe.nil _))) O fun r120 a121 h hx ha123 hn124 O hm=>?_;refine gX ?_
     refine ldA (O.at (.tail _ (.head _))) ?_;refine gH ?_
     first|refine⟨.inr (.inr (loadAggK rfl (O.at (.tail _ (.head _))) rfl rfl (lbE rfl) rfl)),?_⟩|refine⟨.inr (.inl (by kernel_rfl)),?_⟩
     refine gX ?_
     refine aQuo hm fun hm=>?_;refine gH ?_
     have hk125:=hm.1
     refine tailFromK (s:=4) (enc:=encLaw) (l:=v10) (o:=0) (k:=(v10.length/2)) rfl rfl rfl rfl hm.1 ?_;refine gH ?_
     replace hm:=hm.2
     refine caW (learns_Close_walk hm O.has) (LLe.cons (VLe.refl _ _) (LLe.cons (O.tailRo (.tail _ (.tail _ (.head _))) ha44 (fun _=>rfl) hk125) (LLe.cons (VLe.refl _ _) (LLe.nil _)))) fun r126 hm=>?_;refine gH ?_
     refine⟨.inl (Ext.refl _),?_⟩;refine gH ?_
     refine gX ?_
     refine br hm (fun hm=>?_) fun hm=>?_
     ·refine gX ?_
      refine br hm (fun hm=>?_) fun hm=>?_
      ·refine gX ?_
       refine br hm (fun hm=>?_) fun hm=>?_
       ·refine gX ?_
        refine CallD.useB (fun _ hb=>probecardlaw25_equal_walk hm hb) (fun _=>flatB_ok rfl) fzVars O.has (fun h2 F=>(LLe.cons (VLe.refl _ _) (LLe.cons (VLe.refl _ _) (LLe.cons (O.clipL F (Nat.zero_le _) (.tail _ (.tail _ (.tail _ (.head _)))) ha45 (fun _=>rfl)) (LLe.cons (VLe.refl _ _) (LLe.nil _)))))) (by kernel_rfl) (fun r127 hm'=>?_);replace hm:=hm';refine gH ?_
        refine br hm (fun hm=>?_) fun hm=>?_
        ·refine gX ?_
         refine CallD.useB (fun _ hb=>probecardlaw25_equal_walk hm hb) (fun _=>flatB_ok rfl) fzVars O.has (fun h2 F=>(LLe.cons (VLe.refl _ _) (LLe.cons (VLe.refl _ _) (LLe.cons (O.clipL F (Nat.zero_le _) (.head _) ha123 (fun _=>rfl)) (LLe.cons (VLe.refl _ _) (LLe.nil _)))))) (by kernel_rfl) (fun r128 hm'=>?_);replace hm:=hm';refine gH ?_
         refine br hm (fun hm=>?_) fun hm=>?_
         ·refine gX ?_
          refine ca (probecardlaw25_least_walk hm O.has) fun r129 hm=>?_;refine gH ?_
          refine br hm (fun hm=>?_) fun hm=>?_
          ·refine gX ?_
           refine ca (probecardlaw25_least_walk hm O.has) fun r130 hm=>?_;refine gH ?_
           refine br hm (fun hm=>?_) fun hm=>?_
           ·refine gX ?_
            refine ca (law25_lives_walk hm O.has) fun r131 hm=>?_;refine gX ?_
            exact fe hm O
           ·refine gX ?_
            exact fe hm O
          ·refine gX ?_
           refine bf ?_;refine gX ?_
           exact fe hm O
         ·refine gX ?_
          refine bf ?_;refine gH ?_
          refine bf ?_;refine gX ?_
          exact fe hm O
        ·refine gX ?_
         refine bf ?_;refine gH ?_
         refine bf ?_;refine gH ?_
         refine bf ?_;refine gX ?_
         exact fe hm O
       ·refine gX ?_
        refine bf ?_;refine gH ?_
        refine bf ?_;refine gH ?_
        refine bf ?_;refine gH ?_
        refine bf ?_;refine gX ?_
        exact fe hm O
      ·refine gX ?_
       refine bf ?_;refine gH ?_
       refine bf ?_;refine gH ?_
       refine bf ?_;refine gH ?_
       refine bf ?_;refine gH ?_
       refine bf ?_;refine gX ?_
       exact fe hm O
     ·refine gX ?_
      refine bf ?_;refine gH ?_
      refine bf ?_;refine gH ?_
      refine bf ?_;refine gH ?_
      refine bf ?_;refine gH ?_
      refine bf ?_;refine gH ?_
      refine bf ?_;refine gX ?_
      exact fe hm O
theorem lawD {c:Circ} (C:CC c) {laws:List Lawv} (L:LawsOk c laws) {given:List Asg} (g:GivOk c given) (gl:given.length<2 ^ 40):(∃ v,Lst (lawP c laws) given v)∨∀ t,lawP c laws t→¬ Ext given t:=by
 obtain⟨r,h,_⟩:=learns_Close_walk (lClose_vc' C L g gl (K:=fun _=>(∃ v,Lst (lawP c laws) given v)∨∀ t,lawP c laws t→¬ Ext given t) (fun v V=>.inl ⟨v,V⟩) (fun N=>.inr N)) (h0:=heapOf vars) (fun i o e=>by rw[heapOf_get];exact e)
 exact h
theorem cc_circ (x:CData):CC (circN (plainC x)):=⟨pln_circ x,circ_few3 rfl⟩
theorem giv_given {c:Circ} (C:CC c) {l:List U2} (hl:l.length≤6):GivOk c (givenN c.nodes.length l)∧(givenN c.nodes.length l).length≤6:=by
 have hlen:(givenN c.nodes.length l).length≤6:=by unfold givenN;rw[List.length_map];exact hl
 exact⟨⟨given_ok C.p.good.pos,by omega⟩,hlen⟩
theorem cloR_err (o:Option (List Nat)):(cloR o).2.2=0:=by cases o <;> rfl
theorem plain24_vc {x:CData} (hx:CB x) {K:Circ→Prop} (h:K (circN (plainC x))):law24_Plain_wp x K:=by
 unfold law24_Plain_wp
 exact of_circ_vc (x:=plainC x) (plainC_ok hx) h
def satRes (o:Option (List Nat)):List Nat×Bool:=((cloR o).1,(cloR o).2.1)
theorem cloR_len {o:Option (List Nat)}{n:Nat} (hn:n<2 ^ 60) (h:∀ v,o=some v→v.length=n):(cloR o).1.length<2 ^ 60:=by
 cases o with
 |none=>exact Nat.two_pow_pos _
 |some v=>have:=h v rfl;show v.length<_;omega
theorem lawO_nil {c:Circ} (C:CC c) {given:List Asg} (g:GivOk c given):lawO c [] given=clo c given:=by
 have:lawP c []=satP c 0:=funext fun t=>propext ⟨fun h=>h.1,fun h=>⟨h,fun _ m=>by cases m⟩⟩
 show lstO (lawP c []) given=_
 rw[this]
 exact sat0 C g
theorem lawO_some {c:Circ}{laws:List Lawv}{given:List Asg}{v:List Nat} (V:Lst (lawP c laws) given v):lawO c laws given=some v:=lstO_ok lawP_len V
theorem lawO_no {c:Circ}{laws:List Lawv}{given:List Asg} (N:∀ t,lawP c laws t→¬ Ext given t):lawO c laws given=none:=lstO_none N
theorem lawO_len {c:Circ}{laws:List Lawv}{g:List Asg}:∀ v,lawO c laws g=some v→v.length=c.nodes.length:=fun v e=>lawP_len v (lstO_some e).mem
theorem cloM_le {c:Circ}{all:List Asg}:cloM c all≤17:=by
 unfold cloM
 split
 ·omega
 ·omega
def LawAt (v:List Nat) (l:Lawv):Prop:=v.getD l.cond.net 0=l.cond.value→v.getD l.thn.net 0=l.thn.value
structure LI (c:Circ) (laws:List Lawv) (given all:List Asg):Prop where
 ok:∀ a∈all,a.net<c.nodes.length∧a.value≤1
 up:∀ t,lawP c laws t→Ext given t→Ext all t
 dn:∀ t,CW c [] t→Ext all t→Ext given t
 len:all.length+cloM c all≤30
theorem LI.giv {c:Circ}{laws:List Lawv}{given all:List Asg} (I:LI c laws given all):GivOk c all:=⟨I.ok,by have:=I.len;omega⟩
theorem LI.end {c:Circ}{laws:List Lawv}{given all:List Asg} (I:LI c laws given all) (C:CC c) (_g:GivOk c given) (h:∀ v,clo c all=some v→∀ l∈laws,LawAt v l):satRes (clo c all)=satRes (lawO c laws given):=by
 rcases clo_cases C.p C.f3 I.giv with⟨v,D,e⟩|⟨N,e⟩
 ·rw[e,lawO_some (v:=v) ⟨⟨(cw_split.1 D.cw).1,h v e⟩,I.dn v (cw_split.1 D.cw).1 D.giv,fun t T E=>by rw[D.len];exact⟨D.len,D.snd t (cw_split.2 ⟨T.1,I.up t T E⟩)⟩⟩]
 ·rw[e,lawO_no fun t T E=>N t (cw_split.2 ⟨T.1,I.up t T E⟩)]
theorem LI.step {c:Circ}{laws:List Lawv}{given all:List Asg} (I:LI c laws given all) (C:CC c) (L:LawsOk c laws) {w:List Nat} (e:clo c all=some w) {x:Lawv} (hx:x∈laws) (h1:w.getD x.cond.net 0=x.cond.value) (h2:w.getD x.thn.net 0≠x.thn.value):LI c laws given (all++[x.thn])∧cloM c (all++[x.thn])<cloM c all:=by
 obtain⟨⟨x1,x2⟩,x3,x4⟩:=L.ok x hx
 have D:=clo_some e
 have hk:=known_len w
 have hc:=C.p.good.len
 have hwl:=D.len
 have ok':∀ a∈all++[x.thn],a.net<c.nodes.length∧a.value≤1:=fun a m=>by
  rcases List.mem_append.1 m with m|m
  ·exact I.ok a m
  ·rw[List.mem_singleton.1 m];exact⟨x3,x4⟩
 have lt:cloM c (all++[x.thn])<cloM c all:=by
  have l30:=I.len
  have g':GivOk c (all++[x.thn]):=⟨ok',by rw[List.length_append,List.length_singleton];omega⟩
  unfold cloM
  rw[e]
  rcases clo_cases C.p C.f3 g' with⟨w',D',e'⟩|⟨_,e'⟩
  ·rw[e']
   have E':=ext_snoc.1 D'.giv
   have hww:LeN c.nodes.length w w':=⟨hwl,D.snd w' (cw_split.2 ⟨(cw_split.1 D'.cw).1,E'.1⟩)⟩
   have kg:=known_grow hww D'.len
   have:¬ (knownA w').length≤(knownA w).length:=fun h=>by
    have:=kg.2 h
    subst this
    exact h2 E'.2
   have:=known_len w'
   have:=D'.len
   dsimp only
   omega
  ·rw[e']
   dsimp only
   omega
 refine⟨⟨ok',fun t T E=>ext_snoc.2 ⟨I.up t T E,T.2 x hx ?_⟩,fun t T E=>I.dn t T (ext_snoc.1 E).1,?_⟩,lt⟩
 ·rcases D.snd t (cw_split.2 ⟨T.1,I.up t T E⟩) x.cond.net with h|h
  ·omega
  ·rw[← h];exact h1
 ·have:=I.len
  rw[List.length_append,List.length_singleton]
  omega
theorem learnsCloses_vc {x:CData} (hx:CB x) {l:List U2} (hl:∀ u∈l,u.a<256) {m:List U4} (hm:∀ u∈m,u.a<256∧u.c<256):probecardlaw25_LearnsCloses_wp x l m (· = true):=by
 unfold probecardlaw25_LearnsCloses_wp
 refine joinI ⟨fun _=>⟨fun _=>rfl,(fun e=>by cases e)⟩,fun q=>⟨fun _=>rfl,fun q2=>?_⟩⟩
 have q:=lt_f.1 q
 have q2:=lt_f.1 q2
 refine plain24_vc hx ?_
 have C:=cc_circ x
 generalize circN (plainC x)=c at C ⊢
 have hc:=C.p.good.len
 have hpos:=C.p.good.pos
 refine given_vc hpos hl (by omega) ?_
 obtain⟨g,gl⟩:=giv_given C (l:=l) (by omega)
 have gl4:(givenN c.nodes.length l).length≤4:=by unfold givenN;rw[List.length_map];exact q
 generalize givenN c.nodes.length l=given at g gl gl4 ⊢
 refine joinLoop (fun s=>s.2≤m.length∧s.1.length=s.2∧∀ l∈s.1,(l.cond.net<c.nodes.length∧l.cond.value≤1)∧l.thn.net<c.nodes.length∧l.thn.value≤1) (fun s=>m.length-s.2) (fun a=>LawsOk c a∧a.length≤8) ?_ ⟨Nat.zero_le _,rfl,fun _ m=>by cases m⟩ ?_
 ·rintro kk ⟨o,i⟩ nx ⟨hi,hlo,hok⟩ hnx hk
  dsimp only at hi hlo hok
  refine⟨fun e=>?_,fun _=>hk o ⟨⟨hok,by omega⟩,by omega⟩⟩
  have e:i<m.length:=lt_t.1 e
  obtain⟨u,hu⟩:=get_lt e
  obtain⟨u1,u2⟩:=hm u (List.mem_of_getElem? hu)
  refine⟨u,hu,u1,hpos,u,hu,by decide,u,hu,u2,hpos,u,hu,by decide,by simp only[List.length_singleton];omega,by omega,hnx _ ⟨e,by simp only[List.length_append,List.length_singleton];omega,fun y my=>?_⟩ (by dsimp only;omega)⟩
  rcases List.mem_append.1 my with my|my
  ·exact hok y my
  ·rw[List.mem_singleton.1 my]
   exact⟨⟨Nat.mod_lt _ hpos,by dsimp only;omega⟩,Nat.mod_lt _ hpos,by dsimp only;omega⟩
 rintro laws ⟨L,l8⟩
 refine lClose_vc C L g (by omega) ⟨by simp only[List.length_nil];omega,?_⟩
 rw[List.nil_append]
 refine clo_vc C.p C.f3 g ?_
 refine joinLoop (fun s=>LI c laws given s.1∧(s.2.1,s.2.2.1)=satRes (clo c s.1)∧(s.2.2.2=false→∀ v,clo c s.1=some v→∀ l∈laws,LawAt v l)) (fun s=>cloM c s.1*2+(if s.2.2.2 then 1 else 0)) (fun a=>a=satRes (lawO c laws given)) ?_ ⟨⟨g.ok,fun _ _ e=>e,fun _ _ e=>e,by have:=cloM_le (c:=c) (all:=given);dsimp only;omega⟩,rfl,(fun e=>by cases e)⟩ ?_
 ·rintro kk ⟨all,want,fits,again⟩ nx ⟨I,hw,hd⟩ hnx hk
  dsimp only at I hw hd
  have exit:again=false∨fits=false→kk (want,fits):=fun h=>by
   refine hk _ ?_
   rw[hw]
   refine I.end C g fun v e=>?_
   rcases h with h|h
   ·exact hd h v e
   ·rw[e] at hw;cases hw;cases h
  refine joinI ⟨fun ea=>⟨fun ef=>?_,fun ef=>exit (.inr ef)⟩,fun ea=>⟨(fun e=>by cases e),fun _=>exit (.inl ea)⟩⟩
  subst ea
  subst ef
  obtain⟨v0,e0,rfl⟩:∃ v0,clo c all=some v0∧want=v0:=by
   cases e:clo c all with
   |none=>rw[e] at hw;cases hw
   |some v=>rw[e] at hw;exact⟨v,rfl,congrArg Prod.fst hw⟩
  refine⟨by simp only[Int.ofNat_eq_natCast];omega,by simp only[Int.ofNat_eq_natCast];omega,?_⟩
  refine loopW_intro (fun s => -1≤s.2.2.2.2∧s.2.2.2.2<Int.ofNat laws.length∧LI c laws given s.1∧(s.2.1,s.2.2.1)=satRes (clo c s.1)∧(s.2.2.2.1=false→s.1=all∧∀ (j:Nat) y,s.2.2.2.2<Int.ofNat j→laws[j]?=some y→LawAt want y)∧(s.2.2.2.1=true→cloM c s.1<cloM c all)) (fun s=>(s.2.2.2.2+1).toNat) ?_ ⟨by simp only[Int.ofNat_eq_natCast];omega,by simp only[Int.ofNat_eq_natCast];omega,I,hw,fun _=>⟨rfl,fun j y hj hy=>absurd (lt_of_get hy) (by simp only[Int.ofNat_eq_natCast] at hj;omega)⟩,(fun e=>by cases e)⟩
  rintro⟨al,wa,fi,ag,n⟩ nx2 ⟨hn1,hn2,I2,hw2,hF,hT⟩ hnx2
  dsimp only at hn1 hn2 I2 hw2 hF hT
  have exit2:n = -1∨fi=false→nx (al,wa,fi,ag):=fun h=>by
   refine hnx _ ⟨I2,hw2,fun e v ev y my=>?_⟩ ?_
   ·dsimp only at e ev
    obtain⟨f1,f2⟩:=hF e
    rw[f1,e0] at ev
    cases ev
    rcases h with h|h
    ·obtain⟨j,hj,ey⟩:=List.getElem_of_mem my
     exact f2 j y (by rw[h];simp only[Int.ofNat_eq_natCast];omega) (by rw[List.getElem?_eq_getElem hj,ey])
    ·rw[f1,e0] at hw2;cases hw2;cases h
   ·dsimp only
    cases ag with
    |true=>have:=hT rfl;simp only[if_true];omega
    |false=>rw[(hF rfl).1];simp
  refine joinI ⟨fun e=>⟨fun ef=>?_,fun ef=>exit2 (.inr ef)⟩,fun e=>⟨(fun e=>by cases e),fun _=>exit2 (.inl ?_)⟩⟩
  ·obtain⟨j,rfl⟩:=natOf e
   subst ef
   obtain⟨w,ew,rfl⟩:∃ w,clo c al=some w∧wa=w:=by
    cases e:clo c al with
    |none=>rw[e] at hw2;cases hw2
    |some v=>rw[e] at hw2;exact⟨v,rfl,congrArg Prod.fst hw2⟩
   have hj:j<laws.length:=by simp only[Int.ofNat_eq_natCast] at hn2;omega
   obtain⟨y,hy⟩:=get_lt hj
   have my:=List.mem_of_getElem? hy
   obtain⟨⟨y1,y2⟩,y3,y4⟩:=L.ok y my
   have hwl:=(clo_some ew).len
   have bounds:∀ s:List Asg×List Nat×Bool×Bool,LI c laws given s.1→(s.2.1,s.2.2.1)=satRes (clo c s.1)→(s.2.2.2=false→s.1=all∧∀ (j':Nat) y,Int.ofNat j-Int.ofNat 1<Int.ofNat j'→laws[j']?=some y→LawAt want y)→(s.2.2.2=true→cloM c s.1<cloM c all) → -(2 ^ 63)≤(Int.ofNat j-Int.ofNat 1)∧(Int.ofNat j-Int.ofNat 1)<2 ^ 63∧nx2 (s.1,s.2.1,s.2.2.1,s.2.2.2,Int.ofNat j-Int.ofNat 1):=fun s a1 a2 a3 a4=>by
    have:=L.len
    exact⟨by simp only[Int.ofNat_eq_natCast];omega,by simp only[Int.ofNat_eq_natCast];omega,hnx2 _ ⟨by dsimp only;simp only[Int.ofNat_eq_natCast];omega,by dsimp only;simp only[Int.ofNat_eq_natCast];omega,a1,a2,a3,a4⟩ (by dsimp only;simp only[Int.ofNat_eq_natCast];omega)⟩
   have fin:∀ z:Bool,(z=true→wa.getD y.cond.net 0=y.cond.value∧wa.getD y.thn.net 0≠y.thn.value)→(z=false→LawAt wa y) →
     ∀ {rest:List Asg×List Nat×Bool×Bool→Prop},(∀ s:List Asg×List Nat×Bool×Bool,LI c laws given s.1→(s.2.1,s.2.2.1)=satRes (clo c s.1)→(s.2.2.2=false→s.1=all∧∀ (j':Nat) y,Int.ofNat j-Int.ofNat 1<Int.ofNat j'→laws[j']?=some y→LawAt want y)→(s.2.2.2=true→cloM c s.1<cloM c all)→rest s) →
     (z=true→∃ j108:Nat,Int.ofNat j=Int.ofNat j108∧∃ x107,laws[j108]?=some x107∧(al.length+([x107.thn]:(List Asg)).length)*16≤2 ^ 47∧implies_Close_wp c (al++([x107.thn]:(List Asg))) (fun r114=>rest ((al++([x107.thn]:(List Asg))),r114.1,r114.2.1,true)))∧(z=false→rest (al,wa,true,ag)):=fun z z1 z2 {rest} hr=>by
    refine⟨fun ez=>?_,fun ez=>?_⟩
    ·obtain⟨h1,h2⟩:=z1 ez
     obtain⟨I3,lt⟩:=I2.step C L ew my h1 h2
     have:=I2.len
     refine⟨j,rfl,y,hy,by simp only[List.length_singleton];omega,clo_vc C.p C.f3 I3.giv (hr _ I3 rfl (fun e=>by cases e) fun _=>?_)⟩
     cases ag with
     |true=>have:=hT rfl;dsimp only;omega
     |false=>rw[(hF rfl).1] at lt;dsimp only;rw[(hF rfl).1];exact lt
    ·refine hr _ I2 hw2 (fun eg=>⟨(hF eg).1,fun j' y' hj' hy'=>?_⟩) hT
     by_cases ej:j'=j
     ·subst ej
      rw[hy] at hy'
      cases hy'
      have:wa=want:=by
       have:=(hF eg).1
       rw[this,e0] at ew
       cases ew;rfl
      rw[← this]
      exact z2 ez
     ·exact (hF eg).2 j' y' (by simp only[Int.ofNat_eq_natCast] at hj' ⊢;omega) hy'
   refine joinI (joinI ⟨j,rfl,y,hy,_,getN hwl y1,j,rfl,y,hy,fun e1=>⟨j,rfl,y,hy,_,getN hwl y3,j,rfl,y,hy,?_⟩,fun e1=>?_⟩)
   ·exact fin _ (fun e2=>⟨eq_t.1 e1,ne_t.1 e2⟩) (fun e2 _=>ne_f.1 e2) bounds
   ·exact fin _ (fun e2=>by cases e2) (fun _ h=>absurd h (eq_f.1 e1)) bounds
  ·have:ltI n (Int.ofNat 0)=true:=by simpa using e
   have:=ltZ_t.1 this
   simp only[Int.ofNat_eq_natCast] at this;omega
 rintro _ rfl
 have L0:LawsOk c []:=⟨(fun _ m=>by cases m),by simp⟩
 have Ld:LawsOk c (laws.drop (laws.length/2)):=⟨fun y m=>L.ok y (List.mem_of_mem_drop m),by rw[List.length_drop];omega⟩
 refine lClose_vc C L0 g (by omega) (clo_vc C.p C.f3 g ⟨by decide,by omega,by omega,lClose_vc C Ld g (by omega) ?_⟩)
 have lb:∀ {ls:List Lawv},(cloR (lawO c ls given)).1.length<2 ^ 60:=fun {ls}=>cloR_len (n:=c.nodes.length) (by omega) lawO_len
 have le0:leOO c.nodes.length (lawO c [] given) (lawO c laws given):=satO_le (P:=lawP c []) (Q:=lawP c laws) lawP_len (fun t h=>⟨h.1,fun _ m=>by cases m⟩) (fun _ _ e=>e) (lawD C L0 g (by omega))
 have led:leOO c.nodes.length (lawO c (laws.drop (laws.length/2)) given) (lawO c laws given):=satO_le (P:=lawP c (laws.drop (laws.length/2))) (Q:=lawP c laws) lawP_len (fun t h=>⟨h.1,fun y m=>h.2 y (List.mem_of_mem_drop m)⟩) (fun _ _ e=>e) (lawD C Ld g (by omega))
 have b0:=lb (ls:=[])
 refine⟨fun _=>⟨fun _=>⟨fun _=>equal_vc lb ⟨fun _=>?_,(fun e=>by cases e)⟩,fun e=>absurd (cloR_err _) (eq_f.1 e)⟩,fun e=>absurd (cloR_err _) (eq_f.1 e)⟩,fun e=>absurd (cloR_err _) (eq_f.1 e)⟩
 rw[lawO_nil C g] at b0 le0 ⊢
 exact equal_vc b0 ⟨fun _=>least_vc (by omega) le0 ⟨fun _=>least_vc (by omega) led ⟨fun _=>rfl,(fun e=>by cases e)⟩,(fun e=>by cases e)⟩,(fun e=>by cases e)⟩
def shU4:Sh:=.pair shB (.pair shB (.pair shB (.pair shB .unit)))
theorem quads_arg {l:List shU4.Den} (w:(Sh.slice shU4).wf l):∃ m:List U4,(∀ v∈m,v.a<256∧v.c<256)∧(Sh.slice shU4).cellsF l=[encL 4 encU4 m]:=by
 obtain⟨_,w2⟩:=w
 obtain⟨m,h1,h2,_⟩:=list_of (f:=fun x=>elV shU4.one (shU4.cellsF x)) (g:=encU4) (p:=fun v=>v.a<256∧v.c<256) l fun x hx=>by
  obtain⟨a,b,c,d,u⟩:=x
  obtain⟨wa,wb,wc,wd,_⟩:=w2 _ hx
  obtain⟨a,q1,rfl⟩:=byte_of wa
  obtain⟨b,q2,rfl⟩:=byte_of wb
  obtain⟨c,q3,rfl⟩:=byte_of wc
  obtain⟨d,q4,rfl⟩:=byte_of wd
  exact⟨⟨a,b,c,d⟩,⟨q1,q3⟩,rfl⟩
 refine⟨m,h1,?_⟩
 show [FL 4 (l.map fun x=>elV shU4.one (shU4.cellsF x))]=_
 rw[h2];rfl
def learnsCloses_sh:List (Sh×Bool):=[(shC,true),(.slice shU2,false),(.slice shU4,false)]
theorem learnsCloses_call (x:DenL learnsCloses_sh) (w:wfL learnsCloses_sh x):FnV Tryz.prog NG vars 6 ⟨argL learnsCloses_sh x⟩ (.bool true):=by
 obtain⟨c,vs,qs,u⟩:=x
 obtain⟨wc,wv,wq,_⟩:=w
 obtain⟨y,hy,e1⟩:=c_arg wc
 obtain⟨l,hl,e2⟩:=pairs_arg wv
 obtain⟨m,hm,e3⟩:=quads_arg wq
 have e:argL learnsCloses_sh (c,vs,qs,u)=[encC y,encL 2 encU2 l,encL 4 encU4 m]:=by
  show [elV (!true) (shC.cellsF c),elV (!false) ((Sh.slice shU2).cellsF vs),elV (!false) ((Sh.slice shU4).cellsF qs)]=_
  rw[e1,e2,e3];rfl
 rw[e]
 exact FnV.of_walk (enc:=Value.bool) (r:=true) (PureV.flat rfl) fun h hB=>probecardlaw25_LearnsCloses_walk (learnsCloses_vc hy (fun u m=>(hl u m).1) hm) hB
end Go.Proofs.YtfhldkgelipnaaaGreatDoor
