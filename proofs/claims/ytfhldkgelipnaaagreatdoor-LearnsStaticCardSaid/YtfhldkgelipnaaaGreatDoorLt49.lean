/-
  R4, QL, Lw2, R3, Q7, Q8, LearnsStatic: parts of the proof.
-/
import Derived.Test.YtfhldkgelipnaaaGreatDoorLt48
namespace Go.Proofs.YtfhldkgelipnaaaGreatDoor
open Go.Abs
set_option maxRecDepth 100000
set_option maxHeartbeats 8000000
def probecardlaw25_lives_wp  (K:Bool→Prop):Prop :=
 probecardlaw25_example_wp  (fun r1=>probecardlaw25_at_wp 5 1 (fun r6=>1=([r6]:(List Asg)).length∧learns_Saturate_wp r1 0 ([r6]:(List Asg)) (fun r9=>probecardlaw25_at_wp 5 1 (fun r11=>1=([r11]:(List Asg)).length∧learns_Saturate_wp r1 1 ([r11]:(List Asg)) (fun r14=>learns_Static_wp r1 (fun r16=>learns_Static_wp (⟨([(⟨0,([]:(List Nat)),0,0⟩:Node),(⟨4,([0]:(List Nat)),0,0⟩:Node),(⟨5,([0,1]:(List Nat)),0,0⟩:Node)]:(List Node)),([(⟨#[97]⟩:ByteArray),(⟨#[98]⟩:ByteArray),(⟨#[99]⟩:ByteArray)]:(List ByteArray)),([]:(List Memo)),([2]:(List Nat))⟩:Circ) (fun r17=>learns_Saturate_wp (⟨([(⟨0,([]:(List Nat)),0,0⟩:Node),(⟨4,([0]:(List Nat)),0,0⟩:Node),(⟨5,([0,1]:(List Nat)),0,0⟩:Node)]:(List Node)),([(⟨#[97]⟩:ByteArray),(⟨#[98]⟩:ByteArray),(⟨#[99]⟩:ByteArray)]:(List ByteArray)),([]:(List Memo)),([2]:(List Nat))⟩:Circ) 1 ([]:(List Asg)) (fun r18=>joinW (α:=Bool) (fun k20=>((neN r9.2.2 0)=true→k20 true)∧((neN r9.2.2 0)=false→((neN r14.2.2 0)=true→k20 true)∧((neN r14.2.2 0)=false→((neN r16.2 0)=true→k20 true)∧((neN r16.2 0)=false→((neN r17.2 0)=true→k20 true)∧((neN r17.2 0)=false→((neN r18.2.2 0)=true→k20 true)∧((neN r18.2.2 0)=false→probecardlaw25_equal_wp r9.1 r9.2.1 ([2,2,2,2,2,1]:(List Nat)) true (fun r21=>((!r21)=true→k20 true)∧((!r21)=false→probecardlaw25_equal_wp r14.1 r14.2.1 ([2,1,2,2,2,1]:(List Nat)) true (fun r22=>((!r22)=true→k20 true)∧((!r22)=false→probecardlaw25_equal_wp r18.1 r18.2.1 ([2,2,0]:(List Nat)) true (fun r23=>k20 (!r23)))))))))))) (fun v19=>(v19=true→K false)∧(v19=false→joinW (α:=Bool) (fun k25=>((neN r16.1.length 1)=true→k25 true)∧((neN r16.1.length 1)=false→∃ x26,r16.1[0]?=some x26∧probecardlaw25_at_wp 5 1 (fun r27=>probecardlaw25_at_wp 1 1 (fun r28=>((!(((eqN x26.cond.net r27.net)&&((eqN x26.cond.value r27.value)&&true))&&(((eqN x26.thn.net r28.net)&&((eqN x26.thn.value r28.value)&&true))&&true)))=true→k25 true)∧((!(((eqN x26.cond.net r27.net)&&((eqN x26.cond.value r27.value)&&true))&&(((eqN x26.thn.net r28.net)&&((eqN x26.thn.value r28.value)&&true))&&true)))=false→((neN r17.1.length 1)=true→k25 true)∧((neN r17.1.length 1)=false→∃ x29,r17.1[0]?=some x29∧probecardlaw25_at_wp 2 1 (fun r30=>probecardlaw25_at_wp 2 0 (fun r31=>k25 (!(((eqN x29.cond.net r30.net)&&((eqN x29.cond.value r30.value)&&true))&&(((eqN x29.thn.net r31.net)&&((eqN x29.thn.value r31.value)&&true))&&true))))))))))) (fun v24=>(v24=true→K false)∧(v24=false→probecardlaw25_at_wp 2 1 (fun r32=>1=([r32]:(List Asg)).length∧learns_Close_wp (⟨([(⟨0,([]:(List Nat)),0,0⟩:Node),(⟨4,([0]:(List Nat)),0,0⟩:Node),(⟨5,([0,1]:(List Nat)),0,0⟩:Node)]:(List Node)),([(⟨#[97]⟩:ByteArray),(⟨#[98]⟩:ByteArray),(⟨#[99]⟩:ByteArray)]:(List ByteArray)),([]:(List Memo)),([2]:(List Nat))⟩:Circ) r17.1 ([r32]:(List Asg)) (fun r35=>probecardlaw25_at_wp 0 1 (fun r37=>probecardlaw25_at_wp 1 1 (fun r38=>probecardlaw25_at_wp 0 1 (fun r41=>1=([(⟨r37,r38⟩:Lawv)]:(List Lawv)).length∧1=([r41]:(List Asg)).length∧learns_Close_wp r1 ([(⟨r37,r38⟩:Lawv)]:(List Lawv)) ([r41]:(List Asg)) (fun r44=>((eqN r35.2.2 0)=true→((!r35.2.1)=true→((eqN r44.2.2 0)=true→probecardlaw25_equal_wp r44.1 r44.2.1 ([1,1,1,0,0,1]:(List Nat)) true (fun r49=>K r49))∧((eqN r44.2.2 0)=false→K false))∧((!r35.2.1)=false→K false))∧((eqN r35.2.2 0)=false→K false)))))))))))))))))))
theorem probecardlaw25_lives_walk  {K:Bool→Prop} (hm:probecardlaw25_lives_wp  K) {h0:Heap} (hB:HasB vars h0):∃ r,K r∧CallD Tryz.prog NG 23 ⟨[]⟩ h0 (Value.bool r) h0:=by
 unfold probecardlaw25_lives_wp at hm
 refine fw Tryz.func23 hB (enc:=Value.bool) (fun r=>PureV.flat rfl) fun O=>?_;conv=>whnf
 refine gX ?_
 refine ca (probecardlaw25_example_walk hm O.has) fun r1 hm=>?_;refine gH ?_
 refine O.new (anew_alloc (l:=[(.slice none 0 0),(.slice none 0 0),(.slice none 0 0),(.slice none 0 0)]) rfl rfl rfl) fun g2 h O=>?_;refine gH ?_
 refine O.stC 4 (.head _) [((encL 4 encNode) r1.nodes),((encL 1 Value.string) r1.names),((encL 3 encMem) r1.mems),((encL 1 i64) r1.outs)] fun h O=>?_;refine gX ?_
 refine fz ?_;refine gH ?_
 refine fz ?_;refine gH ?_
 refine NewG.frzW rfl (VLe.els (s:=4) (es':=([(⟨0,([]:(List Nat)),0,0⟩:Node),(⟨4,([0]:(List Nat)),0,0⟩:Node),(⟨5,([0,1]:(List Nat)),0,0⟩:Node)]).map encNode) rfl (map_size (enc:=encNode) (s:=4) (fun _=>rfl) _) (LLe.cons (VLe.refl _ _) (LLe.cons (VLe.nil _ _) (LLe.cons (VLe.refl _ _) (LLe.cons (VLe.refl _ _) (LLe.cons (VLe.refl _ _) (LLe.cons (VLe.refl _ _) (LLe.cons (VLe.refl _ _) (LLe.cons (VLe.refl _ _) (LLe.cons (VLe.refl _ _) (LLe.cons (VLe.refl _ _) (LLe.cons (VLe.refl _ _) (LLe.cons (VLe.refl _ _) (LLe.nil _)))))))))))))) ?_;refine gH ?_
 refine fz ?_;refine gH ?_
 refine fz ?_;refine gH ?_
 refine O.new (anew_alloc (l:=[(.slice none 0 0),(.slice none 0 0),(.slice none 0 0),(.slice none 0 0)]) rfl rfl rfl) fun g4 h O=>?_;refine gH ?_
 refine O.stC 4 (.head _) [((encL 4 encNode) ([(⟨0,([]:(List Nat)),0,0⟩:Node),(⟨4,([0]:(List Nat)),0,0⟩:Node),(⟨5,([0,1]:(List Nat)),0,0⟩:Node)]:(List Node))),((encL 1 Value.string) ([(⟨#[97]⟩:ByteArray),(⟨#[98]⟩:ByteArray),(⟨#[99]⟩:ByteArray)]:(List ByteArray))),(.slice none 0 0),((encL 1 i64) ([2]:(List Nat)))] fun h O=>?_;refine gX ?_
 refine ldA (O.at (.tail _ (.head _))) ?_;refine gH ?_
 first|refine⟨.inr (.inr (loadAggK rfl (O.at (.tail _ (.head _))) rfl rfl (lbE rfl) rfl)),?_⟩|refine⟨.inr (.inl (by kernel_rfl)),?_⟩
 refine gX ?_
 refine ca (probecardlaw25_at_walk hm O.has) fun r6 hm=>?_;refine gH ?_
 refine⟨.inl (Ext.refl _),?_⟩;refine gH ?_
 refine O.buildLX (l:=([r6]:(List Asg))) (enc:=encAsg) (s:=2) (z:=(.agg ⟨[(i64 0),(n8 0)]⟩)) rfl rfl (by kernel_rfl) (by kernel_rfl) rfl rfl rfl rfl (fun _=>rfl) fun g7 h O=>?_;refine gH ?_
 obtain⟨hn10,hm⟩:=hm
 refine O.useL (fun _ hb=>learns_Saturate_walk hm hb) (.head _) hn10 (fun _=>rfl) (i:=2) rfl (by kernel_rfl) (fun h2 q=>(LLe.cons (VLe.refl _ _) (LLe.cons (VLe.refl _ _) (LLe.cons (q) (LLe.nil _))))) (fun r9 h hm' O=>?_);replace hm:=hm';refine gH ?_
 refine⟨.inr (by kernel_rfl),?_⟩;refine gH ?_
 refine gX ?_
 refine ldA (O.at (.tail _ (.tail _ (.head _)))) ?_;refine gH ?_
 first|refine⟨.inr (.inr (loadAggK rfl (O.at (.tail _ (.tail _ (.head _)))) rfl rfl (lbE rfl) rfl)),?_⟩|refine⟨.inr (.inl (by kernel_rfl)),?_⟩
 refine gX ?_
 refine ca (probecardlaw25_at_walk hm O.has) fun r11 hm=>?_;refine gH ?_
 refine⟨.inl (Ext.refl _),?_⟩;refine gH ?_
 refine O.buildLX (l:=([r11]:(List Asg))) (enc:=encAsg) (s:=2) (z:=(.agg ⟨[(i64 0),(n8 0)]⟩)) rfl rfl (by kernel_rfl) (by kernel_rfl) rfl rfl rfl rfl (fun _=>rfl) fun g12 h O=>?_;refine gH ?_
 obtain⟨hn15,hm⟩:=hm
 refine O.useL (fun _ hb=>learns_Saturate_walk hm hb) (.head _) hn15 (fun _=>rfl) (i:=2) rfl (by kernel_rfl) (fun h2 q=>(LLe.cons (VLe.refl _ _) (LLe.cons (VLe.refl _ _) (LLe.cons (q) (LLe.nil _))))) (fun r14 h hm' O=>?_);replace hm:=hm';refine gH ?_
 refine⟨.inr (by kernel_rfl),?_⟩;refine gH ?_
 refine gX ?_
 refine ldA (O.at (.tail _ (.tail _ (.tail _ (.head _))))) ?_;refine gH ?_
 refine ca (learns_Static_walk hm O.has) fun r16 hm=>?_;refine gX ?_
 refine ldA (O.at (.tail _ (.tail _ (.head _)))) ?_;refine gH ?_
 refine caW (learns_Static_walk hm O.has) (LLe.cons (VLe.agg (LLe.cons (VLe.refl _ _) (LLe.cons (VLe.refl _ _) (LLe.cons (VLe.nil _ _) (LLe.cons (VLe.refl _ _) (LLe.nil _)))))) (LLe.nil _)) fun r17 hm=>?_;refine gX ?_
 refine ldA (O.at (.tail _ (.tail _ (.head _)))) ?_;refine gH ?_
 refine caW (learns_Saturate_walk hm O.has) (LLe.cons (VLe.agg (LLe.cons (VLe.refl _ _) (LLe.cons (VLe.refl _ _) (LLe.cons (VLe.nil _ _) (LLe.cons (VLe.refl _ _) (LLe.nil _)))))) (LLe.cons (VLe.refl _ _) (LLe.cons (VLe.nil _ _) (LLe.nil _)))) fun r18 hm=>?_;refine gH ?_
 apply Cs;conv=>whnf
 refine jn hm 178 [2,3,10,12] (fun s=>s) (fun v19 h=>Own vars h0 [((some g2),.cells [((encL 4 encNode) r1.nodes),((encL 1 Value.string) r1.names),((encL 3 encMem) r1.mems),((encL 1 i64) r1.outs)] false),((some g4),.cells [((encL 4 encNode) ([(⟨0,([]:(List Nat)),0,0⟩:Node),(⟨4,([0]:(List Nat)),0,0⟩:Node),(⟨5,([0,1]:(List Nat)),0,0⟩:Node)]:(List Node))),((encL 1 Value.string) ([(⟨#[97]⟩:ByteArray),(⟨#[98]⟩:ByteArray),(⟨#[99]⟩:ByteArray)]:(List ByteArray))),(.slice none 0 0),((encL 1 i64) ([2]:(List Nat)))] false)] h) (fun v19=>[(114,(.bool v19))]) (fun hm=>?_) ?_
 ·refine gX ?_
  refine br hm (fun hm=>?_) fun hm=>?_
  ·refine gX ?_
   refine bt ?_;refine gH ?_
   refine bt ?_;refine gH ?_
   refine bt ?_;refine gH ?_
   refine bt ?_;refine gH ?_
   refine bt ?_;refine gH ?_
   refine bt ?_;refine gH ?_
   exact jx true hm (O.sel [3,2] (by decide))
  ·refine gX ?_
   refine br hm (fun hm=>?_) fun hm=>?_
   ·refine gX ?_
    refine bt ?_;refine gH ?_
    refine bt ?_;refine gH ?_
    refine bt ?_;refine gH ?_
    refine bt ?_;refine gH ?_
    refine bt ?_;refine gH ?_
    exact jx true hm (O.sel [3,2] (by decide))
   ·refine gX ?_
    refine br hm (fun hm=>?_) fun hm=>?_
    ·refine gX ?_
     refine bt ?_;refine gH ?_
     refine bt ?_;refine gH ?_
     refine bt ?_;refine gH ?_
     refine bt ?_;refine gH ?_
     exact jx true hm (O.sel [3,2] (by decide))
    ·refine gX ?_
     refine br hm (fun hm=>?_) fun hm=>?_
     ·refine gX ?_
      refine bt ?_;refine gH ?_
      refine bt ?_;refine gH ?_
      refine bt ?_;refine gH ?_
      exact jx true hm (O.sel [3,2] (by decide))
     ·refine gX ?_
      refine br hm (fun hm=>?_) fun hm=>?_
      ·refine gX ?_
       refine bt ?_;refine gH ?_
       refine bt ?_;refine gH ?_
       exact jx true hm (O.sel [3,2] (by decide))
      ·refine gX ?_
       refine fz ?_;refine gH ?_
       refine caW (probecardlaw25_equal_walk hm O.has) (LLe.cons (VLe.ofN) (LLe.cons (VLe.refl _ _) (LLe.cons (VLe.refl _ _) (LLe.cons (VLe.refl _ _) (LLe.nil _))))) fun r21 hm=>?_;refine gH ?_
       refine br hm (fun hm=>?_) fun hm=>?_
       ·refine gX ?_
        refine bt ?_;refine gH ?_
        exact jx true hm (O.sel [3,2] (by decide))
       ·refine gX ?_
        refine fz ?_;refine gH ?_
        refine caW (probecardlaw25_equal_walk hm O.has) (LLe.cons (VLe.ofN) (LLe.cons (VLe.refl _ _) (LLe.cons (VLe.refl _ _) (LLe.cons (VLe.refl _ _) (LLe.nil _))))) fun r22 hm=>?_;refine gH ?_
        refine br hm (fun hm=>?_) fun hm=>?_
        ·refine gX ?_
         exact jx true hm (O.sel [3,2] (by decide))
        ·refine gX ?_
         refine fz ?_;refine gH ?_
         refine caW (probecardlaw25_equal_walk hm O.has) (LLe.cons (VLe.ofN) (LLe.cons (VLe.refl _ _) (LLe.cons (VLe.refl _ _) (LLe.cons (VLe.refl _ _) (LLe.nil _))))) fun r23 hm=>?_;refine gH ?_
         exact jx (!r23) hm (O.sel [3,2] (by decide))
 ·clear hm;rintro v19 base h hm O
  refine gX ?_
  refine br hm (fun hm=>?_) fun hm=>?_
  ·refine gX ?_
   exact fe hm O
  ·apply Cs;conv=>whnf
   apply Cs;conv=>whnf
   refine jn hm 178 [2,3,12] (fun s=>s) (fun v24 h=>Own vars h0 [((some g2),.cells [((encL 4 encNode) r1.nodes),((encL 1 Value.string) r1.names),((encL 3 encMem) r1.mems),((encL 1 i64) r1.outs)] false),((some g4),.cells [((encL 4 encNode) ([(⟨0,([]:(List Nat)),0,0⟩:Node),(⟨4,([0]:(List Nat)),0,0⟩:Node),(⟨5,([0,1]:(List Nat)),0,0⟩:Node)]:(List Node))),((encL 1 Value.string) ([(⟨#[97]⟩:ByteArray),(⟨#[98]⟩:ByteArray),(⟨#[99]⟩:ByteArray)]:(List ByteArray))),(.slice none 0 0),((encL 1 i64) ([2]:(List Nat)))] false)] h) (fun v24=>[(140,(.bool v24))]) (fun hm=>?_) ?_
   ·refine gX ?_
    refine br hm (fun hm=>?_) fun hm=>?_
    ·refine gX ?_
     refine bt ?_;refine gH ?_
     refine bt ?_;refine gH ?_
     exact jx true hm O
    ·refine gX ?_
     refine atF hm fun x26 hx26 hm=>?_;refine gH ?_
     first|refine⟨.inr (.inr (rfl)),?_⟩|refine⟨.inr (.inl (by kernel_rfl)),?_⟩
     refine gX ?_
     refine ca (probecardlaw25_at_walk hm O.has) fun r27 hm=>?_;refine gH ?_
     refine⟨.inl (Ext.refl _),?_⟩;refine gH ?_
     refine ca (probecardlaw25_at_walk hm O.has) fun r28 hm=>?_;refine gH ?_
     refine⟨.inl (Ext.refl _),?_⟩;refine gH ?_
     refine⟨.bool (!(((eqN x26.cond.net r27.net)&&((eqN x26.cond.value r27.value)&&true))&&(((eqN x26.thn.net r28.net)&&((eqN x26.thn.value r28.value)&&true))&&true))),by kernel_rfl,?_⟩;refine gH ?_
     refine br hm (fun hm=>?_) fun hm=>?_
     ·refine gX ?_
      refine bt ?_;refine gH ?_
      exact jx true hm O
     ·refine gX ?_
      refine br hm (fun hm=>?_) fun hm=>?_
      ·refine gX ?_
       exact jx true hm O
      ·refine gX ?_
       refine atF hm fun x29 hx29 hm=>?_;refine gH ?_
       first|refine⟨.inr (.inr (rfl)),?_⟩|refine⟨.inr (.inl (by kernel_rfl)),?_⟩
       refine gX ?_
       refine ca (probecardlaw25_at_walk hm O.has) fun r30 hm=>?_;refine gH ?_
       refine⟨.inl (Ext.refl _),?_⟩;refine gH ?_
       refine ca (probecardlaw25_at_walk hm O.has) fun r31 hm=>?_;refine gH ?_
       refine⟨.inl (Ext.refl _),?_⟩;refine gH ?_
       refine⟨.bool (!(((eqN x29.cond.net r30.net)&&((eqN x29.cond.value r30.value)&&true))&&(((eqN x29.thn.net r31.net)&&((eqN x29.thn.value r31.value)&&true))&&true))),by kernel_rfl,?_⟩;refine gH ?_
       exact jx (!(((eqN x29.cond.net r30.net)&&((eqN x29.cond.value r30.value)&&true))&&(((eqN x29.thn.net r31.net)&&((eqN x29.thn.value r31.value)&&true))&&true))) hm O
   ·clear hm;rintro v24 base h hm O
    refine gX ?_
    refine br hm (fun hm=>?_) fun hm=>?_
    ·refine gX ?_
     exact fe hm O
    ·refine gX ?_
     refine ldA (O.at (.tail _ (.head _))) ?_;refine gH ?_
     first|refine⟨.inr (.inr (loadAggK rfl (O.at (.tail _ (.head _))) rfl rfl (lbE rfl) rfl)),?_⟩|refine⟨.inr (.inl (by kernel_rfl)),?_⟩
     refine gX ?_
     refine ca (probecardlaw25_at_walk hm O.has) fun r32 hm=>?_;refine gH ?_
     refine⟨.inl (Ext.refl _),?_⟩;refine gH ?_
     refine O.buildLX (l:=([r32]:(List Asg))) (enc:=encAsg) (s:=2) (z:=(.agg ⟨[(i64 0),(n8 0)]⟩)) rfl rfl (by kernel_rfl) (by kernel_rfl) rfl rfl rfl rfl (fun _=>rfl) fun g33 h O=>?_;refine gH ?_
     obtain⟨hn36,hm⟩:=hm
     refine O.useL (fun _ hb=>learns_Close_walk hm hb) (.head _) hn36 (fun _=>rfl) (i:=2) rfl (by kernel_rfl) (fun h2 q=>(LLe.cons (VLe.agg (LLe.cons (VLe.refl _ _) (LLe.cons (VLe.refl _ _) (LLe.cons (VLe.nil _ _) (LLe.cons (VLe.refl _ _) (LLe.nil _)))))) (LLe.cons (VLe.refl _ _) (LLe.cons (VLe.toN (by simp) q) (LLe.nil _))))) (fun r35 h hm' O=>?_);replace hm:=hm';refine gH ?_
     refine⟨.inr (by kernel_rfl),?_⟩;refine gH ?_
     refine gX ?_
     refine ldA (O.at (.tail _ (.head _))) ?_;refine gH ?_
     first|refine⟨.inr (.inr (loadAggK rfl (O.at (.tail _ (.head _))) rfl rfl (lbE rfl) rfl)),?_⟩|refine⟨.inr (.inl (by kernel_rfl)),?_⟩
     refine gX ?_
     refine ca (probecardlaw25_at_walk hm O.has) fun r37 hm=>?_;refine gH ?_
     refine⟨.inl (Ext.refl _),?_⟩;refine gH ?_
     refine ca (probecardlaw25_at_walk hm O.has) fun r38 hm=>?_;refine gH ?_
     refine⟨.inl (Ext.refl _),?_⟩;refine gH ?_
     refine O.buildLX (l:=([(⟨r37,r38⟩:Lawv)]:(List Lawv))) (enc:=encLaw) (s:=4) (z:=(.agg ⟨[(i64 0),(n8 0),(i64 0),(n8 0)]⟩)) rfl rfl (by kernel_rfl) (by kernel_rfl) rfl rfl rfl rfl (fun _=>rfl) fun g39 h O=>?_;refine gH ?_
     refine ca (probecardlaw25_at_walk hm O.has) fun r41 hm=>?_;refine gH ?_
     refine⟨.inl (Ext.refl _),?_⟩;refine gH ?_
     refine O.buildLX (l:=([r41]:(List Asg))) (enc:=encAsg) (s:=2) (z:=(.agg ⟨[(i64 0),(n8 0)]⟩)) rfl rfl (by kernel_rfl) (by kernel_rfl) rfl rfl rfl rfl (fun _=>rfl) fun g42 h O=>?_;refine gH ?_
     obtain⟨hn47,hn48,hm⟩:=hm
     refine O.useXL (.tail _ (.head _)) hn47 (fun _=>rfl) (i:=1) rfl (by kernel_rfl) (fun h2 q=>(LLe.cons (VLe.refl _ _) (LLe.cons (q) (LLe.cons (VLe.refl _ _) (LLe.nil _))))) fun h O=>O.useXL (.head _) hn48 (fun _=>rfl) (i:=2) rfl (by kernel_rfl) (fun h2 q=>(LLe.cons (VLe.refl _ _) (LLe.cons (VLe.refl _ _) (LLe.cons (VLe.toN (by simp) q) (LLe.nil _))))) fun h O=>ca (learns_Close_walk hm O.has) fun r44 hm=>?_;refine gH ?_
     refine⟨.inr (by kernel_rfl),?_⟩;refine gH ?_
     refine gX ?_
     refine br hm (fun hm=>?_) fun hm=>?_
     ·refine gX ?_
      refine br hm (fun hm=>?_) fun hm=>?_
      ·refine gX ?_
       refine br hm (fun hm=>?_) fun hm=>?_
       ·refine gX ?_
        refine fz ?_;refine gH ?_
        refine ca (probecardlaw25_equal_walk hm O.has) fun r49 hm=>?_;refine gX ?_
        exact fe hm O
       ·refine gX ?_
        exact fe hm O
      ·refine gX ?_
       refine bf ?_;refine gX ?_
       exact fe hm O
     ·refine gX ?_
      refine bf ?_;refine gH ?_
      refine bf ?_;refine gX ?_
      exact fe hm O
def nm25:List ByteArray:=[⟨#[97]⟩,⟨#[98]⟩,⟨#[99]⟩,⟨#[100]⟩,⟨#[101]⟩,⟨#[102]⟩,⟨#[103]⟩]
theorem isname_run25:(nm25.all fun s=>isTrue (runFn Tryz.prog [] (orcExt Tryz.prog) 60 142 #[.string s] (heapOf vars)))=true:=by kernel_rfl
theorem isNm25 {s:ByteArray} (h:s∈nm25):IsNm s:=by
 obtain⟨h',e⟩:=isTrue_iff (List.all_eq_true.1 isname_run25 s h)
 have c:=(runFn_sound hM hP (fun f vs h v e=>orcExt_sound f vs h v e) 60 _ _ _ _ _ e).1
 exact⟨PureV.flatB rfl,fun h b=>c.lift (by kernel_rfl) rfl (bears_vars (hasSize b) (hasVars b))⟩
def nodeB (n i:Nat) (x:Node):Bool:=decide (x.kind≤11)&&decide (Arity x.kind x.ins.length)&&(x.ins.all fun k=>Nat.blt k n)&&decide (x.mem=0)&&decide (x.bit=0)&&(x.ins.all fun k=>Nat.blt k i)&&decide (x.ins.length≤3)
def circB (c:Circ):Bool:=(List.range c.nodes.length).all fun i=>match c.nodes[i]? with
 |some x=>nodeB c.nodes.length i x
 |none=>true
theorem cc25 {c:Circ} (h:circB c=true) (h0:0<c.nodes.length) (hl:c.nodes.length≤16) (hn:c.names.length=c.nodes.length) (h1:(c.names.all fun s=>nm25.any fun q=>decide (q=s))=true) (h2:c.names.Nodup) (hm:c.mems=[]) (ho:∀ o∈c.outs,o<c.nodes.length) (hol:c.outs.length≤16):CC c:=by
 have key:∀ i x,c.nodes[i]?=some x→nodeB c.nodes.length i x=true:=fun i x hx=>by
  have:=List.all_eq_true.1 h i (List.mem_range.2 (lt_of_get hx))
  rw[hx] at this;exact this
 unfold nodeB at key
 simp only[Bool.and_eq_true,decide_eq_true_eq,List.all_eq_true,Nat.blt_eq] at key
 have F:FanOk c:=fan_ok ⟨hl,fun i x hx=>⟨(key i x hx).1.1.1.1.2,by have:=(key i x hx).2;omega⟩⟩
 have N:NamesOk c:=by
  refine FnV.of_walk (enc:=i64) (PureV.flat rfl) fun h hB=>?_
  exact names_all_walk (K:=fun r=>r=0) (names_all_vc (fun s m=>isNm25 (by
   obtain⟨q,hq,e⟩:=List.any_eq_true.1 (List.all_eq_true.1 h1 s m)
   rw[← of_decide_eq_true e];exact hq)) h2 (by omega) rfl) hB
 refine⟨⟨⟨hl,hn,N,F,fun m hmm=>(by rw[hm] at hmm;cases hmm),by rw[hm];exact Nat.zero_le _,ho,hol,fun i x hx=>?_,h0⟩,hm,fun i x hx=>?_⟩,fun i x hx=>(key i x hx).2⟩
 ·obtain⟨⟨⟨⟨⟨⟨k1,k2⟩,k3⟩,k4⟩,k5⟩,k6⟩,k7⟩:=key i x hx
  exact⟨by omega,k2,k3,fun e=>by omega,fun _=>⟨k4,k5⟩,fun e=>by omega,fun _ _=>k6⟩
 ·have:=(key i x hx).1.1.1.1.1.1
  omega
def okE (c:Circ) (given:List Asg):Bool:=match closeF c given with
 |some v=>closeC c given v
 |none=>true
theorem okE_ok {c:Circ} (C:CC c) {given:List Asg} (g:GivOk c given) (h:okE c given=true):clo c given=closeF c given:=by
 unfold okE at h
 cases e:closeF c given with
 |none=>exact closeN_ok C.p C.f3 g e
 |some v=>rw[e] at h;exact closeC_ok C.p C.f3 g h
theorem sat0 {c:Circ} (C:CC c) {given:List Asg} (g:GivOk c given):satO c 0 given=clo c given:=by
 rcases clo_cases C.p C.f3 g with⟨v,D,e⟩|⟨N,e⟩
 ·rw[e];exact lstO_ok satP_len (lst_close D)
 ·rw[e];exact lstO_none fun t T E=>N t (cw_split.2 ⟨T,E⟩)
def leB (v t:List Nat):Bool:=blwL v t
theorem leB_ok {n:Nat}{v t:List Nat} (h:leB v t=true) (ht:t.length=n):LeN n v t:=by
 obtain⟨h1,h2⟩:=blwL_iff.1 h
 exact⟨h1.trans ht,h2⟩
def givB (c:Circ) (given:List Asg):Bool:=(given.all fun a=>Nat.blt a.net c.nodes.length&&Nat.ble a.value 1)&&Nat.ble given.length 1000
theorem givB_ok {c:Circ}{given:List Asg} (h:givB c given=true):GivOk c given:=by
 unfold givB at h
 simp only[Bool.and_eq_true,List.all_eq_true,Nat.blt_eq,Nat.ble_eq] at h
 exact⟨h.1,by omega⟩
def meetF (c:Circ) (v:List Nat) (n:Nat):Option (List Nat):=meetO (closeF c (knownA v++[⟨n,0⟩])) (closeF c (knownA v++[⟨n,1⟩]))
def meetB (c:Circ) (v:List Nat) (n:Nat):Bool:=givB c (knownA v++[⟨n,0⟩])&&givB c (knownA v++[⟨n,1⟩])&&okE c (knownA v++[⟨n,0⟩])&&okE c (knownA v++[⟨n,1⟩])
theorem meetB_ok {c:Circ} (C:CC c) {v:List Nat}{n:Nat} (h:meetB c v n=true):meetO (satO c 0 (knownA v++[⟨n,0⟩])) (satO c 0 (knownA v++[⟨n,1⟩]))=meetF c v n:=by
 unfold meetB at h
 simp only[Bool.and_eq_true] at h
 obtain⟨⟨⟨h1,h2⟩,h3⟩,h4⟩:=h
 rw[sat0 C (givB_ok h1),sat0 C (givB_ok h2),okE_ok C (givB_ok h1) h3,okE_ok C (givB_ok h2) h4]
 rfl
def leOB (o:Option (List Nat)) (t:List Nat):Bool:=match o with
 |some v=>leB v t
 |none=>false
theorem leOB_ok {n:Nat}{o:Option (List Nat)}{t:List Nat} (h:leOB o t=true) (ht:t.length=n):leO n o t:=by
 cases o with
 |none=>cases h
 |some v=>exact⟨v,rfl,leB_ok h ht⟩
def clsB (c:Circ) (v:List Nat):Bool:=givB c (knownA v)&&closeC c (knownA v) v
theorem clsB_ok {c:Circ} (C:CC c) {v:List Nat} (h:clsB c v=true):CW c [] v:=by
 unfold clsB at h
 simp only[Bool.and_eq_true] at h
 exact (cw_split.1 (clo_some (closeC_ok C.p C.f3 (givB_ok h.1) h.2)).cw).1
def sat1B (c:Circ) (v:List Nat):Bool:=clsB c v&&(List.range c.nodes.length).all fun n => !Nat.beq (v.getD n 0) 2||(meetB c v n&&leOB (meetF c v n) v)
theorem sat1B_ok {c:Circ} (C:CC c) {v:List Nat} (h:sat1B c v=true):satP c 1 v:=by
 unfold sat1B at h
 simp only[Bool.and_eq_true,List.all_eq_true,Bool.or_eq_true,Bool.not_eq_true',List.mem_range] at h
 have W:=clsB_ok C h.1
 refine⟨W,fun n hn h2=>?_⟩
 rcases h.2 n hn with q|q
 ·rw[h2] at q;cases q
 ·show leO _ (meetO (satO c 0 _) (satO c 0 _)) v
  rw[meetB_ok C q.1]
  exact leOB_ok q.2 W.len
def extB (given:List Asg) (v:List Nat):Bool:=given.all fun a=>Nat.beq (v.getD a.net 0) a.value
theorem extB_ok {given:List Asg}{v:List Nat} (h:extB given v=true):Ext given v:=fun a m=>Nat.eq_of_beq_eq_true (List.all_eq_true.1 h a m)
def oneB (c:Circ) (given:List Asg) (v0:List Nat) (n:Nat) (w:List Nat):Bool:=givB c given&&closeC c given v0&&Nat.blt n c.nodes.length&&meetB c v0 n&&(match meetF c v0 n with|some z=>eqLs z w|none=>false)&&sat1B c w&&extB given w
theorem oneB_ok {c:Circ} (C:CC c) {given:List Asg}{v0 w:List Nat}{n:Nat} (h:oneB c given v0 n w=true):satO c 1 given=some w:=by
 unfold oneB at h
 simp only[Bool.and_eq_true,Nat.blt_eq] at h
 obtain⟨⟨⟨⟨⟨⟨h1,h2⟩,h3⟩,h4⟩,h5⟩,h6⟩,h7⟩:=h
 have W:=sat1B_ok C h6
 have wl:=satP_len w W
 have D:=clo_some (closeC_ok C.p C.f3 (givB_ok h1) h2)
 refine lstO_ok satP_len ⟨W,extB_ok h7,fun t T E=>?_⟩
 rw[wl]
 have lt:LeN c.nodes.length v0 t:=⟨D.len,D.snd t (cw_split.2 ⟨satP_cw T,E⟩)⟩
 have M:=sat_meet C.p.good.len (d:=0) (fun e he=>by
  have:e=0:=by omega
  subst this;exact satD C (by decide)) T lt D.le h3
 rw[meetB_ok C h4] at M
 obtain⟨z,e,hz⟩:=M
 rw[e] at h5
 rw[← eqLs_iff h5]
 exact hz
def keepF (c:Circ) (i:Nat) (a:Asg):Bool:=neN a.net (i/2)&&match closeF c [⟨a.net,1-a.value⟩] with
 |none=>false
 |some w=>neN (w.getD (i/2) 0) (1-i%2)
def rowF (c:Circ) (i:Nat):List Lawv:=match closeF c [⟨i/2,i%2⟩] with
 |none=>[⟨⟨i/2,i%2⟩,⟨i/2,1-i%2⟩⟩]
 |some v=>((knownA v).filter (keepF c i)).map (lawR i)
def outF (c:Circ):List Lawv:=(List.range (2*c.nodes.length)).flatMap (rowF c)
def onesB (c:Circ):Bool:=(List.range (2*c.nodes.length)).all fun i=>okE c [⟨i/2,i%2⟩]
theorem outF_ok {c:Circ} (C:CC c) (h:onesB c=true):outR c=outF c:=by
 have key:∀ m w,m<c.nodes.length→w≤1→clo c [⟨m,w⟩]=closeF c [⟨m,w⟩]:=fun m w hm hw=>by
  have:=List.all_eq_true.1 h (2*m+w) (List.mem_range.2 (by omega))
  rw[show (2*m+w)/2=m by omega,show (2*m+w)%2=w by omega] at this
  exact okE_ok C (one_giv hm hw) this
 unfold outR outF
 rw[List.flatMap_def,List.flatMap_def]
 congr 1
 refine List.map_congr_left fun i hi=>?_
 have hi:=List.mem_range.1 hi
 unfold rowR rowF
 rw[← key (i/2) (i%2) (by omega) (by omega)]
 cases e:clo c [⟨i/2,i%2⟩] with
 |none=>rfl
 |some v =>
  dsimp only
  congr 1
  refine List.filter_congr fun a m=>?_
  obtain⟨a1,a2,a3⟩:=mem_known.1 m
  have D:=clo_some e
  have:=D.le a.net
  have:=D.len
  unfold keepR keepF
  rw[key a.net (1-a.value) (by omega) (by omega)]
  cases closeF c [⟨a.net,1-a.value⟩] <;> rfl
def c25:Circ:=⟨[⟨0,[],0,0⟩,⟨0,[],0,0⟩,⟨5,[0,1],0,0⟩,⟨4,[0],0,0⟩,⟨5,[3,1],0,0⟩,⟨7,[2,4],0,0⟩],[⟨#[97]⟩,⟨#[98]⟩,⟨#[100]⟩,⟨#[101]⟩,⟨#[102]⟩,⟨#[103]⟩],[],[5]⟩
def h25:Circ:=⟨[⟨0,[],0,0⟩,⟨4,[0],0,0⟩,⟨5,[0,1],0,0⟩],[⟨#[97]⟩,⟨#[98]⟩,⟨#[99]⟩],[],[2]⟩
theorem cc_c25:CC c25:=cc25 (by decide +kernel) (by decide) (by decide) rfl (by decide +kernel) (by decide +kernel) rfl (by decide) (by decide)
theorem cc_h25:CC h25:=cc25 (by decide +kernel) (by decide) (by decide) rfl (by decide +kernel) (by decide +kernel) rfl (by decide) (by decide)
theorem e1:satO c25 0 [⟨5,1⟩]=some [2,2,2,2,2,1]:=by
 rw[sat0 cc_c25 (givB_ok (by decide +kernel))]
 exact closeC_ok cc_c25.p cc_c25.f3 (givB_ok (by decide +kernel)) (by decide +kernel)
theorem e2:satO c25 1 [⟨5,1⟩]=some [2,1,2,2,2,1]:=oneB_ok cc_c25 (v0:=[2,2,2,2,2,1]) (n:=1) (by decide +kernel)
theorem e3:outR c25=[⟨⟨5,1⟩,⟨1,1⟩⟩]:=by
 rw[outF_ok cc_c25 (by decide +kernel)];rfl
theorem e4:outR h25=[⟨⟨2,1⟩,⟨2,0⟩⟩]:=by
 rw[outF_ok cc_h25 (by decide +kernel)];rfl
theorem e5:satO h25 1 []=some [2,2,0]:=oneB_ok cc_h25 (v0:=[2,2,2]) (n:=0) (by decide +kernel)
theorem e6:lawO h25 [⟨⟨2,1⟩,⟨2,0⟩⟩] [⟨2,1⟩]=none:=lstO_none fun t T E=>by
 have h1:=E ⟨2,1⟩ (List.mem_singleton.2 rfl)
 have h2:=T.2 _ (List.mem_singleton.2 rfl) h1
 dsimp only at h1 h2
 omega
theorem e7:lawO c25 [⟨⟨0,1⟩,⟨1,1⟩⟩] [⟨0,1⟩]=some [1,1,1,0,0,1]:=by
 refine lstO_ok lawP_len ⟨⟨clsB_ok cc_c25 (by decide +kernel),fun l m _=>by rw[List.mem_singleton.1 m];rfl⟩,fun a m=>by rw[List.mem_singleton.1 m];rfl,fun t T E=>?_⟩
 have h1:=E ⟨0,1⟩ (List.mem_singleton.2 rfl)
 have h2:=T.2 _ (List.mem_singleton.2 rfl) h1
 have D:=clo_some (closeC_ok cc_c25.p cc_c25.f3 (given:=[⟨0,1⟩,⟨1,1⟩]) (v:=[1,1,1,0,0,1]) (givB_ok (by decide +kernel)) (by decide +kernel))
 refine⟨rfl,D.snd t (cw_split.2 ⟨T.1,fun a m=>?_⟩)⟩
 rcases List.mem_cons.1 m with rfl|m
 ·exact h1
 ·rw[List.mem_singleton.1 m];exact h2
theorem lives25_vc {K:Bool→Prop} (k:K true):probecardlaw25_lives_wp K:=by
 unfold probecardlaw25_lives_wp probecardlaw25_example_wp probecardlaw25_at_wp
 refine⟨rfl,lSaturate_vc cc_c25 (by decide) (givB_ok (by decide +kernel)) ?_⟩
 rw[e1]
 refine⟨rfl,lSaturate_vc cc_c25 (by decide) (givB_ok (by decide +kernel)) ?_⟩
 rw[e2]
 refine static_vc cc_c25 fun l1 hp1 _=>?_
 obtain rfl:l1=[⟨⟨5,1⟩,⟨1,1⟩⟩]:=by rw[e3] at hp1;exact List.perm_singleton.1 hp1
 refine static_vc cc_h25 fun l2 hp2 _=>?_
 obtain rfl:l2=[⟨⟨2,1⟩,⟨2,0⟩⟩]:=by rw[e4] at hp2;exact List.perm_singleton.1 hp2
 refine lSaturate_vc cc_h25 (by decide) (givB_ok (by decide +kernel)) ?_
 rw[e5]
 refine joinB (a:=false) (fun F=>⟨fun e=>absurd rfl (ne_t.1 e),fun _=>⟨fun e=>absurd rfl (ne_t.1 e),fun _=>⟨fun e=>absurd rfl (ne_t.1 e),fun _=>⟨fun e=>absurd rfl (ne_t.1 e),fun _=>⟨fun e=>absurd rfl (ne_t.1 e),fun _ =>
  equal_vc (a:=[2,2,2,2,2,1]) (x:=true) (by decide) ⟨(fun e=>by cases e),fun _=>equal_vc (a:=[2,1,2,2,2,1]) (x:=true) (by decide) ⟨(fun e=>by cases e),fun _=>equal_vc (a:=[2,2,0]) (x:=true) (by decide) F⟩⟩⟩⟩⟩⟩⟩) ⟨(fun e=>by cases e),fun _=>?_⟩
 refine joinB (a:=false) (fun F=>⟨fun e=>absurd rfl (ne_t.1 e),fun _=>⟨_,rfl,(fun e=>by cases e),fun _=>⟨fun e=>absurd rfl (ne_t.1 e),fun _=>⟨_,rfl,F⟩⟩⟩⟩) ⟨(fun e=>by cases e),fun _=>?_⟩
 refine⟨rfl,lClose_vc cc_h25 ⟨fun l m=>?_,by decide⟩ (givB_ok (by decide +kernel)) (by decide) ?_⟩
 ·rw[List.mem_singleton.1 m];decide
 rw[e6]
 refine⟨rfl,rfl,lClose_vc cc_c25 ⟨fun l m=>?_,by decide⟩ (givB_ok (by decide +kernel)) (by decide) ?_⟩
 ·rw[List.mem_singleton.1 m];decide
 rw[e7]
 exact⟨fun _=>⟨fun _=>⟨fun _=>equal_vc (a:=[1,1,1,0,0,1]) (x:=true) (by decide) k,fun e=>absurd rfl (eq_f.1 e)⟩,(fun e=>by cases e)⟩,fun e=>absurd rfl (eq_f.1 e)⟩
structure U4 where
 a:Nat
 b:Nat
 c:Nat
 d:Nat
structure Z2 where
 a:Int
 b:Int
theorem law25_livesF:FnV Tryz.prog NG vars 23 ⟨[]⟩ (.bool true):=FnV.of_walk (enc:=Value.bool) (r:=true) (PureV.flat rfl) fun _h hB=>probecardlaw25_lives_walk (K:=fun r=>r=true) (lives25_vc rfl) hB
def law25_lives_wp (K:Bool→Prop):Prop:=K true
theorem law25_lives_walk {K:Bool→Prop} (hm:law25_lives_wp K) {h0:Heap} (hB:HasB vars h0):∃ r,K r∧CallD Tryz.prog NG 23 ⟨[]⟩ h0 (Value.bool r) h0:=law25_livesF.walk (enc:=Value.bool) hm hB
set_option maxHeartbeats 8000000
def probecardlaw25_LearnsStatic_wp (p0:CData) (K:Bool→Prop):Prop :=
 law24_Plain_wp p0 (fun r1=>learns_Static_wp r1 (fun r4=>((neN r4.2 0)=true→K false)∧((neN r4.2 0)=false→joinW (α:=Nat) (fun k6=>loopW (S:=(Nat×Nat)) (fun (v7,v8) nx9=>((ltN v8 r1.nodes.length)=true→joinW (α:=Nat) (fun k11=>loopW (S:=(Nat×Nat)) (fun (v12,v13) nx14=>((ltN v13 2)=true→joinW (α:=Nat) (fun k16=>probecardlaw25_at_wp v8 v13 (fun r17=>1=([r17]:(List Asg)).length∧implies_Close_wp r1 ([r17]:(List Asg)) (fun r20=>loopW (S:=(Nat×Nat)) (fun (v22,v23) nx24=>((ltN v23 r1.nodes.length)=true→joinW (α:=Nat) (fun k26=>loopW (S:=(Nat×Nat)) (fun (v27,v28) nx29=>((ltN v28 2)=true→joinW (α:=Nat) (fun k31=>joinW (α:=Bool) (fun k33=>((eqN v8 v23)=true→((!r20.2.1)=true→v13≤1∧1<256∧k33 (eqN v28 (1-v13)))∧((!r20.2.1)=false→k33 false))∧((eqN v8 v23)=false→joinW (α:=Bool) (fun k35=>(r20.2.1=true→k35 (eqN r20.1.length r1.nodes.length))∧(r20.2.1=false→k35 false)) (fun v34=>(v34=true→v28≤1∧1<256∧probecardlaw25_at_wp v23 (1-v28) (fun r36=>1=([r36]:(List Asg)).length∧implies_Close_wp r1 ([r36]:(List Asg)) (fun r39=>(r39.2.1=true→((eqN r39.1.length r1.nodes.length)=true→∃ x41,r39.1[v8]?=some x41∧v13≤1∧1<256∧((eqN x41 (1-v13))=true→∃ x42,r20.1[v23]?=some x42∧k33 (neN x42 v28))∧((eqN x41 (1-v13))=false→k33 false))∧((eqN r39.1.length r1.nodes.length)=false→k33 false))∧(r39.2.1=false→k33 false))))∧(v34=false→k33 false)))) (fun v32=>((!v32)=true→k31 v27)∧((!v32)=false→joinW (α:=Bool) (fun k44=>((!ltN v27 r4.1.length)=true→k44 true)∧((!ltN v27 r4.1.length)=false→∃ x45,r4.1[v27]?=some x45∧probecardlaw25_at_wp v8 v13 (fun r46=>((!((eqN x45.cond.net r46.net)&&((eqN x45.cond.value r46.value)&&true)))=true→k44 true)∧((!((eqN x45.cond.net r46.net)&&((eqN x45.cond.value r46.value)&&true)))=false→∃ x47,r4.1[v27]?=some x47∧probecardlaw25_at_wp v23 v28 (fun r48=>k44 (!((eqN x47.thn.net r48.net)&&((eqN x47.thn.value r48.value)&&true)))))))) (fun v43=>(v43=true→K false)∧(v43=false→v27+1<2 ^ 63∧k31 (v27+1)))))) (fun v30=>v28+1<256∧nx29 (v30,(v28+1))))∧((ltN v28 2)=false→k26 v27)) (v22,0)) (fun v25=>v23+1<2 ^ 63∧nx24 (v25,(v23+1))))∧((ltN v23 r1.nodes.length)=false→k16 v22)) (v12,0)))) (fun v15=>v13+1<256∧nx14 (v15,(v13+1))))∧((ltN v13 2)=false→k11 v12)) (v7,0)) (fun v10=>v8+1<2 ^ 63∧nx9 (v10,(v8+1))))∧((ltN v8 r1.nodes.length)=false→k6 v7)) (0,0)) (fun v5=>((eqN v5 r4.1.length)=true→law25_lives_wp  (fun r49=>K r49))∧((eqN v5 r4.1.length)=false→K false)))))
theorem probecardlaw25_LearnsStatic_walk {p0:CData}{K:Bool→Prop} (hm:probecardlaw25_LearnsStatic_wp p0 K) {h0:Heap} (hB:HasB vars h0):∃ r,K r∧CallD Tryz.prog NG 4 ⟨[encC p0]⟩ h0 (Value.bool r) h0:=by
 unfold probecardlaw25_LearnsStatic_wp at hm
 refine fw Tryz.func4 hB (enc:=Value.bool) (fun r=>PureV.flat rfl) fun O=>?_;conv=>whnf
 refine gX ?_
 refine fz ?_;refine gX ?_
 refine ca (law24_Plain_walk hm O.has) fun r1 hm=>?_;refine gH ?_
 refine O.new (anew_alloc (l:=[(.slice none 0 0),(.slice none 0 0),(.slice none 0 0),(.slice none 0 0)]) rfl rfl rfl) fun g2 h O=>?_;refine gH ?_
 refine O.stC 4 (.head _) [((encL 4 encNode) r1.nodes),((encL 1 Value.string) r1.names),((encL 3 encMem) r1.mems),((encL 1 i64) r1.outs)] fun h O=>?_;refine gX ?_
 refine ldA (O.at (.head _)) ?_;refine gH ?_
 refine ca (learns_Static_walk hm O.has) fun r4 hm=>?_;refine gX ?_
 refine br hm (fun hm=>?_) fun hm=>?_
 ·refine gX ?_
  exact fe hm O
 ·apply Cs;conv=>whnf
  apply Cs;conv=>whnf
  apply Cs;refine gH ?_
  refine jn hm 153 [4] (fun s=>s) (fun v5 h=>Own vars h0 [] h) (fun v5=>[(6,(i64 v5))]) (fun hm=>?_) ?_
  ·refine gX ?_
   refine lw 153 [3,4] (σ:=(Nat×Nat)) (fun s=>s) (fun (v7,v8) h=>Own vars h0 [((some g2),.cells [((encL 4 encNode) r1.nodes),((encL 1 Value.string) r1.names),((encL 3 encMem) r1.mems),((encL 1 i64) r1.outs)] false)] h) (fun (v7,v8)=>[(6,(i64 v7)),(7,(i64 v8))]) (0,0) hm O ?_
   clear hm;rintro⟨v7,v8⟩ nx9 base h hm O
   refine gX ?_
   refine br hm (fun hm=>?_) fun hm=>?_
   ·apply Cs;conv=>whnf
    refine jn hm 153 [3,4,7] (fun s=>s) (fun v10 h=>Own vars h0 [((some g2),.cells [((encL 4 encNode) r1.nodes),((encL 1 Value.string) r1.names),((encL 3 encMem) r1.mems),((encL 1 i64) r1.outs)] false)] h) (fun v10=>[(6,(i64 v10))]) (fun hm=>?_) ?_
    ·refine gX ?_
     refine lw 153 [3,4,7] (σ:=(Nat×Nat)) (fun s=>s) (fun (v12,v13) h=>Own vars h0 [((some g2),.cells [((encL 4 encNode) r1.nodes),((encL 1 Value.string) r1.names),((encL 3 encMem) r1.mems),((encL 1 i64) r1.outs)] false)] h) (fun (v12,v13)=>[(6,(i64 v12)),(8,(n8 v13))]) (v7,0) hm O ?_
     clear hm;rintro⟨v12,v13⟩ nx14 base h hm O
     refine gX ?_
     refine br hm (fun hm=>?_) fun hm=>?_
     ·apply Cs;conv=>whnf
      refine jn hm 153 [3,4,7,8] (fun s=>s) (fun v15 h=>Own vars h0 [((some g2),.cells [((encL 4 encNode) r1.nodes),((encL 1 Value.string) r1.names),((encL 3 encMem) r1.mems),((encL 1 i64) r1.outs)] false)] h) (fun v15=>[(6,(i64 v15))]) (fun hm=>?_) ?_
      ·refine gX ?_
       refine ldA (O.at (.head _)) ?_;refine gH ?_
       first|refine⟨.inr (.inr (loadAggK rfl (O.at (.head _)) rfl rfl (lbE rfl) rfl)),?_⟩|refine⟨.inr (.inl (by kernel_rfl)),?_⟩
       refine gX ?_
       refine ca (probecardlaw25_at_walk hm O.has) fun r17 hm=>?_;refine gH ?_
       refine⟨.inl (Ext.refl _),?_⟩;refine gH ?_
       refine O.buildLX (l:=([r17]:(List Asg))) (enc:=encAsg) (s:=2) (z:=(.agg ⟨[(i64 0),(n8 0)]⟩)) rfl rfl (by kernel_rfl) (by kernel_rfl) rfl rfl rfl rfl (fun _=>rfl) fun g18 h O=>?_;refine gH ?_
       obtain⟨hn21,hm⟩:=hm
       refine O.useL (fun _ hb=>implies_Close_walk hm hb) (.head _) hn21 (fun _=>rfl) (i:=1) rfl (by kernel_rfl) (fun h2 q=>(LLe.cons (VLe.refl _ _) (LLe.cons (q) (LLe.nil _)))) (fun r20 h hm' O=>?_);replace hm:=hm';refine gH ?_
       refine⟨.inr (by kernel_rfl),?_⟩;refine gH ?_
       refine gX ?_
       refine lw 153 [3,4,7,8,9,10] (σ:=(Nat×Nat)) (fun s=>s) (fun (v22,v23) h=>Own vars h0 [((some g2),.cells [((encL 4 encNode) r1.nodes),((encL 1 Value.string) r1.names),((encL 3 encMem) r1.mems),((encL 1 i64) r1.outs)] false)] h) (fun (v22,v23)=>[(6,(i64 v22)),(12,(i64 v23))]) (v12,0) hm (O.sel [1] (by decide)) ?_
       clear hm;rintro⟨v22,v23⟩ nx24 base h hm O
       refine gX ?_
       refine br hm (fun hm=>?_) fun hm=>?_
       ·apply Cs;conv=>whnf
        refine jn hm 153 [3,4,7,8,9,10,12] (fun s=>s) (fun v25 h=>Own vars h0 [((some g2),.cells [((encL 4 encNode) r1.nodes),((encL 1 Value.string) r1.names),((encL 3 encMem) r1.mems),((encL 1 i64) r1.outs)] false)] h) (fun v25=>[(6,(i64 v25))]) (fun hm=>?_) ?_
        ·refine gX ?_
         refine lw 153 [3,4,7,8,9,10,12] (σ:=(Nat×Nat)) (fun s=>s) (fun (v27,v28) h=>Own vars h0 [((some g2),.cells [((encL 4 encNode) r1.nodes),((encL 1 Value.string) r1.names),((encL 3 encMem) r1.mems),((encL 1 i64) r1.outs)] false)] h) (fun (v27,v28)=>[(6,(i64 v27)),(13,(n8 v28))]) (v22,0) hm O ?_
         clear hm;rintro⟨v27,v28⟩ nx29 base h hm O
         refine gX ?_
         refine br hm (fun hm=>?_) fun hm=>?_
         ·apply Cs;conv=>whnf
          refine jn hm 153 [3,4,7,8,9,10,12,13] (fun s=>s) (fun v30 h=>Own vars h0 [((some g2),.cells [((encL 4 encNode) r1.nodes),((encL 1 Value.string) r1.names),((encL 3 encMem) r1.mems),((encL 1 i64) r1.outs)] false)] h) (fun v30=>[(6,(i64 v30))]) (fun hm=>?_) ?_
          ·apply Cs;conv=>whnf
           apply Cs;conv=>whnf
           apply Cs;refine gH ?_
           refine jn hm 153 [3,4,6,7,8,9,10,12,13] (fun s=>s) (fun v32 h=>Own vars h0 [((some g2),.cells [((encL 4 encNode) r1.nodes),((encL 1 Value.string) r1.names),((encL 3 encMem) r1.mems),((encL 1 i64) r1.outs)] false)] h) (fun v32=>[(14,(.bool v32))]) (fun hm=>?_) ?_
           ·refine gX ?_
            refine br hm (fun hm=>?_) fun hm=>?_
            ·refine gX ?_
             refine br hm (fun hm=>?_) fun hm=>?_
             ·refine gX ?_
              refine aSub8 hm fun hm=>?_;refine gH ?_
              exact jx (eqN v28 (1-v13)) hm O
             ·refine gX ?_
              exact jx false hm O
            ·refine jn hm 153 [3,4,6,7,8,9,10,12,13,14] (fun s=>s) (fun v34 h=>Own vars h0 [((some g2),.cells [((encL 4 encNode) r1.nodes),((encL 1 Value.string) r1.names),((encL 3 encMem) r1.mems),((encL 1 i64) r1.outs)] false)] h) (fun v34=>[(78,(.bool v34))]) (fun hm=>?_) ?_
             ·refine gX ?_
              refine br hm (fun hm=>?_) fun hm=>?_
              ·refine gX ?_
               exact jx (eqN r20.1.length r1.nodes.length) hm O
              ·refine gX ?_
               exact jx false hm O
             ·clear hm;rintro v34 base h hm O
              refine gX ?_
              refine br hm (fun hm=>?_) fun hm=>?_
              ·refine gX ?_
               refine ldA (O.at (.head _)) ?_;refine gH ?_
               first|refine⟨.inr (.inr (loadAggK rfl (O.at (.head _)) rfl rfl (lbE rfl) rfl)),?_⟩|refine⟨.inr (.inl (by kernel_rfl)),?_⟩
               refine gX ?_
               refine aSub8 hm fun hm=>?_;refine gH ?_
               refine ca (probecardlaw25_at_walk hm O.has) fun r36 hm=>?_;refine gH ?_
               refine⟨.inl (Ext.refl _),?_⟩;refine gH ?_
               refine O.buildLX (l:=([r36]:(List Asg))) (enc:=encAsg) (s:=2) (z:=(.agg ⟨[(i64 0),(n8 0)]⟩)) rfl rfl (by kernel_rfl) (by kernel_rfl) rfl rfl rfl rfl (fun _=>rfl) fun g37 h O=>?_;refine gH ?_
               obtain⟨hn40,hm⟩:=hm
               refine O.useL (fun _ hb=>implies_Close_walk hm hb) (.head _) hn40 (fun _=>rfl) (i:=1) rfl (by kernel_rfl) (fun h2 q=>(LLe.cons (VLe.refl _ _) (LLe.cons (q) (LLe.nil _)))) (fun r39 h hm' O=>?_);replace hm:=hm';refine gH ?_
               refine⟨.inr (by kernel_rfl),?_⟩;refine gH ?_
               refine gX ?_
               refine br hm (fun hm=>?_) fun hm=>?_
               ·refine gX ?_
                refine br hm (fun hm=>?_) fun hm=>?_
                ·refine gX ?_
                 refine atF hm fun x41 hx41 hm=>?_;refine gH ?_
                 refine aSub8 hm fun hm=>?_;refine gH ?_
                 refine br hm (fun hm=>?_) fun hm=>?_
                 ·refine gX ?_
                  refine atF hm fun x42 hx42 hm=>?_;refine gH ?_
                  exact jx (neN x42 v28) hm (O.sel [1] (by decide))
                 ·refine gX ?_
                  exact jx false hm (O.sel [1] (by decide))
                ·refine gX ?_
                 refine bf ?_;refine gH ?_
                 exact jx false hm (O.sel [1] (by decide))
               ·refine gX ?_
                refine bf ?_;refine gH ?_
                refine bf ?_;refine gH ?_
                exact jx false hm (O.sel [1] (by decide))
              ·refine gX ?_
               exact jx false hm O
           ·clear hm;rintro v32 base h hm O
            refine gX ?_
            refine br hm (fun hm=>?_) fun hm=>?_
            ·refine gX ?_
             exact jx v27 hm O
            ·apply Cs;conv=>whnf
             apply Cs;conv=>whnf
             refine jn hm 153 [3,4,6,7,8,9,10,12,13] (fun s=>s) (fun v43 h=>Own vars h0 [((some g2),.cells [((encL 4 encNode) r1.nodes),((encL 1 Value.string) r1.names),((encL 3 encMem) r1.mems),((encL 1 i64) r1.outs)] false)] h) (fun v43=>[(143,(.bool v43))]) (fun hm=>?_) ?_
             ·refine gX ?_
              refine br hm (fun hm=>?_) fun hm=>?_
              ·refine gX ?_
               refine bt ?_;refine gH ?_
               exact jx true hm O
              ·refine gX ?_
               refine atF hm fun x45 hx45 hm=>?_;refine gH ?_
               first|refine⟨.inr (.inr (rfl)),?_⟩|refine⟨.inr (.inl (by kernel_rfl)),?_⟩
               refine gX ?_
               refine ca (probecardlaw25_at_walk hm O.has) fun r46 hm=>?_;refine gH ?_
               refine⟨.inl (Ext.refl _),?_⟩;refine gH ?_
               refine⟨.bool (!((eqN x45.cond.net r46.net)&&((eqN x45.cond.value r46.value)&&true))),by kernel_rfl,?_⟩;refine gH ?_
               refine br hm (fun hm=>?_) fun hm=>?_
               ·refine gX ?_
                exact jx true hm O
               ·refine gX ?_
                refine atF hm fun x47 hx47 hm=>?_;refine gH ?_
                first|refine⟨.inr (.inr (rfl)),?_⟩|refine⟨.inr (.inl (by kernel_rfl)),?_⟩
                refine gX ?_
                refine ca (probecardlaw25_at_walk hm O.has) fun r48 hm=>?_;refine gH ?_
                refine⟨.inl (Ext.refl _),?_⟩;refine gH ?_
                refine⟨.bool (!((eqN x47.thn.net r48.net)&&((eqN x47.thn.value r48.value)&&true))),by kernel_rfl,?_⟩;refine gH ?_
                exact jx (!((eqN x47.thn.net r48.net)&&((eqN x47.thn.value r48.value)&&true))) hm O
             ·clear hm;rintro v43 base h hm O
              refine gX ?_
              refine br hm (fun hm=>?_) fun hm=>?_
              ·refine gX ?_
               exact fe hm O
              ·refine gX ?_
               refine aAdd hm fun hm=>?_;refine gH ?_
               exact jx (v27+1) hm O
          ·clear hm;rintro v30 base h hm O
           refine gX ?_
           refine⟨_,addU8K (a:=v28) (b:=1) rfl rfl hm.1,?_⟩;refine gH ?_
           replace hm:=hm.2
           exact jx (v30,(v28+1)) hm O
         ·refine gX ?_
          exact jx v27 hm O
        ·clear hm;rintro v25 base h hm O
         refine gX ?_
         refine aAdd hm fun hm=>?_;refine gH ?_
         exact jx (v25,(v23+1)) hm O
       ·refine gX ?_
        exact jx v22 hm O
      ·clear hm;rintro v15 base h hm O
       refine gX ?_
       refine⟨_,addU8K (a:=v13) (b:=1) rfl rfl hm.1,?_⟩;refine gH ?_
       replace hm:=hm.2
       exact jx (v15,(v13+1)) hm O
     ·refine gX ?_
      exact jx v12 hm O
    ·clear hm;rintro v10 base h hm O
     refine gX ?_
     refine aAdd hm fun hm=>?_;refine gH ?_
     exact jx (v10,(v8+1)) hm O
   ·refine gX ?_
    exact jx v7 hm (O.sel [] (by decide))
  ·clear hm;rintro v5 base h hm O
   refine gX ?_
   refine br hm (fun hm=>?_) fun hm=>?_
   ·refine gX ?_
    refine ca (law25_lives_walk hm O.has) fun r49 hm=>?_;refine gX ?_
    exact fe hm O
   ·refine gX ?_
    exact fe hm O
theorem mem_outR {c:Circ}{l:Lawv}:l∈outR c ↔ ∃ i,i<2*c.nodes.length∧((clo c [⟨i/2,i%2⟩]=none∧l=⟨⟨i/2,i%2⟩,⟨i/2,1-i%2⟩⟩)∨∃ v a,clo c [⟨i/2,i%2⟩]=some v∧a∈knownA v∧keepR c i a=true∧l=lawR i a):=by
 unfold outR
 rw[List.mem_flatMap]
 constructor
 ·rintro⟨i,hi,m⟩
  refine⟨i,List.mem_range.1 hi,?_⟩
  unfold rowR at m
  cases h:clo c [⟨i/2,i%2⟩] with
  |none =>
   rw[h] at m
   exact .inl ⟨rfl,List.mem_singleton.1 m⟩
  |some v =>
   rw[h] at m
   obtain⟨a,k,rfl⟩:=List.mem_map.1 m
   rw[List.mem_filter] at k
   exact .inr ⟨v,a,rfl,k.1,k.2,rfl⟩
 ·rintro⟨i,hi,h⟩
  refine⟨i,List.mem_range.2 hi,?_⟩
  unfold rowR
  rcases h with⟨h,rfl⟩|⟨v,a,h,m,k,rfl⟩
  ·rw[h];exact List.mem_singleton.2 rfl
  ·rw[h]
   exact List.mem_map.2 ⟨a,List.mem_filter.2 ⟨m,k⟩,rfl⟩
theorem outR_ok {c:Circ} (C:CC c) {laws:List Lawv} (h:laws.Perm (outR c)):LawsOk c laws:=by
 refine⟨fun l m=>?_,?_⟩
 ·obtain⟨i,hi,⟨_,rfl⟩|⟨v,a,hv,ha,_,rfl⟩⟩:=mem_outR.1 (h.mem_iff.1 m)
  ·exact⟨⟨by dsimp only;omega,by dsimp only;omega⟩,by dsimp only;omega,by dsimp only;omega⟩
  ·obtain⟨a1,a2,a3⟩:=mem_known.1 ha
   rw[(clo_some hv).len] at a1
   exact⟨⟨a1,by unfold lawR;dsimp only;omega⟩,by unfold lawR;dsimp only;omega,by unfold lawR;dsimp only;omega⟩
 ·rw[h.length_eq]
  have:=outP_len C (2*c.nodes.length)
  have:=C.p.good.len
  unfold outR
  omega
theorem cc_circ (x:CData):CC (circN (plainC x)):=⟨pln_circ x,circ_few3 rfl⟩
theorem plain24_vc {x:CData} (hx:CB x) {K:Circ→Prop} (h:K (circN (plainC x))):law24_Plain_wp x K:=by
 unfold law24_Plain_wp
 exact of_circ_vc (x:=plainC x) (plainC_ok hx) h
noncomputable def wantB (c:Circ) (m w n v:Nat):Bool:=match eqN m n with
 |true=>match clo c [⟨m,w⟩] with
  |none=>eqN v (1-w)
  |some _=>false
 |false=>match clo c [⟨m,w⟩] with
  |none=>false
  |some f=>match clo c [⟨n,1-v⟩] with
   |none=>false
   |some b=>match eqN (b.getD m 0) (1-w) with
    |true=>neN (f.getD n 0) v
    |false=>false
noncomputable def itemS (c:Circ) (m w n v:Nat):List Lawv:=match wantB c m w n v with
 |true=>[⟨⟨m,w⟩,⟨n,v⟩⟩]
 |false=>[]
noncomputable def enV (c:Circ) (m w n:Nat):List Lawv:=(List.range 2).flatMap (itemS c m w n)
noncomputable def enN (c:Circ) (m w:Nat):List Lawv:=(List.range c.nodes.length).flatMap (enV c m w)
noncomputable def enW (c:Circ) (m:Nat):List Lawv:=(List.range 2).flatMap (enN c m)
noncomputable def enS (c:Circ):List Lawv:=(List.range c.nodes.length).flatMap (enW c)
theorem mem_itemS {c:Circ}{m w n v:Nat}{l:Lawv}:l∈itemS c m w n v↔wantB c m w n v=true∧l=⟨⟨m,w⟩,⟨n,v⟩⟩:=by
 unfold itemS
 cases wantB c m w n v <;> simp
theorem mem_enS {c:Circ}{l:Lawv}:l∈enS c↔(l.cond.net<c.nodes.length∧l.cond.value<2)∧(l.thn.net<c.nodes.length∧l.thn.value<2)∧wantB c l.cond.net l.cond.value l.thn.net l.thn.value=true:=by
 unfold enS enW enN enV
 simp only[List.mem_flatMap,List.mem_range,mem_itemS]
 constructor
 ·rintro⟨m,hm,w,hw,n,hn,v,hv,h,rfl⟩
  exact⟨⟨hm,hw⟩,⟨hn,hv⟩,h⟩
 ·rintro⟨⟨h1,h2⟩,⟨h3,h4⟩,h5⟩
  exact⟨_,h1,_,h2,_,h3,_,h4,h5,rfl⟩
theorem range_sorted (n:Nat):(List.range n).Pairwise (· < ·):=List.pairwise_lt_range
theorem enS_sorted (c:Circ):(enS c).Pairwise fun x y=>cfLaw x y<0:=by
 have inV:∀ {m w n v:Nat} {l:Lawv},l∈itemS c m w n v→l=⟨⟨m,w⟩,⟨n,v⟩⟩:=fun h=>(mem_itemS.1 h).2
 have inVs:∀ {m w n:Nat} {l:Lawv},l∈enV c m w n→l.cond=⟨m,w⟩∧l.thn.net=n:=fun h=>by
  obtain⟨v,_,h⟩:=List.mem_flatMap.1 h
  rw[inV h];exact⟨rfl,rfl⟩
 have inNs:∀ {m w:Nat} {l:Lawv},l∈enN c m w→l.cond=⟨m,w⟩:=fun h=>by
  obtain⟨v,_,h⟩:=List.mem_flatMap.1 h
  exact (inVs h).1
 have inWs:∀ {m:Nat} {l:Lawv},l∈enW c m→l.cond.net=m:=fun h=>by
  obtain⟨v,_,h⟩:=List.mem_flatMap.1 h
  rw[inNs h]
 unfold enS
 rw[List.pairwise_flatMap]
 refine⟨fun m _=>?_,(range_sorted _).imp fun {a b} hab x hx y hy=>cfLaw_neg.2 (.inl (.inl (by rw[inWs hx,inWs hy];exact hab)))⟩
 unfold enW
 rw[List.pairwise_flatMap]
 refine⟨fun w _=>?_,(range_sorted _).imp fun {a b} hab x hx y hy=>cfLaw_neg.2 (.inl (.inr (by rw[inNs hx,inNs hy];exact⟨rfl,hab⟩)))⟩
 unfold enN
 rw[List.pairwise_flatMap]
 refine⟨fun n _=>?_,(range_sorted _).imp fun {a b} hab x hx y hy=>cfLaw_neg.2 (.inr ⟨(inVs hx).1.trans (inVs hy).1.symm,.inl (by rw[(inVs hx).2,(inVs hy).2];exact hab)⟩)⟩
 unfold enV
 rw[List.pairwise_flatMap]
 refine⟨fun v _=>?_,(range_sorted _).imp fun {a b} hab x hx y hy=>cfLaw_neg.2 (.inr ⟨by rw[inV hx,inV hy],.inr (by rw[inV hx,inV hy];exact⟨rfl,hab⟩)⟩)⟩
 unfold itemS
 cases wantB c m w n v
 ·exact List.Pairwise.nil
 ·exact List.pairwise_singleton _ _
theorem cfLaw_lt_irrefl {x:Lawv}:¬ cfLaw x x<0:=by rw[cfLaw_neg];omega
theorem cfLaw_asymm {x y:Lawv} (h:cfLaw x y<0):¬ cfLaw y x<0:=by
 rw[cfLaw_neg] at h ⊢
 simp only[asg_eq] at h ⊢
 omega
theorem lawLe_antisymm {x y:Lawv} (h:lawLe x y) (k:lawLe y x):x=y:=by
 unfold lawLe at h k
 rw[cfLaw_neg] at h k
 cases x with
 |mk a b=>cases y with
  |mk a' b' =>
   cases a;cases b;cases a';cases b'
   simp only[asg_eq,Lawv.mk.injEq] at h k ⊢
   omega
theorem mem_outR' {c:Circ}{l:Lawv}:l∈outR c↔l∈enS c:=by
 rw[mem_enS]
 have hk1:∀ {i:Nat} {v:List Nat} {a:Asg},clo c [⟨i/2,i%2⟩]=some v→a∈knownA v→a.net<c.nodes.length∧a.value≤1∧v.getD a.net 0=a.value:=fun {i v a} hv ha=>by
  obtain⟨a1,a2,a3⟩:=mem_known.1 ha
  have D:=clo_some hv
  have:=D.le a.net
  have:=D.len
  exact⟨by omega,by omega,a3.symm⟩
 constructor
 ·intro hl
  obtain⟨i,hi,⟨h,rfl⟩|⟨v,a,hv,ha,hk,rfl⟩⟩:=mem_outR.1 hl
  ·dsimp only
   refine⟨⟨by omega,by omega⟩,⟨by omega,by omega⟩,?_⟩
   unfold wantB
   rw[eq_t.2 rfl]
   dsimp only
   rw[h]
   exact eq_t.2 rfl
  ·obtain⟨a1,a2,a3⟩:=hk1 hv ha
   unfold lawR
   dsimp only
   refine⟨⟨by omega,by omega⟩,⟨by omega,by omega⟩,?_⟩
   unfold keepR at hk
   rw[Bool.and_eq_true] at hk
   obtain⟨hk,hk2⟩:=hk
   unfold wantB
   rw[eq_f.2 (ne_t.1 hk)]
   dsimp only
   cases hc:clo c [⟨a.net,1-a.value⟩] with
   |none=>rw[hc] at hk2;cases hk2
   |some f =>
    rw[hc] at hk2
    dsimp only at hk2 ⊢
    rw[show 1-(1-i%2)=i%2 by omega,hv]
    dsimp only
    rw[show 1-(1-a.value)=a.value by omega,eq_t.2 a3]
    exact hk2
 ·rintro⟨⟨h1,h2⟩,⟨h3,h4⟩,h5⟩
  rw[mem_outR]
  obtain⟨⟨m,w⟩,⟨n,v⟩⟩:=l
  dsimp only at h1 h2 h3 h4 h5
  unfold wantB at h5
  cases e:eqN m n with
  |true =>
   rw[e] at h5
   dsimp only at h5
   have e:=eq_t.1 e
   subst e
   cases hc:clo c [⟨m,w⟩] with
   |some f=>rw[hc] at h5;cases h5
   |none =>
    rw[hc] at h5
    have h5:=eq_t.1 h5
    refine⟨2*m+w,by omega,.inl ?_⟩
    rw[show (2*m+w)/2=m by omega,show (2*m+w)%2=w by omega]
    exact⟨hc,by rw[h5]⟩
  |false =>
   rw[e] at h5
   dsimp only at h5
   have e:=eq_f.1 e
   cases hc:clo c [⟨m,w⟩] with
   |none=>rw[hc] at h5;cases h5
   |some f =>
    rw[hc] at h5
    dsimp only at h5
    cases hd:clo c [⟨n,1-v⟩] with
    |none=>rw[hd] at h5;cases h5
    |some b =>
     rw[hd] at h5
     dsimp only at h5
     cases hb:eqN (b.getD m 0) (1-w) with
     |false=>rw[hb] at h5;cases h5
     |true =>
      rw[hb] at h5
      dsimp only at h5
      have hb:=eq_t.1 hb
      refine⟨2*n+(1-v),by omega,.inr ⟨b,⟨m,1-w⟩,?_⟩⟩
      unfold keepR lawR
      rw[show (2*n+(1-v))/2=n by omega,show (2*n+(1-v))%2=1-v by omega]
      dsimp only
      rw[show 1-(1-w)=w by omega,show 1-(1-v)=v by omega,hc]
      refine⟨hd,mem_known.2 ⟨by rw[(clo_some hd).len];exact h1,by dsimp only;omega,hb.symm⟩,?_,rfl⟩
      rw[Bool.and_eq_true]
      exact⟨ne_t.2 e,h5⟩
theorem outR_nodup {c:Circ} (_C:CC c):(outR c).Nodup:=by
 have thn:∀ {i:Nat} {l:Lawv},l∈rowR c i→l.thn=⟨i/2,1-i%2⟩:=fun {i l} h=>by
  unfold rowR at h
  cases e:clo c [⟨i/2,i%2⟩] with
  |none=>rw[e] at h;rw[List.mem_singleton.1 h]
  |some v=>rw[e] at h;obtain⟨a,_,rfl⟩:=List.mem_map.1 h;rfl
 unfold outR List.Nodup
 rw[List.pairwise_flatMap]
 refine⟨fun i _=>?_,(range_sorted _).imp fun {i j} hij x hx y hy e=>?_⟩
 ·unfold rowR
  cases e:clo c [⟨i/2,i%2⟩] with
  |none=>exact List.pairwise_singleton _ _
  |some v =>
   dsimp only
   rw[List.pairwise_map]
   refine List.Pairwise.filter _ ?_
   unfold knownA knownP
   rw[List.pairwise_map]
   refine List.Pairwise.filter _ ((range_sorted _).imp fun {a b} hab e=>?_)
   unfold lawR at e
   simp only[Lawv.mk.injEq,Asg.mk.injEq] at e
   omega
 ·have h1:=thn hx
  have h2:=thn hy
  rw[e,h2] at h1
  simp only[Asg.mk.injEq] at h1
  omega
theorem got_eq {c:Circ} (C:CC c) {l:List Lawv} (hp:l.Perm (outR c)) (hs:l.Pairwise lawLe):l=enS c:=by
 have s:=enS_sorted c
 have n2:(enS c).Nodup:=s.imp fun {a b} h e=>by subst e;exact cfLaw_lt_irrefl h
 have p:(outR c).Perm (enS c):=(List.perm_ext_iff_of_nodup (outR_nodup C) n2).2 fun a=>mem_outR'
 exact List.Perm.eq_of_pairwise (le:=lawLe) (fun a b _ _ h k=>lawLe_antisymm h k) hs (s.imp fun {a b} h=>cfLaw_asymm h) (hp.trans p)
theorem fm_prefix {α:Type}{f:Nat→List α}{pre got:List α}{n i:Nat} (h:pre++(List.range n).flatMap f <+: got) (hi:i<n):(pre++(List.range i).flatMap f)++f i <+: got:=by
 refine List.IsPrefix.trans ?_ h
 have e:List.range n=List.range (i+1)++(List.range (n-(i+1))).map (i+1 + ·):=by
  rw[← List.range_add,show i+1+(n-(i+1))=n by omega]
 rw[e,List.flatMap_append,List.range_succ,List.flatMap_append]
 simp only[List.flatMap_cons,List.flatMap_nil,List.append_nil]
 rw[← List.append_assoc,← List.append_assoc]
 exact List.prefix_append _ _
theorem fm_len {α:Type}{f:Nat→List α}{pre:List α} (i:Nat):(pre++(List.range (i+1)).flatMap f).length=(pre++(List.range i).flatMap f++f i).length:=by
 rw[List.range_succ,List.flatMap_append]
 simp only[List.flatMap_cons,List.flatMap_nil,List.append_nil,List.append_assoc]
theorem learnsStatic_vc {x:CData} (hx:CB x):probecardlaw25_LearnsStatic_wp x (· = true):=by
 unfold probecardlaw25_LearnsStatic_wp
 refine plain24_vc hx ?_
 have C:=cc_circ x
 generalize circN (plainC x)=c at C ⊢
 have hc:=C.p.good.len
 have hpos:=C.p.good.pos
 refine static_vc C fun got hp hs=>⟨fun e=>absurd rfl (ne_t.1 e),fun _=>?_⟩
 have L:=outR_ok C hp
 have eg:=got_eq C hp hs
 have gl:=L.len
 dsimp only at gl ⊢
 clear hp hs L
 refine joinLoop (fun s=>s.2≤c.nodes.length∧s.1=(([]:List Lawv)++(List.range s.2).flatMap (enW c)).length) (fun s=>c.nodes.length-s.2) (fun k=>k=got.length) ?_ ⟨Nat.zero_le _,rfl⟩ (fun k e=>⟨fun _=>rfl,fun q=>absurd e (eq_f.1 q)⟩)
 rintro kk ⟨k,m⟩ nx ⟨hm,hk⟩ hnx hkk
 dsimp only at hm hk
 refine⟨fun q=>?_,fun q=>?_⟩
 rotate_left
 ·have q:=lt_f.1 q
  (try dsimp only at q)
  have:m=c.nodes.length:=by omega
  subst this
  refine hkk k ?_
  rw[hk,eg];rfl
 have hm:m<c.nodes.length:=lt_t.1 q
 have P1:(([]:List Lawv)++(List.range m).flatMap (enW c))++enW c m <+: got:=fm_prefix (by rw[eg];exact List.prefix_refl _) hm
 have nxt:m+1<2 ^ 63∧nx ((([]:List Lawv)++(List.range m).flatMap (enW c)++enW c m).length,m+1):=⟨by omega,hnx _ ⟨hm,(fm_len m).symm⟩ (by dsimp only;omega)⟩
 generalize (([]:List Lawv)++(List.range m).flatMap (enW c))=p1 at hk P1 nxt
 clear hnx hkk q
 unfold enW at P1 nxt
 refine joinLoop (fun s=>s.2≤2∧s.1=(p1++(List.range s.2).flatMap (enN c m)).length) (fun s=>2-s.2) (fun k=>k=(p1++(List.range 2).flatMap (enN c m)).length) ?_ ⟨Nat.zero_le _,by rw[hk];simp⟩ (fun k e=>by rw[e];exact nxt)
 clear nxt hk
 rintro kk ⟨k,w⟩ nx ⟨hw,hk⟩ hnx hkk
 dsimp only at hw hk
 refine⟨fun q=>?_,fun q=>?_⟩
 rotate_left
 ·have q:=lt_f.1 q
  (try dsimp only at q)
  have:w=2:=by omega
  subst this
  exact hkk k hk
 have hw:w<2:=lt_t.1 q
 have P2:(p1++(List.range w).flatMap (enN c m))++enN c m w <+: got:=fm_prefix P1 hw
 have nxt:w+1<256∧nx ((p1++(List.range w).flatMap (enN c m)++enN c m w).length,w+1):=⟨by omega,hnx _ ⟨hw,(fm_len w).symm⟩ (by dsimp only;omega)⟩
 generalize (p1++(List.range w).flatMap (enN c m))=p2 at hk P2 nxt
 clear hnx hkk q P1
 unfold enN at P2 nxt
 refine joinI ⟨rfl,clo_vc C.p C.f3 (one_giv hm (by omega)) ?_⟩
 refine loopW_intro (fun s=>s.2≤c.nodes.length∧s.1=(p2++(List.range s.2).flatMap (enV c m w)).length) (fun s=>c.nodes.length-s.2) ?_ ⟨Nat.zero_le _,by rw[hk];simp⟩
 clear hk
 rintro⟨k,n⟩ nx ⟨hn,hk⟩ hnx
 dsimp only at hn hk
 refine⟨fun q=>?_,fun q=>?_⟩
 rotate_left
 ·have q:=lt_f.1 q
  (try dsimp only at q)
  have:n=c.nodes.length:=by omega
  subst this
  rw[hk];exact nxt
 have hn:n<c.nodes.length:=lt_t.1 q
 have P3:(p2++(List.range n).flatMap (enV c m w))++enV c m w n <+: got:=fm_prefix P2 hn
 have nxt:n+1<2 ^ 63∧nx ((p2++(List.range n).flatMap (enV c m w)++enV c m w n).length,n+1):=⟨by omega,hnx _ ⟨hn,(fm_len n).symm⟩ (by dsimp only;omega)⟩
 generalize (p2++(List.range n).flatMap (enV c m w))=p3 at hk P3 nxt
 clear hnx q P2
 unfold enV at P3 nxt
 refine joinLoop (fun s=>s.2≤2∧s.1=(p3++(List.range s.2).flatMap (itemS c m w n)).length) (fun s=>2-s.2) (fun k=>k=(p3++(List.range 2).flatMap (itemS c m w n)).length) ?_ ⟨Nat.zero_le _,by rw[hk];simp⟩ (fun k e=>by rw[e];exact nxt)
 clear nxt hk
 rintro kk ⟨k,v⟩ nx ⟨hv,hk⟩ hnx hkk
 dsimp only at hv hk
 refine⟨fun q=>?_,fun q=>?_⟩
 rotate_left
 ·have q:=lt_f.1 q
  (try dsimp only at q)
  have:v=2:=by omega
  subst this
  exact hkk k hk
 have hv:v<2:=lt_t.1 q
 have P4:(p3++(List.range v).flatMap (itemS c m w n))++itemS c m w n v <+: got:=fm_prefix P3 hv
 have nxt:v+1<256∧nx ((p3++(List.range v).flatMap (itemS c m w n)++itemS c m w n v).length,v+1):=⟨by omega,hnx _ ⟨hv,(fm_len v).symm⟩ (by dsimp only;omega)⟩
 generalize (p3++(List.range v).flatMap (itemS c m w n))=p4 at hk P4 nxt
 clear hnx hkk q P3
 refine joinI (joinB (a:=wantB c m w n v) (fun F=>?_) ?_)
 ·unfold wantB at F
  refine⟨fun e=>?_,fun e=>?_⟩
  ·rw[e] at F
   cases hcl:clo c [⟨m,w⟩] with
   |none=>rw[hcl] at F;exact⟨fun _=>⟨by omega,by decide,F⟩,(fun e=>by cases e)⟩
   |some f=>rw[hcl] at F;exact⟨(fun e=>by cases e),fun _=>F⟩
  ·rw[e] at F
   cases hcl:clo c [⟨m,w⟩] with
   |none =>
    rw[hcl] at F
    exact joinB (a:=false) (fun F2=>⟨(fun e=>by cases e),fun _=>F2⟩) ⟨(fun e=>by cases e),fun _=>F⟩
   |some f =>
    rw[hcl] at F
    have fl:=(clo_some hcl).len
    refine joinB (a:=true) (fun F2=>⟨fun _=>(by rw[show eqN (cloR (some f)).1.length c.nodes.length=true from eq_t.2 fl];exact F2),(fun e=>by cases e)⟩) ⟨fun _=>⟨by omega,by decide,rfl,clo_vc C.p C.f3 (one_giv hn (by omega)) ?_⟩,(fun e=>by cases e)⟩
    cases hd:clo c [⟨n,1-v⟩] with
    |none=>rw[hd] at F;exact⟨(fun e=>by cases e),fun _=>F⟩
    |some b =>
     rw[hd] at F
     have bl:=(clo_some hd).len
     refine⟨fun _=>⟨fun _=>⟨_,getN bl hm,by omega,by decide,fun e=>⟨_,getN fl hn,?_⟩,fun e=>?_⟩,fun e=>absurd bl (eq_f.1 e)⟩,(fun e=>by cases e)⟩
     ·have e:eqN (b.getD m 0) (1-w)=true:=e
      dsimp only at F
      rw[e] at F;exact F
     ·have e:eqN (b.getD m 0) (1-w)=false:=e
      dsimp only at F
      rw[e] at F;exact F
 ·refine⟨fun e=>?_,fun e=>?_⟩
  ·have e:wantB c m w n v=false:=nb_t e
   unfold itemS at nxt
   rw[e] at nxt
   dsimp only at nxt
   rw[List.append_nil,← hk] at nxt
   exact nxt
  ·have e:wantB c m w n v=true:=nb_f e
   unfold itemS at nxt P4
   rw[e] at nxt P4
   dsimp only at nxt P4
   rw[List.length_append,List.length_singleton,← hk] at nxt
   obtain⟨suf,hsuf⟩:=P4
   have hkl:k<got.length:=by rw[← hsuf,List.length_append,List.length_append,List.length_singleton,← hk];omega
   have hget:got[k]?=some ⟨⟨m,w⟩,⟨n,v⟩⟩:=by
    rw[← hsuf,hk,List.append_assoc,List.getElem?_append_right (Nat.le_refl _),Nat.sub_self]
    rfl
   refine joinB (a:=false) (fun F=>⟨fun e=>absurd hkl (by have:=nlt_t.1 e;omega),fun _=>⟨_,hget,fun e=>?_,fun _=>⟨_,hget,?_⟩⟩⟩) ⟨(fun e=>by cases e),fun _=>⟨by omega,nxt⟩⟩
   ·dsimp only at e
    rw[eq_t.2 rfl,eq_t.2 rfl] at e
    cases e
   ·dsimp only
    unfold probecardlaw25_at_wp
    dsimp only
    rw[eq_t.2 rfl,eq_t.2 rfl]
    exact F
def learnsStatic_sh:List (Sh×Bool):=[(shC,true)]
theorem learnsStatic_call (x:DenL learnsStatic_sh) (w:wfL learnsStatic_sh x):FnV Tryz.prog NG vars 4 ⟨argL learnsStatic_sh x⟩ (.bool true):=by
 obtain⟨c,u⟩:=x
 obtain⟨wc,_⟩:=w
 obtain⟨y,hy,e1⟩:=c_arg wc
 have e:argL learnsStatic_sh (c,u)=[encC y]:=by
  show [elV (!true) (shC.cellsF c)]=_
  rw[e1]
 rw[e]
 exact FnV.of_walk (enc:=Value.bool) (r:=true) (PureV.flat rfl) fun h hB=>probecardlaw25_LearnsStatic_walk (learnsStatic_vc hy) hB
end Go.Proofs.YtfhldkgelipnaaaGreatDoor
