/-
  R4, QL, Lw2, R3, Q7, Q9, Q10, LearnsSaturates: parts of the proof.
-/
import Derived.Test.YtfhldkgelipnaaaGreatDoorLu48
namespace Go.Proofs.YtfhldkgelipnaaaGreatDoor
open Go.Abs
set_option maxRecDepth 100000
set_option maxHeartbeats 8000000
def probecardlaw25_lives_wp  (K:Bool→Prop):Prop :=
 probecardlaw25_example_wp  (fun r1=>probecardlaw25_at_wp 5 1 (fun r6=>1=([r6]:(List Asg)).length∧learns_Saturate_wp r1 0 ([r6]:(List Asg)) (fun r9=>probecardlaw25_at_wp 5 1 (fun r11=>1=([r11]:(List Asg)).length∧learns_Saturate_wp r1 1 ([r11]:(List Asg)) (fun r14=>learns_Static_wp r1 (fun r16=>learns_Static_wp (⟨([(⟨0,([]:(List Nat)),0,0⟩:Node),(⟨4,([0]:(List Nat)),0,0⟩:Node),(⟨5,([0,1]:(List Nat)),0,0⟩:Node)]:(List Node)),([(⟨#[97]⟩:ByteArray),(⟨#[98]⟩:ByteArray),(⟨#[99]⟩:ByteArray)]:(List ByteArray)),([]:(List Memo)),([2]:(List Nat))⟩:Circ) (fun r17=>learns_Saturate_wp (⟨([(⟨0,([]:(List Nat)),0,0⟩:Node),(⟨4,([0]:(List Nat)),0,0⟩:Node),(⟨5,([0,1]:(List Nat)),0,0⟩:Node)]:(List Node)),([(⟨#[97]⟩:ByteArray),(⟨#[98]⟩:ByteArray),(⟨#[99]⟩:ByteArray)]:(List ByteArray)),([]:(List Memo)),([2]:(List Nat))⟩:Circ) 1 ([]:(List Asg)) (fun r18=>joinW (α:=Bool) (fun k20=>((neN r9.2.2 0)=true→k20 true)∧((neN r9.2.2 0)=false→((neN r14.2.2 0)=true→k20 true)∧((neN r14.2.2 0)=false→((neN r16.2 0)=true→k20 true)∧((neN r16.2 0)=false→((neN r17.2 0)=true→k20 true)∧((neN r17.2 0)=false→((neN r18.2.2 0)=true→k20 true)∧((neN r18.2.2 0)=false→probecardlaw25_equal_wp r9.1 r9.2.1 ([2,2,2,2,2,1]:(List Nat)) true (fun r21=>((!r21)=true→k20 true)∧((!r21)=false→probecardlaw25_equal_wp r14.1 r14.2.1 ([2,1,2,2,2,1]:(List Nat)) true (fun r22=>((!r22)=true→k20 true)∧((!r22)=false→probecardlaw25_equal_wp r18.1 r18.2.1 ([2,2,0]:(List Nat)) true (fun r23=>k20 (!r23)))))))))))) (fun v19=>(v19=true→K false)∧(v19=false→joinW (α:=Bool) (fun k25=>((neN r16.1.length 1)=true→k25 true)∧((neN r16.1.length 1)=false→∃ x26,r16.1[0]?=some x26∧probecardlaw25_at_wp 5 1 (fun r27=>probecardlaw25_at_wp 1 1 (fun r28=>((!(((eqN x26.cond.net r27.net)&&((eqN x26.cond.value r27.value)&&true))&&(((eqN x26.thn.net r28.net)&&((eqN x26.thn.value r28.value)&&true))&&true)))=true→k25 true)∧((!(((eqN x26.cond.net r27.net)&&((eqN x26.cond.value r27.value)&&true))&&(((eqN x26.thn.net r28.net)&&((eqN x26.thn.value r28.value)&&true))&&true)))=false→((neN r17.1.length 1)=true→k25 true)∧((neN r17.1.length 1)=false→∃ x29,r17.1[0]?=some x29∧probecardlaw25_at_wp 2 1 (fun r30=>probecardlaw25_at_wp 2 0 (fun r31=>k25 (!(((eqN x29.cond.net r30.net)&&((eqN x29.cond.value r30.value)&&true))&&(((eqN x29.thn.net r31.net)&&((eqN x29.thn.value r31.value)&&true))&&true))))))))))) (fun v24=>(v24=true→K false)∧(v24=false→probecardlaw25_at_wp 2 1 (fun r32=>1=([r32]:(List Asg)).length∧learns_Close_wp (⟨([(⟨0,([]:(List Nat)),0,0⟩:Node),(⟨4,([0]:(List Nat)),0,0⟩:Node),(⟨5,([0,1]:(List Nat)),0,0⟩:Node)]:(List Node)),([(⟨#[97]⟩:ByteArray),(⟨#[98]⟩:ByteArray),(⟨#[99]⟩:ByteArray)]:(List ByteArray)),([]:(List Memo)),([2]:(List Nat))⟩:Circ) r17.1 ([r32]:(List Asg)) (fun r35=>probecardlaw25_at_wp 0 1 (fun r37=>probecardlaw25_at_wp 1 1 (fun r38=>probecardlaw25_at_wp 0 1 (fun r41=>1=([(⟨r37,r38⟩:Lawv)]:(List Lawv)).length∧1=([r41]:(List Asg)).length∧learns_Close_wp r1 ([(⟨r37,r38⟩:Lawv)]:(List Lawv)) ([r41]:(List Asg)) (fun r44=>((eqN r35.2.2 0)=true→((!r35.2.1)=true→((eqN r44.2.2 0)=true→probecardlaw25_equal_wp r44.1 r44.2.1 ([1,1,1,0,0,1]:(List Nat)) true (fun r49=>K r49))∧((eqN r44.2.2 0)=false→K false))∧((!r35.2.1)=false→K false))∧((eqN r35.2.2 0)=false→K false)))))))))))))))))))
theorem probecardlaw25_lives_walk  {K:Bool→Prop} (hm:probecardlaw25_lives_wp  K) {h0:Heap} (hB:HasB vars h0):∃ r,K r∧CallD Tryz.prog NG 23 ⟨[]⟩ h0 (Value.bool r) h0:=by
 unfold probecardlaw25_lives_wp at hm
 refine fw Tryz.func23 hB (enc:=Value.bool) (fun r=>PureV.flat rfl) fun O=>?_;conv=>whnf
 refine gX ?_
 refine ca (probecardlaw25_example_walk hm O.has) fun r1 hm=>?_;refine gH ?_
 refine O.new (anew_alloc (l:=[(.slice none 0 0),(.slice none 0 0),(.slice none 0 0),(.slice none 0 0)]) rfl rfl rfl) fun g2 h O=>?_;refine gH ?_
 refine O.stC 4 (.head _) [((encL 4 encNode) r1.nodes),((encL 1 Value.string) r1.names),((encL 3 encMem) r1.mems),((encL 1 i64) r1.outs)] fun h O=>?_;refine gX ?_
 refine fz ?_;refine gH ?_
 refine fz ?_;refine gH ?_
 refine NewG.frzW rfl (VLe.els (s:=4) (es':=([(⟨0,([]:(List Nat)),0,0⟩:Node),(⟨4,([0]:(List Nat)),0,0⟩:Node),(⟨5,([0,1]:(List Nat)),0,0⟩:Node)]).map encNode) rfl (map_size (enc:=encNode) (s:=4) (fun _=>rfl) _) (LLe.cons (VLe.refl _ _) (LLe.cons (VLe.nil _ _) (LLe.cons (VLe.refl _ _) (LLe.cons (VLe.refl _ _) (LLe.cons (VLe.refl _ _) (LLe.cons (VLe.refl _ _) (LLe.cons (VLe.refl _ _) (LLe.cons (VLe.refl _ _) (LLe.cons (VLe.refl _ _) (LLe.cons (VLe.refl _ _) (LLe.cons (VLe.refl _ _) (LLe.cons (VLe.refl _ _) (LLe.nil _)))))))))))))) ?_;refine gH ?_
 refine fz ?_;refine gH ?_
 refine fz ?_;refine gH ?_
 refine O.new (anew_alloc (l:=[(.slice none 0 0),(.slice none 0 0),(.slice none 0 0),(.slice none 0 0)]) rfl rfl rfl) fun g4 h O=>?_;refine gH ?_
 refine O.stC 4 (.head _) [((encL 4 encNode) ([(⟨0,([]:(List Nat)),0,0⟩:Node),(⟨4,([0]:(List Nat)),0,0⟩:Node),(⟨5,([0,1]:(List Nat)),0,0⟩:Node)]:(List Node))),((encL 1 Value.string) ([(⟨#[97]⟩:ByteArray),(⟨#[98]⟩:ByteArray),(⟨#[99]⟩:ByteArray)]:(List ByteArray))),(.slice none 0 0),((encL 1 i64) ([2]:(List Nat)))] fun h O=>?_;refine gX ?_
 refine ldA (O.at (.tail _ (.head _))) ?_;refine gH ?_
 first|refine⟨.inr (.inr (loadAggK rfl (O.at (.tail _ (.head _))) rfl rfl (lbE rfl) rfl)),?_⟩|refine⟨.inr (.inl (by kernel_rfl)),?_⟩
 refine gX ?_
 refine ca (probecardlaw25_at_walk hm O.has) fun r6 hm=>?_;refine gH ?_
 refine⟨.inl (Ext.refl _),?_⟩;refine gH ?_
 refine O.buildLX (l:=([r6]:(List Asg))) (enc:=encAsg) (s:=2) (z:=(.agg ⟨[(i64 0),(n8 0)]⟩)) rfl rfl (by kernel_rfl) (by kernel_rfl) rfl rfl rfl rfl (fun _=>rfl) fun g7 h O=>?_;refine gH ?_
 obtain⟨hn10,hm⟩:=hm
 refine O.useL (fun _ hb=>learns_Saturate_walk hm hb) (.head _) hn10 (fun _=>rfl) (i:=2) rfl (by kernel_rfl) (fun h2 q=>(LLe.cons (VLe.refl _ _) (LLe.cons (VLe.refl _ _) (LLe.cons (q) (LLe.nil _))))) (fun r9 h hm' O=>?_);replace hm:=hm';refine gH ?_
 refine⟨.inr (by kernel_rfl),?_⟩;refine gH ?_
 refine gX ?_
 refine ldA (O.at (.tail _ (.tail _ (.head _)))) ?_;refine gH ?_
 first|refine⟨.inr (.inr (loadAggK rfl (O.at (.tail _ (.tail _ (.head _)))) rfl rfl (lbE rfl) rfl)),?_⟩|refine⟨.inr (.inl (by kernel_rfl)),?_⟩
 refine gX ?_
 refine ca (probecardlaw25_at_walk hm O.has) fun r11 hm=>?_;refine gH ?_
 refine⟨.inl (Ext.refl _),?_⟩;refine gH ?_
 refine O.buildLX (l:=([r11]:(List Asg))) (enc:=encAsg) (s:=2) (z:=(.agg ⟨[(i64 0),(n8 0)]⟩)) rfl rfl (by kernel_rfl) (by kernel_rfl) rfl rfl rfl rfl (fun _=>rfl) fun g12 h O=>?_;refine gH ?_
 obtain⟨hn15,hm⟩:=hm
 refine O.useL (fun _ hb=>learns_Saturate_walk hm hb) (.head _) hn15 (fun _=>rfl) (i:=2) rfl (by kernel_rfl) (fun h2 q=>(LLe.cons (VLe.refl _ _) (LLe.cons (VLe.refl _ _) (LLe.cons (q) (LLe.nil _))))) (fun r14 h hm' O=>?_);replace hm:=hm';refine gH ?_
 refine⟨.inr (by kernel_rfl),?_⟩;refine gH ?_
 refine gX ?_
 refine ldA (O.at (.tail _ (.tail _ (.tail _ (.head _))))) ?_;refine gH ?_
 refine ca (learns_Static_walk hm O.has) fun r16 hm=>?_;refine gX ?_
 refine ldA (O.at (.tail _ (.tail _ (.head _)))) ?_;refine gH ?_
 refine caW (learns_Static_walk hm O.has) (LLe.cons (VLe.agg (LLe.cons (VLe.refl _ _) (LLe.cons (VLe.refl _ _) (LLe.cons (VLe.nil _ _) (LLe.cons (VLe.refl _ _) (LLe.nil _)))))) (LLe.nil _)) fun r17 hm=>?_;refine gX ?_
 refine ldA (O.at (.tail _ (.tail _ (.head _)))) ?_;refine gH ?_
 refine caW (learns_Saturate_walk hm O.has) (LLe.cons (VLe.agg (LLe.cons (VLe.refl _ _) (LLe.cons (VLe.refl _ _) (LLe.cons (VLe.nil _ _) (LLe.cons (VLe.refl _ _) (LLe.nil _)))))) (LLe.cons (VLe.refl _ _) (LLe.cons (VLe.nil _ _) (LLe.nil _)))) fun r18 hm=>?_;refine gH ?_
 apply Cs;conv=>whnf
 refine jn hm 178 [2,3,10,12] (fun s=>s) (fun v19 h=>Own vars h0 [((some g2),.cells [((encL 4 encNode) r1.nodes),((encL 1 Value.string) r1.names),((encL 3 encMem) r1.mems),((encL 1 i64) r1.outs)] false),((some g4),.cells [((encL 4 encNode) ([(⟨0,([]:(List Nat)),0,0⟩:Node),(⟨4,([0]:(List Nat)),0,0⟩:Node),(⟨5,([0,1]:(List Nat)),0,0⟩:Node)]:(List Node))),((encL 1 Value.string) ([(⟨#[97]⟩:ByteArray),(⟨#[98]⟩:ByteArray),(⟨#[99]⟩:ByteArray)]:(List ByteArray))),(.slice none 0 0),((encL 1 i64) ([2]:(List Nat)))] false)] h) (fun v19=>[(114,(.bool v19))]) (fun hm=>?_) ?_
 ·refine gX ?_
  refine br hm (fun hm=>?_) fun hm=>?_
  ·refine gX ?_
   refine bt ?_;refine gH ?_
   refine bt ?_;refine gH ?_
   refine bt ?_;refine gH ?_
   refine bt ?_;refine gH ?_
   refine bt ?_;refine gH ?_
   refine bt ?_;refine gH ?_
   exact jx true hm (O.sel [3,2] (by decide))
  ·refine gX ?_
   refine br hm (fun hm=>?_) fun hm=>?_
   ·refine gX ?_
    refine bt ?_;refine gH ?_
    refine bt ?_;refine gH ?_
    refine bt ?_;refine gH ?_
    refine bt ?_;refine gH ?_
    refine bt ?_;refine gH ?_
    exact jx true hm (O.sel [3,2] (by decide))
   ·refine gX ?_
    refine br hm (fun hm=>?_) fun hm=>?_
    ·refine gX ?_
     refine bt ?_;refine gH ?_
     refine bt ?_;refine gH ?_
     refine bt ?_;refine gH ?_
     refine bt ?_;refine gH ?_
     exact jx true hm (O.sel [3,2] (by decide))
    ·refine gX ?_
     refine br hm (fun hm=>?_) fun hm=>?_
     ·refine gX ?_
      refine bt ?_;refine gH ?_
      refine bt ?_;refine gH ?_
      refine bt ?_;refine gH ?_
      exact jx true hm (O.sel [3,2] (by decide))
     ·refine gX ?_
      refine br hm (fun hm=>?_) fun hm=>?_
      ·refine gX ?_
       refine bt ?_;refine gH ?_
       refine bt ?_;refine gH ?_
       exact jx true hm (O.sel [3,2] (by decide))
      ·refine gX ?_
       refine fz ?_;refine gH ?_
       refine caW (probecardlaw25_equal_walk hm O.has) (LLe.cons (VLe.ofN) (LLe.cons (VLe.refl _ _) (LLe.cons (VLe.refl _ _) (LLe.cons (VLe.refl _ _) (LLe.nil _))))) fun r21 hm=>?_;refine gH ?_
       refine br hm (fun hm=>?_) fun hm=>?_
       ·refine gX ?_
        refine bt ?_;refine gH ?_
        exact jx true hm (O.sel [3,2] (by decide))
       ·refine gX ?_
        refine fz ?_;refine gH ?_
        refine caW (probecardlaw25_equal_walk hm O.has) (LLe.cons (VLe.ofN) (LLe.cons (VLe.refl _ _) (LLe.cons (VLe.refl _ _) (LLe.cons (VLe.refl _ _) (LLe.nil _))))) fun r22 hm=>?_;refine gH ?_
        refine br hm (fun hm=>?_) fun hm=>?_
        ·refine gX ?_
         exact jx true hm (O.sel [3,2] (by decide))
        ·refine gX ?_
         refine fz ?_;refine gH ?_
         refine caW (probecardlaw25_equal_walk hm O.has) (LLe.cons (VLe.ofN) (LLe.cons (VLe.refl _ _) (LLe.cons (VLe.refl _ _) (LLe.cons (VLe.refl _ _) (LLe.nil _))))) fun r23 hm=>?_;refine gH ?_
         exact jx (!r23) hm (O.sel [3,2] (by decide))
 ·clear hm;rintro v19 base h hm O
  refine gX ?_
  refine br hm (fun hm=>?_) fun hm=>?_
  ·refine gX ?_
   exact fe hm O
  ·apply Cs;conv=>whnf
   apply Cs;conv=>whnf
   refine jn hm 178 [2,3,12] (fun s=>s) (fun v24 h=>Own vars h0 [((some g2),.cells [((encL 4 encNode) r1.nodes),((encL 1 Value.string) r1.names),((encL 3 encMem) r1.mems),((encL 1 i64) r1.outs)] false),((some g4),.cells [((encL 4 encNode) ([(⟨0,([]:(List Nat)),0,0⟩:Node),(⟨4,([0]:(List Nat)),0,0⟩:Node),(⟨5,([0,1]:(List Nat)),0,0⟩:Node)]:(List Node))),((encL 1 Value.string) ([(⟨#[97]⟩:ByteArray),(⟨#[98]⟩:ByteArray),(⟨#[99]⟩:ByteArray)]:(List ByteArray))),(.slice none 0 0),((encL 1 i64) ([2]:(List Nat)))] false)] h) (fun v24=>[(140,(.bool v24))]) (fun hm=>?_) ?_
   ·refine gX ?_
    refine br hm (fun hm=>?_) fun hm=>?_
    ·refine gX ?_
     refine bt ?_;refine gH ?_
     refine bt ?_;refine gH ?_
     exact jx true hm O
    ·refine gX ?_
     refine atF hm fun x26 hx26 hm=>?_;refine gH ?_
     first|refine⟨.inr (.inr (rfl)),?_⟩|refine⟨.inr (.inl (by kernel_rfl)),?_⟩
     refine gX ?_
     refine ca (probecardlaw25_at_walk hm O.has) fun r27 hm=>?_;refine gH ?_
     refine⟨.inl (Ext.refl _),?_⟩;refine gH ?_
     refine ca (probecardlaw25_at_walk hm O.has) fun r28 hm=>?_;refine gH ?_
     refine⟨.inl (Ext.refl _),?_⟩;refine gH ?_
     refine⟨.bool (!(((eqN x26.cond.net r27.net)&&((eqN x26.cond.value r27.value)&&true))&&(((eqN x26.thn.net r28.net)&&((eqN x26.thn.value r28.value)&&true))&&true))),by kernel_rfl,?_⟩;refine gH ?_
     refine br hm (fun hm=>?_) fun hm=>?_
     ·refine gX ?_
      refine bt ?_;refine gH ?_
      exact jx true hm O
     ·refine gX ?_
      refine br hm (fun hm=>?_) fun hm=>?_
      ·refine gX ?_
       exact jx true hm O
      ·refine gX ?_
       refine atF hm fun x29 hx29 hm=>?_;refine gH ?_
       first|refine⟨.inr (.inr (rfl)),?_⟩|refine⟨.inr (.inl (by kernel_rfl)),?_⟩
       refine gX ?_
       refine ca (probecardlaw25_at_walk hm O.has) fun r30 hm=>?_;refine gH ?_
       refine⟨.inl (Ext.refl _),?_⟩;refine gH ?_
       refine ca (probecardlaw25_at_walk hm O.has) fun r31 hm=>?_;refine gH ?_
       refine⟨.inl (Ext.refl _),?_⟩;refine gH ?_
       refine⟨.bool (!(((eqN x29.cond.net r30.net)&&((eqN x29.cond.value r30.value)&&true))&&(((eqN x29.thn.net r31.net)&&((eqN x29.thn.value r31.value)&&true))&&true))),by kernel_rfl,?_⟩;refine gH ?_
       exact jx (!(((eqN x29.cond.net r30.net)&&((eqN x29.cond.value r30.value)&&true))&&(((eqN x29.thn.net r31.net)&&((eqN x29.thn.value r31.value)&&true))&&true))) hm O
   ·clear hm;rintro v24 base h hm O
    refine gX ?_
    refine br hm (fun hm=>?_) fun hm=>?_
    ·refine gX ?_
     exact fe hm O
    ·refine gX ?_
     refine ldA (O.at (.tail _ (.head _))) ?_;refine gH ?_
     first|refine⟨.inr (.inr (loadAggK rfl (O.at (.tail _ (.head _))) rfl rfl (lbE rfl) rfl)),?_⟩|refine⟨.inr (.inl (by kernel_rfl)),?_⟩
     refine gX ?_
     refine ca (probecardlaw25_at_walk hm O.has) fun r32 hm=>?_;refine gH ?_
     refine⟨.inl (Ext.refl _),?_⟩;refine gH ?_
     refine O.buildLX (l:=([r32]:(List Asg))) (enc:=encAsg) (s:=2) (z:=(.agg ⟨[(i64 0),(n8 0)]⟩)) rfl rfl (by kernel_rfl) (by kernel_rfl) rfl rfl rfl rfl (fun _=>rfl) fun g33 h O=>?_;refine gH ?_
     obtain⟨hn36,hm⟩:=hm
     refine O.useL (fun _ hb=>learns_Close_walk hm hb) (.head _) hn36 (fun _=>rfl) (i:=2) rfl (by kernel_rfl) (fun h2 q=>(LLe.cons (VLe.agg (LLe.cons (VLe.refl _ _) (LLe.cons (VLe.refl _ _) (LLe.cons (VLe.nil _ _) (LLe.cons (VLe.refl _ _) (LLe.nil _)))))) (LLe.cons (VLe.refl _ _) (LLe.cons (VLe.toN (by simp) q) (LLe.nil _))))) (fun r35 h hm' O=>?_);replace hm:=hm';refine gH ?_
     refine⟨.inr (by kernel_rfl),?_⟩;refine gH ?_
     refine gX ?_
     refine ldA (O.at (.tail _ (.head _))) ?_;refine gH ?_
     first|refine⟨.inr (.inr (loadAggK rfl (O.at (.tail _ (.head _))) rfl rfl (lbE rfl) rfl)),?_⟩|refine⟨.inr (.inl (by kernel_rfl)),?_⟩
     refine gX ?_
     refine ca (probecardlaw25_at_walk hm O.has) fun r37 hm=>?_;refine gH ?_
     refine⟨.inl (Ext.refl _),?_⟩;refine gH ?_
     refine ca (probecardlaw25_at_walk hm O.has) fun r38 hm=>?_;refine gH ?_
     refine⟨.inl (Ext.refl _),?_⟩;refine gH ?_
     refine O.buildLX (l:=([(⟨r37,r38⟩:Lawv)]:(List Lawv))) (enc:=encLaw) (s:=4) (z:=(.agg ⟨[(i64 0),(n8 0),(i64 0),(n8 0)]⟩)) rfl rfl (by kernel_rfl) (by kernel_rfl) rfl rfl rfl rfl (fun _=>rfl) fun g39 h O=>?_;refine gH ?_
     refine ca (probecardlaw25_at_walk hm O.has) fun r41 hm=>?_;refine gH ?_
     refine⟨.inl (Ext.refl _),?_⟩;refine gH ?_
     refine O.buildLX (l:=([r41]:(List Asg))) (enc:=encAsg) (s:=2) (z:=(.agg ⟨[(i64 0),(n8 0)]⟩)) rfl rfl (by kernel_rfl) (by kernel_rfl) rfl rfl rfl rfl (fun _=>rfl) fun g42 h O=>?_;refine gH ?_
     obtain⟨hn47,hn48,hm⟩:=hm
     refine O.useXL (.tail _ (.head _)) hn47 (fun _=>rfl) (i:=1) rfl (by kernel_rfl) (fun h2 q=>(LLe.cons (VLe.refl _ _) (LLe.cons (q) (LLe.cons (VLe.refl _ _) (LLe.nil _))))) fun h O=>O.useXL (.head _) hn48 (fun _=>rfl) (i:=2) rfl (by kernel_rfl) (fun h2 q=>(LLe.cons (VLe.refl _ _) (LLe.cons (VLe.refl _ _) (LLe.cons (VLe.toN (by simp) q) (LLe.nil _))))) fun h O=>ca (learns_Close_walk hm O.has) fun r44 hm=>?_;refine gH ?_
     refine⟨.inr (by kernel_rfl),?_⟩;refine gH ?_
     refine gX ?_
     refine br hm (fun hm=>?_) fun hm=>?_
     ·refine gX ?_
      refine br hm (fun hm=>?_) fun hm=>?_
      ·refine gX ?_
       refine br hm (fun hm=>?_) fun hm=>?_
       ·refine gX ?_
        refine fz ?_;refine gH ?_
        refine ca (probecardlaw25_equal_walk hm O.has) fun r49 hm=>?_;refine gX ?_
        exact fe hm O
       ·refine gX ?_
        exact fe hm O
      ·refine gX ?_
       refine bf ?_;refine gX ?_
       exact fe hm O
     ·refine gX ?_
      refine bf ?_;refine gH ?_
      refine bf ?_;refine gX ?_
      exact fe hm O
def nm25:List ByteArray:=[⟨#[97]⟩,⟨#[98]⟩,⟨#[99]⟩,⟨#[100]⟩,⟨#[101]⟩,⟨#[102]⟩,⟨#[103]⟩]
theorem isname_run25:(nm25.all fun s=>isTrue (runFn Tryz.prog [] (orcExt Tryz.prog) 60 142 #[.string s] (heapOf vars)))=true:=by kernel_rfl
theorem isNm25 {s:ByteArray} (h:s∈nm25):IsNm s:=by
 obtain⟨h',e⟩:=isTrue_iff (List.all_eq_true.1 isname_run25 s h)
 have c:=(runFn_sound hM hP (fun f vs h v e=>orcExt_sound f vs h v e) 60 _ _ _ _ _ e).1
 exact⟨PureV.flatB rfl,fun h b=>c.lift (by kernel_rfl) rfl (bears_vars (hasSize b) (hasVars b))⟩
def nodeB (n i:Nat) (x:Node):Bool:=decide (x.kind≤11)&&decide (Arity x.kind x.ins.length)&&(x.ins.all fun k=>Nat.blt k n)&&decide (x.mem=0)&&decide (x.bit=0)&&(x.ins.all fun k=>Nat.blt k i)&&decide (x.ins.length≤3)
def circB (c:Circ):Bool:=(List.range c.nodes.length).all fun i=>match c.nodes[i]? with
 |some x=>nodeB c.nodes.length i x
 |none=>true
theorem cc25 {c:Circ} (h:circB c=true) (h0:0<c.nodes.length) (hl:c.nodes.length≤16) (hn:c.names.length=c.nodes.length) (h1:(c.names.all fun s=>nm25.any fun q=>decide (q=s))=true) (h2:c.names.Nodup) (hm:c.mems=[]) (ho:∀ o∈c.outs,o<c.nodes.length) (hol:c.outs.length≤16):CC c:=by
 have key:∀ i x,c.nodes[i]?=some x→nodeB c.nodes.length i x=true:=fun i x hx=>by
  have:=List.all_eq_true.1 h i (List.mem_range.2 (lt_of_get hx))
  rw[hx] at this;exact this
 unfold nodeB at key
 simp only[Bool.and_eq_true,decide_eq_true_eq,List.all_eq_true,Nat.blt_eq] at key
 have F:FanOk c:=fan_ok ⟨hl,fun i x hx=>⟨(key i x hx).1.1.1.1.2,by have:=(key i x hx).2;omega⟩⟩
 have N:NamesOk c:=by
  refine FnV.of_walk (enc:=i64) (PureV.flat rfl) fun h hB=>?_
  exact names_all_walk (K:=fun r=>r=0) (names_all_vc (fun s m=>isNm25 (by
   obtain⟨q,hq,e⟩:=List.any_eq_true.1 (List.all_eq_true.1 h1 s m)
   rw[← of_decide_eq_true e];exact hq)) h2 (by omega) rfl) hB
 refine⟨⟨⟨hl,hn,N,F,fun m hmm=>(by rw[hm] at hmm;cases hmm),by rw[hm];exact Nat.zero_le _,ho,hol,fun i x hx=>?_,h0⟩,hm,fun i x hx=>?_⟩,fun i x hx=>(key i x hx).2⟩
 ·obtain⟨⟨⟨⟨⟨⟨k1,k2⟩,k3⟩,k4⟩,k5⟩,k6⟩,k7⟩:=key i x hx
  exact⟨by omega,k2,k3,fun e=>by omega,fun _=>⟨k4,k5⟩,fun e=>by omega,fun _ _=>k6⟩
 ·have:=(key i x hx).1.1.1.1.1.1
  omega
def okE (c:Circ) (given:List Asg):Bool:=match closeF c given with
 |some v=>closeC c given v
 |none=>true
theorem okE_ok {c:Circ} (C:CC c) {given:List Asg} (g:GivOk c given) (h:okE c given=true):clo c given=closeF c given:=by
 unfold okE at h
 cases e:closeF c given with
 |none=>exact closeN_ok C.p C.f3 g e
 |some v=>rw[e] at h;exact closeC_ok C.p C.f3 g h
theorem sat0 {c:Circ} (C:CC c) {given:List Asg} (g:GivOk c given):satO c 0 given=clo c given:=by
 rcases clo_cases C.p C.f3 g with⟨v,D,e⟩|⟨N,e⟩
 ·rw[e];exact lstO_ok satP_len (lst_close D)
 ·rw[e];exact lstO_none fun t T E=>N t (cw_split.2 ⟨T,E⟩)
def leB (v t:List Nat):Bool:=blwL v t
theorem leB_ok {n:Nat}{v t:List Nat} (h:leB v t=true) (ht:t.length=n):LeN n v t:=by
 obtain⟨h1,h2⟩:=blwL_iff.1 h
 exact⟨h1.trans ht,h2⟩
def givB (c:Circ) (given:List Asg):Bool:=(given.all fun a=>Nat.blt a.net c.nodes.length&&Nat.ble a.value 1)&&Nat.ble given.length 1000
theorem givB_ok {c:Circ}{given:List Asg} (h:givB c given=true):GivOk c given:=by
 unfold givB at h
 simp only[Bool.and_eq_true,List.all_eq_true,Nat.blt_eq,Nat.ble_eq] at h
 exact⟨h.1,by omega⟩
def meetF (c:Circ) (v:List Nat) (n:Nat):Option (List Nat):=meetO (closeF c (knownA v++[⟨n,0⟩])) (closeF c (knownA v++[⟨n,1⟩]))
def meetB (c:Circ) (v:List Nat) (n:Nat):Bool:=givB c (knownA v++[⟨n,0⟩])&&givB c (knownA v++[⟨n,1⟩])&&okE c (knownA v++[⟨n,0⟩])&&okE c (knownA v++[⟨n,1⟩])
theorem meetB_ok {c:Circ} (C:CC c) {v:List Nat}{n:Nat} (h:meetB c v n=true):meetO (satO c 0 (knownA v++[⟨n,0⟩])) (satO c 0 (knownA v++[⟨n,1⟩]))=meetF c v n:=by
 unfold meetB at h
 simp only[Bool.and_eq_true] at h
 obtain⟨⟨⟨h1,h2⟩,h3⟩,h4⟩:=h
 rw[sat0 C (givB_ok h1),sat0 C (givB_ok h2),okE_ok C (givB_ok h1) h3,okE_ok C (givB_ok h2) h4]
 rfl
def leOB (o:Option (List Nat)) (t:List Nat):Bool:=match o with
 |some v=>leB v t
 |none=>false
theorem leOB_ok {n:Nat}{o:Option (List Nat)}{t:List Nat} (h:leOB o t=true) (ht:t.length=n):leO n o t:=by
 cases o with
 |none=>cases h
 |some v=>exact⟨v,rfl,leB_ok h ht⟩
def clsB (c:Circ) (v:List Nat):Bool:=givB c (knownA v)&&closeC c (knownA v) v
theorem clsB_ok {c:Circ} (C:CC c) {v:List Nat} (h:clsB c v=true):CW c [] v:=by
 unfold clsB at h
 simp only[Bool.and_eq_true] at h
 exact (cw_split.1 (clo_some (closeC_ok C.p C.f3 (givB_ok h.1) h.2)).cw).1
def sat1B (c:Circ) (v:List Nat):Bool:=clsB c v&&(List.range c.nodes.length).all fun n => !Nat.beq (v.getD n 0) 2||(meetB c v n&&leOB (meetF c v n) v)
theorem sat1B_ok {c:Circ} (C:CC c) {v:List Nat} (h:sat1B c v=true):satP c 1 v:=by
 unfold sat1B at h
 simp only[Bool.and_eq_true,List.all_eq_true,Bool.or_eq_true,Bool.not_eq_true',List.mem_range] at h
 have W:=clsB_ok C h.1
 refine⟨W,fun n hn h2=>?_⟩
 rcases h.2 n hn with q|q
 ·rw[h2] at q;cases q
 ·show leO _ (meetO (satO c 0 _) (satO c 0 _)) v
  rw[meetB_ok C q.1]
  exact leOB_ok q.2 W.len
def extB (given:List Asg) (v:List Nat):Bool:=given.all fun a=>Nat.beq (v.getD a.net 0) a.value
theorem extB_ok {given:List Asg}{v:List Nat} (h:extB given v=true):Ext given v:=fun a m=>Nat.eq_of_beq_eq_true (List.all_eq_true.1 h a m)
def oneB (c:Circ) (given:List Asg) (v0:List Nat) (n:Nat) (w:List Nat):Bool:=givB c given&&closeC c given v0&&Nat.blt n c.nodes.length&&meetB c v0 n&&(match meetF c v0 n with|some z=>eqLs z w|none=>false)&&sat1B c w&&extB given w
theorem oneB_ok {c:Circ} (C:CC c) {given:List Asg}{v0 w:List Nat}{n:Nat} (h:oneB c given v0 n w=true):satO c 1 given=some w:=by
 unfold oneB at h
 simp only[Bool.and_eq_true,Nat.blt_eq] at h
 obtain⟨⟨⟨⟨⟨⟨h1,h2⟩,h3⟩,h4⟩,h5⟩,h6⟩,h7⟩:=h
 have W:=sat1B_ok C h6
 have wl:=satP_len w W
 have D:=clo_some (closeC_ok C.p C.f3 (givB_ok h1) h2)
 refine lstO_ok satP_len ⟨W,extB_ok h7,fun t T E=>?_⟩
 rw[wl]
 have lt:LeN c.nodes.length v0 t:=⟨D.len,D.snd t (cw_split.2 ⟨satP_cw T,E⟩)⟩
 have M:=sat_meet C.p.good.len (d:=0) (fun e he=>by
  have:e=0:=by omega
  subst this;exact satD C (by decide)) T lt D.le h3
 rw[meetB_ok C h4] at M
 obtain⟨z,e,hz⟩:=M
 rw[e] at h5
 rw[← eqLs_iff h5]
 exact hz
def keepF (c:Circ) (i:Nat) (a:Asg):Bool:=neN a.net (i/2)&&match closeF c [⟨a.net,1-a.value⟩] with
 |none=>false
 |some w=>neN (w.getD (i/2) 0) (1-i%2)
def rowF (c:Circ) (i:Nat):List Lawv:=match closeF c [⟨i/2,i%2⟩] with
 |none=>[⟨⟨i/2,i%2⟩,⟨i/2,1-i%2⟩⟩]
 |some v=>((knownA v).filter (keepF c i)).map (lawR i)
def outF (c:Circ):List Lawv:=(List.range (2*c.nodes.length)).flatMap (rowF c)
def onesB (c:Circ):Bool:=(List.range (2*c.nodes.length)).all fun i=>okE c [⟨i/2,i%2⟩]
theorem outF_ok {c:Circ} (C:CC c) (h:onesB c=true):outR c=outF c:=by
 have key:∀ m w,m<c.nodes.length→w≤1→clo c [⟨m,w⟩]=closeF c [⟨m,w⟩]:=fun m w hm hw=>by
  have:=List.all_eq_true.1 h (2*m+w) (List.mem_range.2 (by omega))
  rw[show (2*m+w)/2=m by omega,show (2*m+w)%2=w by omega] at this
  exact okE_ok C (one_giv hm hw) this
 unfold outR outF
 rw[List.flatMap_def,List.flatMap_def]
 congr 1
 refine List.map_congr_left fun i hi=>?_
 have hi:=List.mem_range.1 hi
 unfold rowR rowF
 rw[← key (i/2) (i%2) (by omega) (by omega)]
 cases e:clo c [⟨i/2,i%2⟩] with
 |none=>rfl
 |some v =>
  dsimp only
  congr 1
  refine List.filter_congr fun a m=>?_
  obtain⟨a1,a2,a3⟩:=mem_known.1 m
  have D:=clo_some e
  have:=D.le a.net
  have:=D.len
  unfold keepR keepF
  rw[key a.net (1-a.value) (by omega) (by omega)]
  cases closeF c [⟨a.net,1-a.value⟩] <;> rfl
def c25:Circ:=⟨[⟨0,[],0,0⟩,⟨0,[],0,0⟩,⟨5,[0,1],0,0⟩,⟨4,[0],0,0⟩,⟨5,[3,1],0,0⟩,⟨7,[2,4],0,0⟩],[⟨#[97]⟩,⟨#[98]⟩,⟨#[100]⟩,⟨#[101]⟩,⟨#[102]⟩,⟨#[103]⟩],[],[5]⟩
def h25:Circ:=⟨[⟨0,[],0,0⟩,⟨4,[0],0,0⟩,⟨5,[0,1],0,0⟩],[⟨#[97]⟩,⟨#[98]⟩,⟨#[99]⟩],[],[2]⟩
theorem cc_c25:CC c25:=cc25 (by decide +kernel) (by decide) (by decide) rfl (by decide +kernel) (by decide +kernel) rfl (by decide) (by decide)
theorem cc_h25:CC h25:=cc25 (by decide +kernel) (by decide) (by decide) rfl (by decide +kernel) (by decide +kernel) rfl (by decide) (by decide)
theorem e1:satO c25 0 [⟨5,1⟩]=some [2,2,2,2,2,1]:=by
 rw[sat0 cc_c25 (givB_ok (by decide +kernel))]
 exact closeC_ok cc_c25.p cc_c25.f3 (givB_ok (by decide +kernel)) (by decide +kernel)
theorem e2:satO c25 1 [⟨5,1⟩]=some [2,1,2,2,2,1]:=oneB_ok cc_c25 (v0:=[2,2,2,2,2,1]) (n:=1) (by decide +kernel)
theorem e3:outR c25=[⟨⟨5,1⟩,⟨1,1⟩⟩]:=by
 rw[outF_ok cc_c25 (by decide +kernel)];rfl
theorem e4:outR h25=[⟨⟨2,1⟩,⟨2,0⟩⟩]:=by
 rw[outF_ok cc_h25 (by decide +kernel)];rfl
theorem e5:satO h25 1 []=some [2,2,0]:=oneB_ok cc_h25 (v0:=[2,2,2]) (n:=0) (by decide +kernel)
theorem e6:lawO h25 [⟨⟨2,1⟩,⟨2,0⟩⟩] [⟨2,1⟩]=none:=lstO_none fun t T E=>by
 have h1:=E ⟨2,1⟩ (List.mem_singleton.2 rfl)
 have h2:=T.2 _ (List.mem_singleton.2 rfl) h1
 dsimp only at h1 h2
 omega
theorem e7:lawO c25 [⟨⟨0,1⟩,⟨1,1⟩⟩] [⟨0,1⟩]=some [1,1,1,0,0,1]:=by
 refine lstO_ok lawP_len ⟨⟨clsB_ok cc_c25 (by decide +kernel),fun l m _=>by rw[List.mem_singleton.1 m];rfl⟩,fun a m=>by rw[List.mem_singleton.1 m];rfl,fun t T E=>?_⟩
 have h1:=E ⟨0,1⟩ (List.mem_singleton.2 rfl)
 have h2:=T.2 _ (List.mem_singleton.2 rfl) h1
 have D:=clo_some (closeC_ok cc_c25.p cc_c25.f3 (given:=[⟨0,1⟩,⟨1,1⟩]) (v:=[1,1,1,0,0,1]) (givB_ok (by decide +kernel)) (by decide +kernel))
 refine⟨rfl,D.snd t (cw_split.2 ⟨T.1,fun a m=>?_⟩)⟩
 rcases List.mem_cons.1 m with rfl|m
 ·exact h1
 ·rw[List.mem_singleton.1 m];exact h2
theorem lives25_vc {K:Bool→Prop} (k:K true):probecardlaw25_lives_wp K:=by
 unfold probecardlaw25_lives_wp probecardlaw25_example_wp probecardlaw25_at_wp
 refine⟨rfl,lSaturate_vc cc_c25 (by decide) (givB_ok (by decide +kernel)) ?_⟩
 rw[e1]
 refine⟨rfl,lSaturate_vc cc_c25 (by decide) (givB_ok (by decide +kernel)) ?_⟩
 rw[e2]
 refine static_vc cc_c25 fun l1 hp1 _=>?_
 obtain rfl:l1=[⟨⟨5,1⟩,⟨1,1⟩⟩]:=by rw[e3] at hp1;exact List.perm_singleton.1 hp1
 refine static_vc cc_h25 fun l2 hp2 _=>?_
 obtain rfl:l2=[⟨⟨2,1⟩,⟨2,0⟩⟩]:=by rw[e4] at hp2;exact List.perm_singleton.1 hp2
 refine lSaturate_vc cc_h25 (by decide) (givB_ok (by decide +kernel)) ?_
 rw[e5]
 refine joinB (a:=false) (fun F=>⟨fun e=>absurd rfl (ne_t.1 e),fun _=>⟨fun e=>absurd rfl (ne_t.1 e),fun _=>⟨fun e=>absurd rfl (ne_t.1 e),fun _=>⟨fun e=>absurd rfl (ne_t.1 e),fun _=>⟨fun e=>absurd rfl (ne_t.1 e),fun _ =>
  equal_vc (a:=[2,2,2,2,2,1]) (x:=true) (by decide) ⟨(fun e=>by cases e),fun _=>equal_vc (a:=[2,1,2,2,2,1]) (x:=true) (by decide) ⟨(fun e=>by cases e),fun _=>equal_vc (a:=[2,2,0]) (x:=true) (by decide) F⟩⟩⟩⟩⟩⟩⟩) ⟨(fun e=>by cases e),fun _=>?_⟩
 refine joinB (a:=false) (fun F=>⟨fun e=>absurd rfl (ne_t.1 e),fun _=>⟨_,rfl,(fun e=>by cases e),fun _=>⟨fun e=>absurd rfl (ne_t.1 e),fun _=>⟨_,rfl,F⟩⟩⟩⟩) ⟨(fun e=>by cases e),fun _=>?_⟩
 refine⟨rfl,lClose_vc cc_h25 ⟨fun l m=>?_,by decide⟩ (givB_ok (by decide +kernel)) (by decide) ?_⟩
 ·rw[List.mem_singleton.1 m];decide
 rw[e6]
 refine⟨rfl,rfl,lClose_vc cc_c25 ⟨fun l m=>?_,by decide⟩ (givB_ok (by decide +kernel)) (by decide) ?_⟩
 ·rw[List.mem_singleton.1 m];decide
 rw[e7]
 exact⟨fun _=>⟨fun _=>⟨fun _=>equal_vc (a:=[1,1,1,0,0,1]) (x:=true) (by decide) k,fun e=>absurd rfl (eq_f.1 e)⟩,(fun e=>by cases e)⟩,fun e=>absurd rfl (eq_f.1 e)⟩
structure U4 where
 a:Nat
 b:Nat
 c:Nat
 d:Nat
structure Z2 where
 a:Int
 b:Int
theorem law25_livesF:FnV Tryz.prog NG vars 23 ⟨[]⟩ (.bool true):=FnV.of_walk (enc:=Value.bool) (r:=true) (PureV.flat rfl) fun _h hB=>probecardlaw25_lives_walk (K:=fun r=>r=true) (lives25_vc rfl) hB
def law25_lives_wp (K:Bool→Prop):Prop:=K true
theorem law25_lives_walk {K:Bool→Prop} (hm:law25_lives_wp K) {h0:Heap} (hB:HasB vars h0):∃ r,K r∧CallD Tryz.prog NG 23 ⟨[]⟩ h0 (Value.bool r) h0:=law25_livesF.walk (enc:=Value.bool) hm hB
set_option maxHeartbeats 8000000
def probecardlaw25_saturated_f:Nat→Circ→Nat→(List Asg)→(((List Nat)×Bool)→Prop)→Prop
 |0,_,_,_,_=>False
 |fu+1,p0,p1,p2,K=>implies_Close_wp p0 p2 (fun r1=>joinW (α:=Bool) (fun k8=>((!r1.2.1)=true→k8 true)∧((!r1.2.1)=false→k8 (eqN p1 0))) (fun v6=>(v6=true→K (r1.1,r1.2.1))∧(v6=false→joinW (α:=(List Nat)) (fun k12=>loopW (S:=((List Nat)×Bool)) (fun (v14,v15) nx17=>(v15=true→joinW (α:=(List Asg)) (fun k22=>loopW (S:=((List Asg)×Nat)) (fun (v25,v26) nx29=>((ltN v26 v14.length)=true→joinW (α:=(List Asg)) (fun k35=>∃ x36,v14[v26]?=some x36∧((neN x36 2)=true→∃ x38,v14[v26]?=some x38∧probecardlaw25_at_wp v26 x38 (fun r39=>(v25.length+([r39]:(List Asg)).length)*16≤2 ^ 47∧k35 (v25++([r39]:(List Asg)))))∧((neN x36 2)=false→k35 v25)) (fun v32=>v26+1<2 ^ 63∧nx29 (v32,(v26+1))))∧((ltN v26 v14.length)=false→k22 v25)) (([]:List Asg),0)) (fun v20=>implies_Close_wp p0 v20 (fun r42=>((!r42.2.1)=true→K ([],false))∧((!r42.2.1)=false→loopW (S:=((List Nat)×Bool×Nat)) (fun (v48,v49,v50) nx52=>((ltN v50 v48.length)=true→joinW (α:=((List Nat)×Bool)) (fun k57=>∃ x58,v48[v50]?=some x58∧((neN x58 2)=true→k57 (v48,v49))∧((neN x58 2)=false→joinW (α:=(List Asg)) (fun k64=>loopW (S:=((List Asg)×Nat)) (fun (v66,v67) nx69=>((ltN v67 v48.length)=true→joinW (α:=(List Asg)) (fun k73=>∃ x74,v48[v67]?=some x74∧((neN x74 2)=true→∃ x75,v48[v67]?=some x75∧probecardlaw25_at_wp v67 x75 (fun r76=>(v66.length+([r76]:(List Asg)).length)*16≤2 ^ 47∧k73 (v66++([r76]:(List Asg)))))∧((neN x74 2)=false→k73 v66)) (fun v71=>v67+1<2 ^ 63∧nx69 (v71,(v67+1))))∧((ltN v67 v48.length)=false→k64 v66)) (([]:List Asg),0)) (fun v62=>1≤p1∧p1<2 ^ 63∧(([]:List Asg).length+v62.length)*16≤2 ^ 47∧probecardlaw25_at_wp v50 0 (fun r85=>((([]:List Asg)++v62).length+([r85]:(List Asg)).length)*16≤2 ^ 47∧probecardlaw25_saturated_f fu p0 (p1-1) ((([]:List Asg)++v62)++([r85]:(List Asg))) (fun r92=>1≤p1∧p1<2 ^ 63∧(([]:List Asg).length+v62.length)*16≤2 ^ 47∧probecardlaw25_at_wp v50 1 (fun r99=>((([]:List Asg)++v62).length+([r99]:(List Asg)).length)*16≤2 ^ 47∧probecardlaw25_saturated_f fu p0 (p1-1) ((([]:List Asg)++v62)++([r99]:(List Asg))) (fun r106=>joinW (α:=Bool) (fun k108=>((!r92.2)=true→k108 (!r106.2))∧((!r92.2)=false→k108 false)) (fun v107=>(v107=true→K ([],false))∧(v107=false→loopW (S:=((List Nat)×Bool×Nat)) (fun (v109,v110,v111) nx112=>((ltN v111 v109.length)=true→joinW (α:=((List Nat)×Bool)) (fun k115=>joinW (α:=Nat) (fun k117=>((!r92.2)=true→∃ x118,r106.1[v111]?=some x118∧k117 x118)∧((!r92.2)=false→((!r106.2)=true→∃ x119,r92.1[v111]?=some x119∧k117 x119)∧((!r106.2)=false→∃ x120,r92.1[v111]?=some x120∧∃ x121,r106.1[v111]?=some x121∧((eqN x120 x121)=true→∃ x122,r92.1[v111]?=some x122∧k117 x122)∧((eqN x120 x121)=false→k117 2)))) (fun v116=>joinW (α:=Bool) (fun k124=>∃ x125,v109[v111]?=some x125∧((eqN x125 2)=true→k124 (neN v116 2))∧((eqN x125 2)=false→k124 false)) (fun v123=>(v123=true→∃ x126,v109[v111]?=some x126∧k115 ((v109.set v111 v116),true))∧(v123=false→k115 (v109,v110))))) (fun (v113,v114)=>v111+1<2 ^ 63∧nx112 (v113,v114,(v111+1))))∧((ltN v111 v109.length)=false→k57 (v109,v110))) (v48,v49,0)))))))))) (fun (v54,v55)=>v50+1<2 ^ 63∧nx52 (v54,v55,(v50+1))))∧((ltN v50 v48.length)=false→nx17 (v48,v49))) (r42.1,false,0)))))∧(v15=false→k12 v14)) (r1.1,true)) (fun v10=>K (v10,true)))))
def probecardlaw25_saturated_wp (p0:Circ) (p1:Nat) (p2:(List Asg)) (K:((List Nat)×Bool)→Prop):Prop:=∃ n,probecardlaw25_saturated_f n p0 p1 p2 K
theorem probecardlaw25_saturated_fwalk:∀ (n:Nat) {p0:Circ}{p1:Nat}{p2:(List Asg)}{K:((List Nat)×Bool)→Prop} (_hm:probecardlaw25_saturated_f n p0 p1 p2 K) {h0:Heap} (_hB:HasB vars h0),∃ r,K r∧CallD Tryz.prog NG 25 ⟨[encCirc p0,i64 p1,(encL 2 encAsg) p2]⟩ h0 ((fun (r:((List Nat)×Bool))=>Value.tuple ⟨[(encL 1 n8) (r.1),Value.bool (r.2)]⟩) r) h0:=by
 intro n
 induction n with
 | zero=>intro p0 p1 p2 K hm;exact False.elim hm
 | succ fu ih =>
  intro p0 p1 p2 K hm h0 hB
  unfold probecardlaw25_saturated_f at hm
  refine fw Tryz.func25 hB (enc:=(fun (r:((List Nat)×Bool))=>Value.tuple ⟨[(encL 1 n8) (r.1),Value.bool (r.2)]⟩)) (fun r=>PureV.tup (AllPure.cons (pureL (fun _=>AllPure.cons (PureV.flat rfl) AllPure.nil)) (AllPure.cons (PureV.flat rfl) (AllPure.nil)))) fun O=>?_;conv=>whnf
  refine gX ?_
  refine fz ?_;refine gX ?_
  refine caO (implies_Close_walkO hm O.has) O fun r1 a2 h hx ha4 hn5 O hm=>?_;refine gH ?_
  apply Cs;conv=>whnf
  refine jn hm 180 [1,3,8,9] (fun s=>s) (fun v6 h=>(a2=none→r1.1=[])∧Own vars h0 [(a2,.cells (flatC (r1.1.map n8)) false)] h) (fun v6=>[(34,(.bool v6))]) (fun hm=>?_) ?_
  ·refine gX ?_
   refine br hm (fun hm=>?_) fun hm=>?_
   ·refine gX ?_
    exact jx true hm ⟨ha4,O⟩
   ·refine gX ?_
    exact jx (eqN p1 0) hm ⟨ha4,O⟩
  ·clear hm;rintro v6 base h hm ⟨ha7,O⟩
   refine gX ?_
   refine br hm (fun hm=>?_) fun hm=>?_
   ·refine gX ?_
    exact⟨(r1.1,r1.2.1),hm,O.ext,fun h2 F=>VLe.tup (LLe.cons (O.clipL F (Nat.le_refl _) (.head _) ha7 (fun _=>rfl)) (LLe.cons (VLe.refl _ _) (LLe.nil _)))⟩
   ·apply Cs;conv=>whnf
    refine jn (σ:=(List Nat)×Option Nat) hm 180 [] (fun s=>s.1) (fun (v10,a9) h=>(a9=none→v10=[])∧Own vars h0 [(a9,.cells (flatC (v10.map n8)) false)] h) (fun (v10,a9)=>[(8,(clipV a9 (v10.map n8)))]) (fun hm=>?_) ?_
    ·refine gX ?_
     refine lw 180 [1,3] (σ:=((List Nat)×Bool)×Option Nat) (fun s=>s.1) (fun ((v14,v15),a13) h=>(a13=none→v14=[])∧Own vars h0 [(a13,.cells (flatC (v14.map n8)) false)] h) (fun ((v14,v15),a13)=>[(8,(clipV a13 (v14.map n8))),(11,(.bool v15))]) ((r1.1,true),a2) hm ⟨ha7,O⟩ ?_
     clear hm;rintro⟨⟨v14,v15⟩,a13⟩ nx17 base h hm ⟨ha16,O⟩
     refine gX ?_
     refine br hm (fun hm=>?_) fun hm=>?_
     ·apply Cs;conv=>whnf
      apply Cs;conv=>whnf
      apply Cs;conv=>whnf
      apply Cs;refine gH ?_
      apply Cs;conv=>whnf
      apply Cs;refine gH ?_
      have O:=O.addNil (.cells (flatC ((([]:List Asg)).map encAsg)) false)
      refine jn (σ:=(List Asg)×Option Nat) hm 180 [1,3,11] (fun s=>s.1) (fun (v20,a19) h=>(a19=none→v20=[])∧Own vars h0 [(a19,.cells (flatC (v20.map encAsg)) false)] h) (fun (v20,a19)=>[(12,(growV 2 a19 (v20.map encAsg)))]) (fun hm=>?_) ?_
      ·refine gX ?_
       refine lw 180 [1,3,11] (σ:=((List Asg)×Nat)×(Option Nat×Option Nat)) (fun s=>s.1) (fun ((v25,v26),(a23,a24)) h=>(a23=none→v14=[])∧(a24=none→v25=[])∧Own vars h0 [(a23,.cells (flatC (v14.map n8)) false),(a24,.cells (flatC (v25.map encAsg)) false)] h) (fun ((v25,v26),(a23,a24))=>[(8,(clipV a23 (v14.map n8))),(12,(growV 2 a24 (v25.map encAsg))),(13,(i64 v26))]) ((([]:List Asg),0),(a13,none)) hm ⟨ha16,(fun _=>rfl),(O.sel [1,0] (by decide))⟩ ?_
       clear hm;rintro⟨⟨v25,v26⟩,⟨a23,a24⟩⟩ nx29 base h hm ⟨ha27,ha28,O⟩
       refine gX ?_
       refine br hm (fun hm=>?_) fun hm=>?_
       ·apply Cs;conv=>whnf
        refine jn (σ:=(List Asg)×(Option Nat×Option Nat)) hm 180 [1,3,11,13] (fun s=>s.1) (fun (v32,(a30,a31)) h=>(a30=none→v14=[])∧(a31=none→v32=[])∧Own vars h0 [(a30,.cells (flatC (v14.map n8)) false),(a31,.cells (flatC (v32.map encAsg)) false)] h) (fun (v32,(a30,a31))=>[(8,(clipV a30 (v14.map n8))),(12,(growV 2 a31 (v32.map encAsg)))]) (fun hm=>?_) ?_
        ·refine gX ?_
         obtain⟨x36,hx36,hm⟩:=hm
         have h9:=hm
         obtain⟨g37,rfl⟩:=addr_some ha27 hx36
         replace hm:=h9
         refine indexK (s:=1) (j:=v26) rfl rfl rfl rfl (by rw[List.length_map];exact lt_of_get hx36) ?_;refine gH ?_
         refine ldE (s:=1) (i:=0) (O.at (.head _)) hx36 ?_;refine gX ?_
         refine br hm (fun hm=>?_) fun hm=>?_
         ·refine gX ?_
          obtain⟨x38,hx38,hm⟩:=hm
          refine indexK (s:=1) (j:=v26) rfl rfl rfl rfl (by rw[List.length_map];exact lt_of_get hx38) ?_;refine gH ?_
          refine ldE (s:=1) (i:=0) (O.at (.head _)) hx38 ?_;refine gH ?_
          refine ca (probecardlaw25_at_walk hm O.has) fun r39 hm=>?_;refine gH ?_
          refine fz ?_;refine gH ?_
          refine O.apL (enc:=encAsg) (l:=v25) (new:=([r39]:(List Asg))) 2 (.tail _ (.head _)) ha28 hm fun a40 h ha41 O hm=>?_;refine gH ?_
          exact jx ((v25++([r39]:(List Asg))),((some g37),a40)) hm ⟨someNone,ha41,O⟩
         ·refine gX ?_
          exact jx (v25,((some g37),a24)) hm ⟨someNone,ha28,O⟩
        ·clear hm;rintro⟨v32,⟨a30,a31⟩⟩ base h hm ⟨ha33,ha34,O⟩
         refine gX ?_
         refine aAdd hm fun hm=>?_;refine gH ?_
         exact jx ((v32,(v26+1)),(a30,a31)) hm ⟨ha33,ha34,O⟩
       ·refine gX ?_
        exact jx (v25,a24) hm ⟨ha28,(O.sel [1] (by decide))⟩
      ·clear hm;rintro⟨v20,a19⟩ base h hm ⟨ha21,O⟩
       refine gX ?_
       refine O.useXG (.head _) ha21 (fun _=>rfl) (i:=1) rfl (by kernel_rfl) (fun h2 q=>(LLe.cons (VLe.refl _ _) (LLe.cons (q) (LLe.nil _)))) fun h O=>caO (implies_Close_walkO hm O.has) O fun r42 a43 h hx ha45 hn46 O hm=>?_;refine gX ?_
       refine br hm (fun hm=>?_) fun hm=>?_
       ·refine gX ?_
        exact⟨([],false),hm,O.ext,fun h2 F=>VLe.tup (LLe.cons (VLe.nil _ _) (LLe.cons (VLe.refl _ _) (LLe.nil _)))⟩
       ·refine gX ?_
        refine lw 180 [1,3] (σ:=((List Nat)×Bool×Nat)×Option Nat) (fun s=>s.1) (fun ((v48,v49,v50),a47) h=>(a47=none→v48=[])∧Own vars h0 [(a47,.cells (flatC (v48.map n8)) false)] h) (fun ((v48,v49,v50),a47)=>[(8,(clipV a47 (v48.map n8))),(11,(.bool v49)),(14,(i64 v50))]) ((r42.1,false,0),a43) hm ⟨ha45,(O.sel [0] (by decide))⟩ ?_
        clear hm;rintro⟨⟨v48,v49,v50⟩,a47⟩ nx52 base h hm ⟨ha51,O⟩
        refine gX ?_
        refine br hm (fun hm=>?_) fun hm=>?_
        ·apply Cs;conv=>whnf
         refine jn (σ:=((List Nat)×Bool)×Option Nat) hm 180 [1,3,14] (fun s=>s.1) (fun ((v54,v55),a53) h=>(a53=none→v54=[])∧Own vars h0 [(a53,.cells (flatC (v54.map n8)) false)] h) (fun ((v54,v55),a53)=>[(8,(clipV a53 (v54.map n8))),(11,(.bool v55))]) (fun hm=>?_) ?_
         ·refine gX ?_
          obtain⟨x58,hx58,hm⟩:=hm
          have h9:=hm
          obtain⟨g59,rfl⟩:=addr_some ha51 hx58
          replace hm:=h9
          refine indexK (s:=1) (j:=v50) rfl rfl rfl rfl (by rw[List.length_map];exact lt_of_get hx58) ?_;refine gH ?_
          refine ldE (s:=1) (i:=0) (O.at (.head _)) hx58 ?_;refine gX ?_
          refine br hm (fun hm=>?_) fun hm=>?_
          ·refine gX ?_
           exact jx ((v48,v49),(some g59)) hm ⟨someNone,O⟩
          ·apply Cs;conv=>whnf
           apply Cs;conv=>whnf
           apply Cs;refine gH ?_
           have O:=O.addNil (.cells (flatC ((([]:List Asg)).map encAsg)) false)
           refine jn (σ:=(List Asg)×Option Nat) hm 180 [1,3,8,11,14] (fun s=>s.1) (fun (v62,a61) h=>(a61=none→v62=[])∧Own vars h0 [((some g59),.cells (flatC (v48.map n8)) false),(a61,.cells (flatC (v62.map encAsg)) false)] h) (fun (v62,a61)=>[(12,(growV 2 a61 (v62.map encAsg)))]) (fun hm=>?_) ?_
           ·refine gX ?_
            refine lw 180 [1,3,8,11,14] (σ:=((List Asg)×Nat)×Option Nat) (fun s=>s.1) (fun ((v66,v67),a65) h=>(a65=none→v66=[])∧Own vars h0 [((some g59),.cells (flatC (v48.map n8)) false),(a65,.cells (flatC (v66.map encAsg)) false)] h) (fun ((v66,v67),a65)=>[(12,(growV 2 a65 (v66.map encAsg))),(15,(i64 v67))]) ((([]:List Asg),0),none) hm ⟨(fun _=>rfl),(O.sel [1,0] (by decide))⟩ ?_
            clear hm;rintro⟨⟨v66,v67⟩,a65⟩ nx69 base h hm ⟨ha68,O⟩
            refine gX ?_
            refine br hm (fun hm=>?_) fun hm=>?_
            ·apply Cs;conv=>whnf
             refine jn (σ:=(List Asg)×Option Nat) hm 180 [1,3,8,11,14,15] (fun s=>s.1) (fun (v71,a70) h=>(a70=none→v71=[])∧Own vars h0 [((some g59),.cells (flatC (v48.map n8)) false),(a70,.cells (flatC (v71.map encAsg)) false)] h) (fun (v71,a70)=>[(12,(growV 2 a70 (v71.map encAsg)))]) (fun hm=>?_) ?_
             ·refine gX ?_
              obtain⟨x74,hx74,hm⟩:=hm
              refine indexK (s:=1) (j:=v67) rfl rfl rfl rfl (by rw[List.length_map];exact lt_of_get hx74) ?_;refine gH ?_
              refine ldE (s:=1) (i:=0) (O.at (.head _)) hx74 ?_;refine gX ?_
              refine br hm (fun hm=>?_) fun hm=>?_
              ·refine gX ?_
               obtain⟨x75,hx75,hm⟩:=hm
               refine indexK (s:=1) (j:=v67) rfl rfl rfl rfl (by rw[List.length_map];exact lt_of_get hx75) ?_;refine gH ?_
               refine ldE (s:=1) (i:=0) (O.at (.head _)) hx75 ?_;refine gH ?_
               refine ca (probecardlaw25_at_walk hm O.has) fun r76 hm=>?_;refine gH ?_
               refine fz ?_;refine gH ?_
               refine O.apL (enc:=encAsg) (l:=v66) (new:=([r76]:(List Asg))) 2 (.tail _ (.head _)) ha68 hm fun a77 h ha78 O hm=>?_;refine gH ?_
               exact jx ((v66++([r76]:(List Asg))),a77) hm ⟨ha78,O⟩
              ·refine gX ?_
               exact jx (v66,a65) hm ⟨ha68,O⟩
             ·clear hm;rintro⟨v71,a70⟩ base h hm ⟨ha72,O⟩
              refine gX ?_
              refine aAdd hm fun hm=>?_;refine gH ?_
              exact jx ((v71,(v67+1)),a70) hm ⟨ha72,O⟩
            ·refine gX ?_
             exact jx (v66,a65) hm ⟨ha68,O⟩
           ·clear hm;rintro⟨v62,a61⟩ base h hm ⟨ha63,O⟩
            conv=>whnf
            apply Cs;conv=>whnf
            refine CodeS.drawF ?_;refine gH ?_
            refine aSub hm fun hm=>?_;refine gH ?_
            refine O.buildEX rfl rfl rfl fun g79 h O=>?_;refine gH ?_
            refine O.appendS (enc:=encAsg) (l:=([]:List Asg)) (new:=v62) (s:=2) (b:=16) (.head _) rfl rfl rfl rfl rfl rfl rfl rfl rfl (YOk.gr O (.tail _ (.tail _ (.head _))) ha63 (fun _=>rfl) rfl) (fun _=>rfl) (fun _=>rfl) (by decide) hm.1 fun g83 a84 h O=>?_;refine gH ?_
            replace hm:=hm.2
            refine ca (probecardlaw25_at_walk hm O.has) fun r85 hm=>?_;refine gH ?_
            refine O.buildLX (l:=([r85]:(List Asg))) (enc:=encAsg) (s:=2) (z:=(.agg ⟨[(i64 0),(n8 0)]⟩)) rfl rfl (by kernel_rfl) (by kernel_rfl) rfl rfl rfl rfl (fun _=>rfl) fun g86 h O=>?_;refine gH ?_
            refine O.appendS (enc:=encAsg) (l:=(([]:List Asg)++v62)) (new:=([r85]:(List Asg))) (s:=2) (b:=16) (.tail _ (.head _)) rfl rfl rfl rfl rfl rfl rfl rfl rfl (YOk.own (O.at (.head _)) rfl (fun _=>rfl) rfl) (fun _=>rfl) (fun _=>rfl) (by decide) hm.1 fun g90 a91 h O=>?_;refine gH ?_
            replace hm:=hm.2
            refine O.useL (fun _ hb=>ih hm hb) (.tail _ (.head _)) ((rfl:_=_).trans (List.length_map ..)) (fun _=>rfl) (i:=2) rfl (by kernel_rfl) (fun h2 q=>(LLe.cons (VLe.refl _ _) (LLe.cons (VLe.refl _ _) (LLe.cons (q) (LLe.nil _))))) (fun r92 h hm' O=>?_);replace hm:=hm';refine gH ?_
            apply Cs;conv=>whnf
            refine CodeS.drawF ?_;refine gH ?_
            refine aSub hm fun hm=>?_;refine gH ?_
            refine O.buildEX rfl rfl rfl fun g93 h O=>?_;refine gH ?_
            refine O.appendS (enc:=encAsg) (l:=([]:List Asg)) (new:=v62) (s:=2) (b:=16) (.head _) rfl rfl rfl rfl rfl rfl rfl rfl rfl (YOk.gr O (.tail _ (.tail _ (.tail _ (.tail _ (.head _))))) ha63 (fun _=>rfl) rfl) (fun _=>rfl) (fun _=>rfl) (by decide) hm.1 fun g97 a98 h O=>?_;refine gH ?_
            replace hm:=hm.2
            refine ca (probecardlaw25_at_walk hm O.has) fun r99 hm=>?_;refine gH ?_
            refine O.buildLX (l:=([r99]:(List Asg))) (enc:=encAsg) (s:=2) (z:=(.agg ⟨[(i64 0),(n8 0)]⟩)) rfl rfl (by kernel_rfl) (by kernel_rfl) rfl rfl rfl rfl (fun _=>rfl) fun g100 h O=>?_;refine gH ?_
            refine O.appendS (enc:=encAsg) (l:=(([]:List Asg)++v62)) (new:=([r99]:(List Asg))) (s:=2) (b:=16) (.tail _ (.head _)) rfl rfl rfl rfl rfl rfl rfl rfl rfl (YOk.own (O.at (.head _)) rfl (fun _=>rfl) rfl) (fun _=>rfl) (fun _=>rfl) (by decide) hm.1 fun g104 a105 h O=>?_;refine gH ?_
            replace hm:=hm.2
            refine O.useL (fun _ hb=>ih hm hb) (.tail _ (.head _)) ((rfl:_=_).trans (List.length_map ..)) (fun _=>rfl) (i:=2) rfl (by kernel_rfl) (fun h2 q=>(LLe.cons (VLe.refl _ _) (LLe.cons (VLe.refl _ _) (LLe.cons (q) (LLe.nil _))))) (fun r106 h hm' O=>?_);replace hm:=hm';refine gH ?_
            apply Cs;conv=>whnf
            refine jn hm 180 [1,3,8,11,14,16,17,18,19] (fun s=>s) (fun v107 h=>Own vars h0 [((some g59),.cells (flatC (v48.map n8)) false)] h) (fun v107=>[(131,(.bool v107))]) (fun hm=>?_) ?_
            ·refine gX ?_
             refine br hm (fun hm=>?_) fun hm=>?_
             ·refine gX ?_
              exact jx (!r106.2) hm (O.sel [4] (by decide))
             ·refine gX ?_
              exact jx false hm (O.sel [4] (by decide))
            ·clear hm;rintro v107 base h hm O
             refine gX ?_
             refine br hm (fun hm=>?_) fun hm=>?_
             ·refine gX ?_
              exact⟨([],false),hm,O.ext,fun h2 F=>VLe.tup (LLe.cons (VLe.nil _ _) (LLe.cons (VLe.refl _ _) (LLe.nil _)))⟩
             ·refine gX ?_
              refine lw 180 [1,3,14,16,17,18,19] (σ:=((List Nat)×Bool×Nat)) (fun s=>s) (fun (v109,v110,v111) h=>Own vars h0 [((some g59),.cells (flatC (v109.map n8)) false)] h) (fun (v109,v110,v111)=>[(8,(clipV (some g59) (v109.map n8))),(11,(.bool v110)),(20,(i64 v111))]) (v48,v49,0) hm O ?_
              clear hm;rintro⟨v109,v110,v111⟩ nx112 base h hm O
              refine gX ?_
              refine br hm (fun hm=>?_) fun hm=>?_
              ·apply Cs;conv=>whnf
               refine jn hm 180 [1,3,14,16,17,18,19,20] (fun s=>s) (fun (v113,v114) h=>Own vars h0 [((some g59),.cells (flatC (v113.map n8)) false)] h) (fun (v113,v114)=>[(8,(clipV (some g59) (v113.map n8))),(11,(.bool v114))]) (fun hm=>?_) ?_
               ·apply Cs;conv=>whnf
                apply Cs;conv=>whnf
                apply Cs;refine gH ?_
                refine jn hm 180 [1,3,8,11,14,16,17,18,19,20] (fun s=>s) (fun v116 h=>Own vars h0 [((some g59),.cells (flatC (v109.map n8)) false)] h) (fun v116=>[(21,(n8 v116))]) (fun hm=>?_) ?_
                ·refine gX ?_
                 refine br hm (fun hm=>?_) fun hm=>?_
                 ·refine gX ?_
                  refine atF hm fun x118 hx118 hm=>?_;refine gH ?_
                  exact jx x118 hm O
                 ·refine gX ?_
                  refine br hm (fun hm=>?_) fun hm=>?_
                  ·refine gX ?_
                   refine atF hm fun x119 hx119 hm=>?_;refine gH ?_
                   exact jx x119 hm O
                  ·refine gX ?_
                   refine atF hm fun x120 hx120 hm=>?_;refine gH ?_
                   refine atF hm fun x121 hx121 hm=>?_;refine gX ?_
                   refine br hm (fun hm=>?_) fun hm=>?_
                   ·refine gX ?_
                    refine atF hm fun x122 hx122 hm=>?_;refine gH ?_
                    exact jx x122 hm O
                   ·refine gX ?_
                    exact jx 2 hm O
                ·clear hm;rintro v116 base h hm O
                 conv=>whnf
                 refine jn hm 180 [1,3,8,11,14,16,17,18,19,20,21] (fun s=>s) (fun v123 h=>Own vars h0 [((some g59),.cells (flatC (v109.map n8)) false)] h) (fun v123=>[(174,(.bool v123))]) (fun hm=>?_) ?_
                 ·refine gX ?_
                  obtain⟨x125,hx125,hm⟩:=hm
                  refine indexK (s:=1) (j:=v111) rfl rfl rfl rfl (by rw[List.length_map];exact lt_of_get hx125) ?_;refine gH ?_
                  refine ldE (s:=1) (i:=0) (O.at (.head _)) hx125 ?_;refine gH ?_
                  refine br hm (fun hm=>?_) fun hm=>?_
                  ·refine gX ?_
                   exact jx (neN v116 2) hm O
                  ·refine gX ?_
                   exact jx false hm O
                 ·clear hm;rintro v123 base h hm O
                  refine gX ?_
                  refine br hm (fun hm=>?_) fun hm=>?_
                  ·refine gX ?_
                   obtain⟨x126,hx126,hm⟩:=hm
                   refine indexK (s:=1) (j:=v111) rfl rfl rfl rfl (by rw[List.length_map];exact lt_of_get hx126) ?_;refine gH ?_
                   refine O.stE 1 (.head _) hx126 v116 fun h O=>?_;refine gX ?_
                   try rw[growV_set (enc:=n8) (l:=v109) (j:=v111) (x:=v116)] at O
                   exact⟨((v109.set v111 v116),true),hm,O,VLe.refl _ _,VLe.refl _ _,VLe.refl _ _,VLe.refl _ _,VLe.refl _ _,VLe.refl _ _,VLe.refl _ _,VLe.refl _ _,(by first|exact VLe.refl _ _|exact VLe.clipLen rfl (by simp)),VLe.refl _ _,trivial⟩
                  ·refine gX ?_
                   exact jx (v109,v110) hm O
               ·clear hm;rintro⟨v113,v114⟩ base h hm O
                refine gX ?_
                refine aAdd hm fun hm=>?_;refine gH ?_
                exact jx (v113,v114,(v111+1)) hm O
              ·refine gX ?_
               exact jx ((v109,v110),(some g59)) hm ⟨someNone,O⟩
         ·clear hm;rintro⟨⟨v54,v55⟩,a53⟩ base h hm ⟨ha56,O⟩
          refine gX ?_
          refine aAdd hm fun hm=>?_;refine gH ?_
          exact jx ((v54,v55,(v50+1)),a53) hm ⟨ha56,O⟩
        ·refine gX ?_
         exact jx ((v48,v49),a47) hm ⟨ha51,O⟩
     ·refine gX ?_
      exact jx (v14,a13) hm ⟨ha16,O⟩
    ·clear hm;rintro⟨v10,a9⟩ base h hm ⟨ha11,O⟩
     refine gX ?_
     exact⟨(v10,true),hm,O.ext,fun h2 F=>VLe.tup (LLe.cons (O.clipL F (Nat.le_refl _) (.head _) ha11 (fun _=>rfl)) (LLe.cons (VLe.refl _ _) (LLe.nil _)))⟩
theorem probecardlaw25_saturated_walk {p0:Circ}{p1:Nat}{p2:(List Asg)}{K:((List Nat)×Bool)→Prop} (hm:probecardlaw25_saturated_wp p0 p1 p2 K) {h0:Heap} (hB:HasB vars h0):∃ r,K r∧CallD Tryz.prog NG 25 ⟨[encCirc p0,i64 p1,(encL 2 encAsg) p2]⟩ h0 ((fun (r:((List Nat)×Bool))=>Value.tuple ⟨[(encL 1 n8) (r.1),Value.bool (r.2)]⟩) r) h0:=by
 obtain⟨n,hm⟩:=hm
 exact probecardlaw25_saturated_fwalk n hm hB
def probecardlaw25_LearnsSaturates_wp (p0:CData) (p1:(List U2)) (p2:Nat) (K:Bool→Prop):Prop :=
 ((ltN 4 p1.length)=true→law25_lives_wp  (fun r1=>K r1))∧((ltN 4 p1.length)=false→law24_Plain_wp p0 (fun r2=>probecardlaw24_Given_wp r2.nodes.length p1 (fun r5=>0<3∧(p2%3)<256∧joinW (α:=Nat) (fun k7=>((ltN 9 r2.nodes.length)=true→k7 (min (p2%3) 1))∧((ltN 9 r2.nodes.length)=false→k7 (p2%3))) (fun v6=>learns_Saturate_wp r2 v6 r5 (fun r8=>probecardlaw25_saturated_wp r2 v6 r5 (fun r9=>joinW (α:=Bool) (fun k11=>((neN r8.2.2 0)=true→k11 true)∧((neN r8.2.2 0)=false→probecardlaw25_equal_wp r8.1 r8.2.1 r9.1 r9.2 (fun r12=>k11 (!r12)))) (fun v10=>(v10=true→K false)∧(v10=false→learns_Saturate_wp r2 0 r5 (fun r13=>implies_Close_wp r2 r5 (fun r14=>0<2∧r5.length<2 ^ 63∧(r5.length/2)≤r5.length∧learns_Saturate_wp r2 v6 (r5.drop (r5.length/2)) (fun r15=>joinW (α:=Bool) (fun k17=>((neN r13.2.2 0)=true→k17 true)∧((neN r13.2.2 0)=false→((neN r15.2.2 0)=true→k17 true)∧((neN r15.2.2 0)=false→probecardlaw25_equal_wp r13.1 r13.2.1 r14.1 r14.2.1 (fun r18=>((!r18)=true→k17 true)∧((!r18)=false→probecardlaw25_least_wp r8.1 r8.2.1 r13.1 r13.2.1 (fun r19=>((!r19)=true→k17 true)∧((!r19)=false→probecardlaw25_least_wp r8.1 r8.2.1 r15.1 r15.2.1 (fun r20=>k17 (!r20))))))))) (fun v16=>(v16=true→K false)∧(v16=false→((eqN v6 0)=true→law25_lives_wp  (fun r21=>K r21))∧((eqN v6 0)=false→1≤v6∧v6<2 ^ 63∧learns_Saturate_wp r2 (v6-1) r5 (fun r22=>((eqN r22.2.2 0)=true→probecardlaw25_least_wp r8.1 r8.2.1 r22.1 r22.2.1 (fun r23=>(r23=true→law25_lives_wp  (fun r24=>K r24))∧(r23=false→K false)))∧((eqN r22.2.2 0)=false→K false))))))))))))))))
theorem probecardlaw25_LearnsSaturates_walk {p0:CData}{p1:(List U2)}{p2:Nat}{K:Bool→Prop} (hm:probecardlaw25_LearnsSaturates_wp p0 p1 p2 K) {h0:Heap} (hB:HasB vars h0):∃ r,K r∧CallD Tryz.prog NG 5 ⟨[encC p0,(encL 2 encU2) p1,n8 p2]⟩ h0 (Value.bool r) h0:=by
 unfold probecardlaw25_LearnsSaturates_wp at hm
 refine fw Tryz.func5 hB (enc:=Value.bool) (fun r=>PureV.flat rfl) fun O=>?_;conv=>whnf
 refine gX ?_
 refine fz ?_;refine gX ?_
 refine br hm (fun hm=>?_) fun hm=>?_
 ·refine gX ?_
  refine ca (law25_lives_walk hm O.has) fun r1 hm=>?_;refine gX ?_
  exact fe hm O
 ·refine gX ?_
  refine ca (law24_Plain_walk hm O.has) fun r2 hm=>?_;refine gH ?_
  refine O.new (anew_alloc (l:=[(.slice none 0 0),(.slice none 0 0),(.slice none 0 0),(.slice none 0 0)]) rfl rfl rfl) fun g3 h O=>?_;refine gH ?_
  refine O.stC 4 (.head _) [((encL 4 encNode) r2.nodes),((encL 1 Value.string) r2.names),((encL 3 encMem) r2.mems),((encL 1 i64) r2.outs)] fun h O=>?_;refine gX ?_
  refine ca (probecardlaw24_Given_walk hm O.has) fun r5 hm=>?_;refine gX ?_
  refine aRem hm fun hm=>?_;refine gH ?_
  refine aCv hm wI8 fun hm=>?_;refine gH ?_
  refine jn hm 152 [7,8] (fun s=>s) (fun v6 h=>Own vars h0 [((some g3),.cells [((encL 4 encNode) r2.nodes),((encL 1 Value.string) r2.names),((encL 3 encMem) r2.mems),((encL 1 i64) r2.outs)] false)] h) (fun v6=>[(9,(i64 v6))]) (fun hm=>?_) ?_
  ·refine gX ?_
   refine br hm (fun hm=>?_) fun hm=>?_
   ·refine gX ?_
    refine⟨_,minK (a:=(p2%3)) (b:=1) rfl rfl,?_⟩;refine gH ?_
    exact jx (min (p2%3) 1) hm O
   ·refine gX ?_
    exact jx (p2%3) hm O
  ·clear hm;rintro v6 base h hm O
   refine gX ?_
   refine ldA (O.at (.head _)) ?_;refine gH ?_
   refine ca (learns_Saturate_walk hm O.has) fun r8 hm=>?_;refine gX ?_
   refine ldA (O.at (.head _)) ?_;refine gH ?_
   refine ca (probecardlaw25_saturated_walk hm O.has) fun r9 hm=>?_;refine gH ?_
   apply Cs;conv=>whnf
   refine jn hm 152 [7,8,9,10,11] (fun s=>s) (fun v10 h=>Own vars h0 [((some g3),.cells [((encL 4 encNode) r2.nodes),((encL 1 Value.string) r2.names),((encL 3 encMem) r2.mems),((encL 1 i64) r2.outs)] false)] h) (fun v10=>[(71,(.bool v10))]) (fun hm=>?_) ?_
   ·refine gX ?_
    refine br hm (fun hm=>?_) fun hm=>?_
    ·refine gX ?_
     exact jx true hm O
    ·refine gX ?_
     refine caW (probecardlaw25_equal_walk hm O.has) (LLe.cons (VLe.ofN) (LLe.cons (VLe.refl _ _) (LLe.cons (VLe.refl _ _) (LLe.cons (VLe.refl _ _) (LLe.nil _))))) fun r12 hm=>?_;refine gH ?_
     exact jx (!r12) hm O
   ·clear hm;rintro v10 base h hm O
    refine gX ?_
    refine br hm (fun hm=>?_) fun hm=>?_
    ·refine gX ?_
     exact fe hm O
    ·refine gX ?_
     refine ldA (O.at (.head _)) ?_;refine gH ?_
     refine ca (learns_Saturate_walk hm O.has) fun r13 hm=>?_;refine gX ?_
     refine ldA (O.at (.head _)) ?_;refine gH ?_
     refine ca (implies_Close_walk hm O.has) fun r14 hm=>?_;refine gX ?_
     refine ldA (O.at (.head _)) ?_;refine gH ?_
     first|refine⟨.inr (.inr (loadAggK rfl (O.at (.head _)) rfl rfl (lbE rfl) rfl)),?_⟩|refine⟨.inr (.inl (by kernel_rfl)),?_⟩
     refine gX ?_
     refine aQuo hm fun hm=>?_;refine gH ?_
     refine fromFK (s:=2) (enc:=encAsg) (l:=r5) (k:=(r5.length/2)) rfl rfl rfl rfl hm.1 ?_;refine gH ?_
     replace hm:=hm.2
     refine ca (learns_Saturate_walk hm O.has) fun r15 hm=>?_;refine gH ?_
     refine⟨.inl (Ext.refl _),?_⟩;refine gH ?_
     apply Cs;conv=>whnf
     refine jn hm 152 [7,8,9,10,11] (fun s=>s) (fun v16 h=>Own vars h0 [((some g3),.cells [((encL 4 encNode) r2.nodes),((encL 1 Value.string) r2.names),((encL 3 encMem) r2.mems),((encL 1 i64) r2.outs)] false)] h) (fun v16=>[(127,(.bool v16))]) (fun hm=>?_) ?_
     ·refine gX ?_
      refine br hm (fun hm=>?_) fun hm=>?_
      ·refine gX ?_
       refine bt ?_;refine gH ?_
       refine bt ?_;refine gH ?_
       refine bt ?_;refine gH ?_
       exact jx true hm O
      ·refine gX ?_
       refine br hm (fun hm=>?_) fun hm=>?_
       ·refine gX ?_
        refine bt ?_;refine gH ?_
        refine bt ?_;refine gH ?_
        exact jx true hm O
       ·refine gX ?_
        refine caW (probecardlaw25_equal_walk hm O.has) (LLe.cons (VLe.ofN) (LLe.cons (VLe.refl _ _) (LLe.cons (VLe.refl _ _) (LLe.cons (VLe.refl _ _) (LLe.nil _))))) fun r18 hm=>?_;refine gH ?_
        refine br hm (fun hm=>?_) fun hm=>?_
        ·refine gX ?_
         refine bt ?_;refine gH ?_
         exact jx true hm O
        ·refine gX ?_
         refine caW (probecardlaw25_least_walk hm O.has) (LLe.cons (VLe.ofN) (LLe.cons (VLe.refl _ _) (LLe.cons (VLe.ofN) (LLe.cons (VLe.refl _ _) (LLe.nil _))))) fun r19 hm=>?_;refine gH ?_
         refine br hm (fun hm=>?_) fun hm=>?_
         ·refine gX ?_
          exact jx true hm O
         ·refine gX ?_
          refine caW (probecardlaw25_least_walk hm O.has) (LLe.cons (VLe.ofN) (LLe.cons (VLe.refl _ _) (LLe.cons (VLe.ofN) (LLe.cons (VLe.refl _ _) (LLe.nil _))))) fun r20 hm=>?_;refine gH ?_
          exact jx (!r20) hm O
     ·clear hm;rintro v16 base h hm O
      refine gX ?_
      refine br hm (fun hm=>?_) fun hm=>?_
      ·refine gX ?_
       exact fe hm O
      ·refine gX ?_
       refine br hm (fun hm=>?_) fun hm=>?_
       ·refine gX ?_
        refine ca (law25_lives_walk hm O.has) fun r21 hm=>?_;refine gX ?_
        exact fe hm O
       ·refine gX ?_
        refine ldA (O.at (.head _)) ?_;refine gH ?_
        refine aSub hm fun hm=>?_;refine gH ?_
        refine ca (learns_Saturate_walk hm O.has) fun r22 hm=>?_;refine gX ?_
        refine br hm (fun hm=>?_) fun hm=>?_
        ·refine gX ?_
         refine caW (probecardlaw25_least_walk hm O.has) (LLe.cons (VLe.ofN) (LLe.cons (VLe.refl _ _) (LLe.cons (VLe.ofN) (LLe.cons (VLe.refl _ _) (LLe.nil _))))) fun r23 hm=>?_;refine gH ?_
         refine br hm (fun hm=>?_) fun hm=>?_
         ·refine gX ?_
          refine ca (law25_lives_walk hm O.has) fun r24 hm=>?_;refine gX ?_
          exact fe hm O
         ·refine gX ?_
          exact fe hm O
        ·refine gX ?_
         refine bf ?_;refine gX ?_
         exact fe hm O
theorem cc_circ (x:CData):CC (circN (plainC x)):=⟨pln_circ x,circ_few3 rfl⟩
theorem giv_given {c:Circ} (C:CC c) {l:List U2} (hl:l.length≤6):GivOk c (givenN c.nodes.length l)∧(givenN c.nodes.length l).length≤6:=by
 have hlen:(givenN c.nodes.length l).length≤6:=by unfold givenN;rw[List.length_map];exact hl
 exact⟨⟨given_ok C.p.good.pos,by omega⟩,hlen⟩
theorem cloR_err (o:Option (List Nat)):(cloR o).2.2=0:=by cases o <;> rfl
theorem plain24_vc {x:CData} (hx:CB x) {K:Circ→Prop} (h:K (circN (plainC x))):law24_Plain_wp x K:=by
 unfold law24_Plain_wp
 exact of_circ_vc (x:=plainC x) (plainC_ok hx) h
def satRes (o:Option (List Nat)):List Nat×Bool:=((cloR o).1,(cloR o).2.1)
def SatW (c:Circ) (d:Nat):Prop:=∀ given,GivOk c given→given.length<2 ^ 40→∀ K:List Nat×Bool→Prop,K (satRes (satO c d given))→probecardlaw25_saturated_f (d+1) c d given K
theorem satw_zero {c:Circ} (C:CC c):SatW c 0:=by
 intro given g gl K k
 rw[sat0 C g] at k
 unfold probecardlaw25_saturated_f
 refine clo_vc C.p C.f3 g ?_
 refine joinB (a:=true) (fun F=>⟨fun _=>F,fun _=>F⟩) ⟨fun _=>k,(fun e=>by cases e)⟩
theorem build_vc {v:List Nat} (hl:v.length≤2 ^ 40) {rest:List Asg→Prop} (h:rest (knownA v)) :
  joinW (α:=(List Asg)) (fun k64=>loopW (S:=((List Asg)×Nat)) (fun (v66,v67) nx69=>((ltN v67 v.length)=true→joinW (α:=(List Asg)) (fun k73=>∃ x74,v[v67]?=some x74∧((neN x74 2)=true→∃ x75,v[v67]?=some x75∧probecardlaw25_at_wp v67 x75 (fun r76=>(v66.length+([r76]:(List Asg)).length)*16≤2 ^ 47∧k73 (v66++([r76]:(List Asg)))))∧((neN x74 2)=false→k73 v66)) (fun v71=>v67+1<2 ^ 63∧nx69 (v71,(v67+1))))∧((ltN v67 v.length)=false→k64 v66)) (([]:List Asg),0)) rest:=by
 refine joinLoop (fun s=>s.2≤v.length∧s.1=knownP v s.2) (fun s=>v.length-s.2) (fun a=>a=knownA v) ?_ ⟨Nat.zero_le _,rfl⟩ (fun a e=>by rw[e];exact h)
 rintro k ⟨o,i⟩ nx ⟨hi,hI⟩ hnx hk
 dsimp only at hi hI
 refine⟨fun q=>?_,fun q=>?_⟩
 ·have q:i<v.length:=lt_t.1 q
  have hb:o.length≤2 ^ 40:=by rw[hI];have:=knownP_len v i;omega
  refine joinI ⟨_,getD_some q,fun e=>?_,fun e=>?_⟩
  ·have e:=ne_t.1 e
   refine⟨_,getD_some q,by simp only[List.length_singleton];omega,by omega,hnx _ ⟨q,?_⟩ (by dsimp only;omega)⟩
   dsimp only
   rw[hI]
   unfold knownP
   rw[filt_step,if_pos (by simpa using e),List.map_append]
   rfl
  ·have e:=ne_f.1 e
   refine⟨by omega,hnx _ ⟨q,?_⟩ (by dsimp only;omega)⟩
   dsimp only
   rw[hI]
   unfold knownP
   rw[filt_step,if_neg (by rw[e];simp),List.append_nil]
 ·have q:v.length≤i:=lt_f.1 q
  have:i=v.length:=by omega
  subst this
  exact hk o hI
theorem merge_vc {n:Nat} (hn:n<2 ^ 40) {lo hi:Option (List Nat)}{w z:List Nat}{ag:Bool} (hm:meetO lo hi=some z) (l1:∀ v,lo=some v→v.length=n) (l2:∀ v,hi=some v→v.length=n) (hw:LeN n w z) (hz:z.length=n) {rest:List Nat×Bool→Prop} (h:∀ g,(g=false→ag=false∧w=z)→(g=true→ag=true∨¬ w=z)→rest (z,g)) :
  loopW (S:=((List Nat)×Bool×Nat)) (fun (v109,v110,v111) nx112=>((ltN v111 v109.length)=true→joinW (α:=((List Nat)×Bool)) (fun k115=>joinW (α:=Nat) (fun k117=>((!(satRes lo).2)=true→∃ x118,(satRes hi).1[v111]?=some x118∧k117 x118)∧((!(satRes lo).2)=false→((!(satRes hi).2)=true→∃ x119,(satRes lo).1[v111]?=some x119∧k117 x119)∧((!(satRes hi).2)=false→∃ x120,(satRes lo).1[v111]?=some x120∧∃ x121,(satRes hi).1[v111]?=some x121∧((eqN x120 x121)=true→∃ x122,(satRes lo).1[v111]?=some x122∧k117 x122)∧((eqN x120 x121)=false→k117 2)))) (fun v116=>joinW (α:=Bool) (fun k124=>∃ x125,v109[v111]?=some x125∧((eqN x125 2)=true→k124 (neN v116 2))∧((eqN x125 2)=false→k124 false)) (fun v123=>(v123=true→∃ x126,v109[v111]?=some x126∧k115 ((v109.set v111 v116),true))∧(v123=false→k115 (v109,v110))))) (fun (v113,v114)=>v111+1<2 ^ 63∧nx112 (v113,v114,(v111+1))))∧((ltN v111 v109.length)=false→rest (v109,v110))) (w,ag,0):=by
 refine loopW_intro (fun s=>s.2.2≤n∧s.1.length=n∧(∀ j,j<s.2.2→s.1.getD j 0=z.getD j 0)∧(∀ j,s.2.2≤j→s.1.getD j 0=w.getD j 0)∧(s.2.1=false→ag=false∧∀ j,j<s.2.2→w.getD j 0=z.getD j 0)∧(s.2.1=true→ag=true∨∃ j,w.getD j 0≠z.getD j 0)) (fun s=>n-s.2.2) ?_ ⟨Nat.zero_le _,hw.1,fun _ h=>absurd h (Nat.not_lt_zero _),fun _ _=>rfl,fun e=>⟨e,fun _ h=>absurd h (Nat.not_lt_zero _)⟩,fun e=>.inl e⟩
 rintro⟨a,g,i⟩ nx ⟨hi',hal,hA,hB,hF,hT⟩ hnx
 dsimp only at hi' hal hA hB hF hT
 refine⟨fun q=>?_,fun q=>?_⟩
 ·have q:i<a.length:=lt_t.1 q
  have val:∀ {rest:Nat→Prop},rest (z.getD i 0)→joinW (α:=Nat) (fun k117=>((!(satRes lo).2)=true→∃ x118,(satRes hi).1[i]?=some x118∧k117 x118)∧((!(satRes lo).2)=false→((!(satRes hi).2)=true→∃ x119,(satRes lo).1[i]?=some x119∧k117 x119)∧((!(satRes hi).2)=false→∃ x120,(satRes lo).1[i]?=some x120∧∃ x121,(satRes hi).1[i]?=some x121∧((eqN x120 x121)=true→∃ x122,(satRes lo).1[i]?=some x122∧k117 x122)∧((eqN x120 x121)=false→k117 2)))) rest:=fun {rest} hr=>by
   cases lo with
   |none =>
    have hm:hi=some z:=hm
    subst hm
    exact joinI ⟨fun _=>⟨_,getN hz (by omega),hr⟩,(fun e=>by cases e)⟩
   |some x =>
    have hx:=l1 x rfl
    cases hi with
    |none =>
     cases hm
     exact joinI ⟨(fun e=>by cases e),fun _=>⟨fun _=>⟨_,getN hx (by omega),hr⟩,(fun e=>by cases e)⟩⟩
    |some y =>
     have hy:=l2 y rfl
     cases hm
     rw[joinedN_get (hx.trans hy.symm)] at hr
     unfold cm at hr
     refine joinI ⟨(fun e=>by cases e),fun _=>⟨(fun e=>by cases e),fun _=>⟨_,getN hx (by omega),_,getN hy (by omega),fun e=>⟨_,getN hx (by omega),?_⟩,fun e=>?_⟩⟩⟩
     ·rw[if_pos (show x.getD i 0=y.getD i 0 from eq_t.1 e)] at hr;exact hr
     ·rw[if_neg (show ¬ x.getD i 0=y.getD i 0 from eq_f.1 e)] at hr;exact hr
  refine joinI (val ?_)
  have keep:a.getD i 0=z.getD i 0→i+1<2 ^ 63∧nx (a,g,i+1):=fun e=>by
   refine⟨by omega,hnx _ ⟨by dsimp only;omega,hal,fun j hj=>?_,fun j hj=>hB j (by dsimp only at hj;omega),fun eg=>⟨(hF eg).1,fun j hj=>?_⟩,hT⟩ (by dsimp only;omega)⟩
   ·by_cases ej:j=i
    ·subst ej;exact e
    ·exact hA j (by dsimp only at hj;omega)
   ·by_cases ej:j=i
    ·subst ej;rw[← hB j (Nat.le_refl _)];exact e
    ·exact (hF eg).2 j (by dsimp only at hj;omega)
  have hBi:=hB i (Nat.le_refl _)
  refine joinI ⟨_,getN hal (by omega),fun e=>⟨fun e2=>⟨_,getN hal (by omega),by omega,hnx _ ⟨by dsimp only;omega,by dsimp only;rw[List.length_set];exact hal,fun j hj=>?_,fun j hj=>?_,(fun e=>by cases e),fun _=>.inr ⟨i,?_⟩⟩ (by dsimp only;omega)⟩,fun e2=>keep ?_⟩,fun e=>⟨(fun e=>by cases e),fun _=>keep ?_⟩⟩
  ·dsimp only at hj ⊢
   rw[getD_set (by omega)]
   split
   ·rename_i ej;rw[ej]
   ·exact hA j (by omega)
  ·dsimp only at hj ⊢
   rw[getD_set (by omega),if_neg (by omega)]
   exact hB j (by omega)
  ·rw[← hBi,eq_t.1 e];exact fun h=>ne_t.1 e2 h.symm
  ·rw[eq_t.1 e];exact (ne_f.1 e2).symm
  ·rcases hw.2 i with h|h
   ·exact absurd (hBi.trans h) (eq_f.1 e)
   ·exact hBi.trans h
 ·have q:a.length≤i:=lt_f.1 q
  have ea:a=z:=List.ext_getElem (hal.trans hz.symm) fun j h1 h2=>by
   have:=hA j (by omega)
   rw[List.getD,List.getElem?_eq_getElem h1,List.getD,List.getElem?_eq_getElem h2] at this
   exact this
  subst ea
  refine h g (fun e=>⟨(hF e).1,?_⟩) fun e=>(hT e).imp_right fun ⟨j,hj⟩ e2=>hj (by rw[e2])
  refine List.ext_getElem (hw.1.trans hz.symm) fun j h1 h2=>?_
  have:=(hF e).2 j (by omega)
  rw[List.getD,List.getElem?_eq_getElem h1,List.getD,List.getElem?_eq_getElem h2] at this
  exact this
theorem meet_some {n:Nat}{lo hi:Option (List Nat)}{w z:List Nat} (hm:meetO lo hi=some z) (s0:∀ a,lo=some a→LeN n w a∧a.length=n∧∀ j,a.getD j 0≤2) (s1:∀ a,hi=some a→LeN n w a∧a.length=n∧∀ j,a.getD j 0≤2):LeN n w z∧z.length=n∧∀ j,z.getD j 0≤2:=by
 cases lo with
 |none=>exact s1 z hm
 |some a =>
  obtain⟨a1,a2,a3⟩:=s0 a rfl
  cases hi with
  |none=>cases hm;exact⟨a1,a2,a3⟩
  |some b =>
   obtain⟨b1,b2,b3⟩:=s1 b rfl
   cases hm
   refine⟨meet_ge a2 b2 a1 b1,by rw[joinedN_len];exact a2,fun j=>?_⟩
   rw[joinedN_get (a2.trans b2.symm)]
   unfold cm
   split
   ·exact a3 j
   ·exact Nat.le_refl _
theorem satw_succ {c:Circ} (C:CC c) {d:Nat} (hd:d<90) (V:SatW c d):SatW c (d+1):=by
 intro given g gl K k
 have hc:=C.p.good.len
 have hpos:=C.p.good.pos
 have D:∀ e,e≤d→SatD c e:=fun e he=>satD C (by omega)
 have h1:∀ v,Lst (satP c (d+1)) given v→K (v,true):=fun v L=>by
  rw[show satO c (d+1) given=some v from lstO_ok satP_len L] at k;exact k
 have h2:(∀ t,satP c (d+1) t→¬ Ext given t)→K ([],false):=fun N=>by
  rw[show satO c (d+1) given=none from lstO_none N] at k;exact k
 clear k
 unfold probecardlaw25_saturated_f
 refine close_vc C.p C.f3 g.ok g.len (fun v0 D0=>?_) fun N=>joinB (a:=true) (fun F=>⟨fun _=>F,(fun e=>by cases e)⟩) ⟨fun _=>h2 fun t T E=>N t (cw_split.2 ⟨satP_cw T,E⟩),(fun e=>by cases e)⟩
 refine joinB (a:=false) (fun F=>⟨(fun e=>by cases e),fun _=>(by rw[show eqN (d+1) 0=false from eq_f.2 (by omega)];exact F)⟩) ⟨(fun e=>by cases e),fun _=>?_⟩
 refine joinLoop (fun s:List Nat×Bool=>(s.1.length=c.nodes.length∧∀ i,s.1.getD i 0≤2)∧Ext given s.1∧(∀ t,satP c (d+1) t→Ext given t→LeN c.nodes.length s.1 t)∧(s.2=false→satP c (d+1) s.1)) (fun s=>2*(17-(knownA s.1).length)+s.2.toNat) (fun v=>Lst (satP c (d+1)) given v) ?_ ⟨⟨D0.len,D0.le⟩,D0.giv,fun t T E=>⟨D0.len,D0.snd t (cw_split.2 ⟨satP_cw T,E⟩)⟩,(fun e=>by cases e)⟩ (fun v L=>h1 v L)
 rintro kk ⟨v,b⟩ next ⟨⟨hvl,Wle⟩,E,low,hsat⟩ hnext hkk
 dsimp only at hvl Wle E low hsat
 refine⟨fun q=>?_,fun q=>hkk v ⟨hsat q,E,fun t T Et=>by rw[hvl];exact low t T Et⟩⟩
 (try dsimp only at q)
 subst q
 have G0:=giv_known hvl hc Wle
 refine build_vc (by omega) ?_
 refine close_vc C.p C.f3 G0.ok G0.len (fun v' D'=>⟨(fun e=>by cases e),fun _=>?_⟩) fun N=>⟨fun _=>h2 fun t T Et=>N t (cw_split.2 ⟨satP_cw T,(known_ext hvl (satP_len t T)).2 (low t T Et)⟩),(fun e=>by cases e)⟩
 have hvv:LeN c.nodes.length v v':=(known_ext hvl D'.len).1 D'.giv
 have W':=(cw_split.1 D'.cw).1
 have hvl':=W'.len
 have low':∀ t,satP c (d+1) t→Ext given t→LeN c.nodes.length v' t:=fun t T Et=>⟨hvl',D'.snd t (cw_split.2 ⟨satP_cw T,(known_ext hvl (satP_len t T)).2 (low t T Et)⟩)⟩
 have kvv:=(known_grow hvv hvl').1
 clear hsat
 refine loopW_intro (fun s=>s.2.2≤c.nodes.length∧LeN c.nodes.length v' s.1∧s.1.length=c.nodes.length∧(∀ i,s.1.getD i 0≤2)∧(∀ t,satP c (d+1) t→Ext given t→LeN c.nodes.length s.1 t)∧(s.2.1=true→(knownA v').length<(knownA s.1).length)∧(s.2.1=false→s.1=v'∧∀ m,m<s.2.2→v'.getD m 0=2→leO c.nodes.length (meetO (satO c d (knownA v'++[⟨m,0⟩])) (satO c d (knownA v'++[⟨m,1⟩]))) v')) (fun s=>c.nodes.length-s.2.2) ?_ ⟨Nat.zero_le _,⟨hvl',fun _=>.inr rfl⟩,hvl',W'.le,low',(fun e=>by cases e),fun _=>⟨rfl,fun _ h=>absurd h (Nat.not_lt_zero _)⟩⟩
 rintro⟨w,ag,n⟩ nx ⟨hn,hge,hwl,hle,hlow,hT,hF⟩ hnx
 dsimp only at hn hge hwl hle hlow hT hF
 have hkw:=known_len w
 refine⟨fun q=>?_,fun q=>?_⟩
 rotate_left
 ·have q:w.length≤n:=lt_f.1 q
  refine hnext (w,ag) ⟨⟨hwl,hle⟩,(hvv.trans hge).ext (fun x m=>(g.ok x m).2) E,hlow,fun ea=>?_⟩ ?_
  ·dsimp only at ea ⊢
   obtain⟨ew,hs⟩:=hF ea
   subst ew
   exact⟨W',fun m hm h2=>hs m (by omega) h2⟩
  ·dsimp only
   have:=(known_grow hge hwl).1
   cases ag with
   |true=>have:=hT rfl;simp only[Bool.toNat_true];omega
   |false=>simp only[Bool.toNat_false,Bool.toNat_true];omega
 have q:n<w.length:=lt_t.1 q
 have hin:n<c.nodes.length:=by omega
 refine joinI ⟨_,getN hwl hin,fun e=>?_,fun e=>?_⟩
 ·have e:=ne_t.1 e
  refine⟨by omega,hnx _ ⟨hin,hge,hwl,hle,hlow,hT,fun ea=>⟨(hF ea).1,fun m hm hm2=>?_⟩⟩ (by dsimp only;omega)⟩
  by_cases em:m=n
  ·subst em;rw[(hF ea).1] at e;exact absurd hm2 e
  ·exact (hF ea).2 m (by dsimp only at hm;omega) hm2
 have e:=ne_f.1 e
 have G:=giv_known hwl hc hle
 have hG0:GivOk c (knownA w++[⟨n,0⟩]):=G.snoc (by omega) hin (Nat.zero_le _)
 have hG1:GivOk c (knownA w++[⟨n,1⟩]):=G.snoc (by omega) hin (Nat.le_refl _)
 have gl0:∀ x,(knownA w++[(⟨n,x⟩:Asg)]).length<2 ^ 40:=fun x=>by rw[List.length_append,List.length_singleton];omega
 refine build_vc (by omega) ⟨by omega,by omega,by simp only[List.length_nil];omega,by simp only[List.nil_append,List.length_singleton];omega,?_⟩
 refine V _ hG0 (gl0 0) _ ⟨by omega,by omega,by simp only[List.length_nil];omega,by simp only[List.nil_append,List.length_singleton];omega,V _ hG1 (gl0 1) _ ?_⟩
 have targ:∀ t,satP c (d+1) t→Ext given t→leO c.nodes.length (meetO (satO c d (knownA w++[⟨n,0⟩])) (satO c d (knownA w++[⟨n,1⟩]))) t:=fun t T Et=>sat_meet hc D T (hlow t T Et) hle hin
 have side:∀ {x:Nat} (a:List Nat),satO c d (knownA w++[⟨n,x⟩])=some a→LeN c.nodes.length w a∧a.length=c.nodes.length∧∀ j,a.getD j 0≤2:=fun {x} a ea=>by
  have L:=lstO_some ea
  have al:=satP_len a L.mem
  exact⟨(known_ext hwl al).1 (ext_snoc.1 L.ext).1,al,(satP_cw L.mem).le⟩
 have s0:=@side 0
 have s1:=@side 1
 clear side
 have eqv:∀ z,meetO (satO c d (knownA w++[⟨n,0⟩])) (satO c d (knownA w++[⟨n,1⟩]))=some z→w=v'→z=v'→leO c.nodes.length (meetO (satO c d (knownA v'++[⟨n,0⟩])) (satO c d (knownA v'++[⟨n,1⟩]))) v':=fun z ez ew ez2=>by
  subst ew
  rw[ez,ez2]
  exact⟨_,rfl,hvl',fun _=>.inr rfl⟩
 generalize satO c d (knownA w++[⟨n,0⟩])=lo at targ s0 eqv ⊢
 generalize satO c d (knownA w++[⟨n,1⟩])=hi at targ s1 eqv ⊢
 cases hm:meetO lo hi with
 |none =>
  rw[hm] at targ
  have e0:lo=none:=by cases lo <;> cases hi <;> first|rfl|cases hm
  have e1:hi=none:=by subst e0;exact hm
  subst e0;subst e1
  exact joinB (a:=true) (fun F=>⟨fun _=>F,(fun e=>by cases e)⟩) ⟨fun _=>h2 fun t T Et=>(by obtain⟨z,ez,_⟩:=targ t T Et;cases ez),(fun e=>by cases e)⟩
 |some z =>
  obtain⟨hwz,hzl,hzle⟩:=meet_some hm s0 s1
  rw[hm] at targ
  refine joinB (a:=false) (fun F=>?_) ⟨(fun e=>by cases e),fun _=>?_⟩
  ·cases lo with
   |none =>
    have hm:hi=some z:=hm
    subst hm
    exact⟨fun _=>F,fun _=>F⟩
   |some a=>exact⟨(fun e=>by cases e),fun _=>F⟩
  refine merge_vc (n:=c.nodes.length) (ag:=ag) (rest:=fun x=>n+1<2 ^ 63∧nx (x.1,x.2,n+1)) (by omega) hm (fun v e=>(s0 v e).2.1) (fun v e=>(s1 v e).2.1) hwz hzl fun gg g1 g2=>?_
  have kg:=known_grow hwz hzl
  have kge:=(known_grow hge hwl).1
  refine⟨by omega,hnx _ ⟨hin,hge.trans hwz,hzl,hzle,fun t T Et=>?_,fun eg=>?_,fun eg=>?_⟩ (by dsimp only;omega)⟩
  ·obtain⟨y,ey,hy⟩:=targ t T Et
   cases ey;exact hy
  ·dsimp only
   rcases g2 eg with ea|ne
   ·have:=hT ea;omega
   ·have:¬ (knownA z).length≤(knownA w).length:=fun h=>ne (kg.2 h)
    omega
  ·obtain⟨ea,ewz⟩:=g1 eg
   obtain⟨ew,hs⟩:=hF ea
   dsimp only
   refine⟨ewz.symm.trans ew,fun m hm2 h2=>?_⟩
   by_cases em:m=n
   ·subst em;exact eqv z hm ew (ewz.symm.trans ew)
   ·exact hs m (by omega) h2
theorem satw_all {c:Circ} (C:CC c):∀ d,d<80→SatW c d
 |0,_=>satw_zero C
 |d+1,h=>satw_succ C (by omega) (satw_all C d (by omega))
theorem saturated_vc {c:Circ} (C:CC c) {d:Nat} (hd:d<80) {given:List Asg} (g:GivOk c given) (gl:given.length<2 ^ 40) {K:List Nat×Bool→Prop} (k:K (satRes (satO c d given))):probecardlaw25_saturated_wp c d given K :=
 ⟨d+1,satw_all C d hd given g gl K k⟩
theorem cloR_len {o:Option (List Nat)}{n:Nat} (hn:n<2 ^ 60) (h:∀ v,o=some v→v.length=n):(cloR o).1.length<2 ^ 60:=by
 cases o with
 |none=>exact Nat.two_pow_pos _
 |some v=>have:=h v rfl;show v.length<_;omega
theorem satO_len {c:Circ}{d:Nat}{g:List Asg}:∀ v,satO c d g=some v→v.length=c.nodes.length:=fun v e=>satP_len v (lstO_some e).mem
theorem pick_vc {b:Bool}{a1 a2:Nat}{rest:Nat→Prop} (h1:a1≤2) (h2:a2≤2) (h:∀ d,d≤2→rest d):joinW (α:=Nat) (fun k=>(b=true→k a1)∧(b=false→k a2)) rest:=⟨fun _=>h _ h1,fun _=>h _ h2⟩
theorem learnsSaturates_vc {x:CData} (hx:CB x) {l:List U2} (hl:∀ u∈l,u.a<256) {n:Nat} (_hn:n<256):probecardlaw25_LearnsSaturates_wp x l n (· = true):=by
 unfold probecardlaw25_LearnsSaturates_wp
 refine⟨fun _=>rfl,fun q=>?_⟩
 have q:=lt_f.1 q
 refine plain24_vc hx ?_
 have C:=cc_circ x
 generalize circN (plainC x)=c at C ⊢
 have hc:=C.p.good.len
 refine given_vc C.p.good.pos hl (by omega) ?_
 obtain⟨g,gl⟩:=giv_given C (l:=l) (by omega)
 generalize givenN c.nodes.length l=given at g gl ⊢
 have gd:GivOk c (given.drop (given.length/2)):=⟨fun a m=>g.ok a (List.mem_of_mem_drop m),by rw[List.length_drop];omega⟩
 have lb:∀ {d:Nat} {g:List Asg},(cloR (satO c d g)).1.length<2 ^ 60:=fun {d g}=>cloR_len (n:=c.nodes.length) (by omega) satO_len
 refine⟨by decide,by omega,?_⟩
 refine pick_vc (by omega) (by omega) fun d hd=>?_
 refine lSaturate_vc C (by omega) g (saturated_vc C (by omega) g (by omega) ?_)
 refine joinB (a:=false) (fun F=>⟨fun e=>absurd (cloR_err _) (ne_t.1 e),fun _=>equal_vc (a:=(cloR (satO c d given)).1) (x:=(cloR (satO c d given)).2.1) lb F⟩) ⟨(fun e=>by cases e),fun _=>?_⟩
 refine lSaturate_vc C (by omega) g (clo_vc C.p C.f3 g ⟨by decide,by omega,by omega,lSaturate_vc C (by omega) gd ?_⟩)
 have le0:leOO c.nodes.length (satO c 0 given) (satO c d given):=satO_le (P:=satP c 0) (Q:=satP c d) satP_len (fun t h=>satP_cw (d:=d) h) (fun _ _ e=>e) (satD C (by omega) given g)
 have led:leOO c.nodes.length (satO c d (given.drop (given.length/2))) (satO c d given):=satO_le (P:=satP c d) (Q:=satP c d) satP_len (fun t h=>h) (fun t _ e a m=>e a (List.mem_of_mem_drop m)) (satD C (by omega) _ gd)
 refine joinB (a:=false) (fun F=>⟨fun e=>absurd (cloR_err _) (ne_t.1 e),fun _=>⟨fun e=>absurd (cloR_err _) (ne_t.1 e),fun _=>?_⟩⟩) ⟨(fun e=>by cases e),fun _=>⟨fun _=>rfl,fun e=>?_⟩⟩
 ·rw[sat0 C g]
  rw[sat0 C g] at le0
  have l0:=lb (d:=0) (g:=given)
  rw[sat0 C g] at l0
  exact equal_vc l0 ⟨(fun e=>by cases e),fun _=>least_vc (by omega) le0 ⟨(fun e=>by cases e),fun _=>least_vc (by omega) led F⟩⟩
 ·have hd1:=eq_f.1 e
  obtain⟨d,rfl⟩:∃ d',d=d'+1:=⟨d-1,by omega⟩
  have lem:leOO c.nodes.length (satO c d given) (satO c (d+1) given):=satO_le (P:=satP c d) (Q:=satP c (d+1)) satP_len (fun t h=>satP_down hc (fun e _=>satD C (by omega)) h) (fun _ _ e=>e) (satD C (by omega) given g)
  exact⟨by omega,by omega,lSaturate_vc C (d:=d) (by omega) g ⟨fun _=>least_vc (by omega) lem ⟨fun _=>rfl,(fun e=>by cases e)⟩,fun e=>absurd (cloR_err _) (eq_f.1 e)⟩⟩
def learnsSaturates_sh:List (Sh×Bool):=[(shC,true),(.slice shU2,false),(shB,false)]
theorem learnsSaturates_call (x:DenL learnsSaturates_sh) (w:wfL learnsSaturates_sh x):FnV Tryz.prog NG vars 5 ⟨argL learnsSaturates_sh x⟩ (.bool true):=by
 obtain⟨c,vs,n,u⟩:=x
 obtain⟨wc,wv,wn,_⟩:=w
 obtain⟨y,hy,e1⟩:=c_arg wc
 obtain⟨l,hl,e2⟩:=pairs_arg wv
 obtain⟨n,hn,rfl⟩:=byte_of wn
 have e:argL learnsSaturates_sh (c,vs,Int.ofNat n,u)=[encC y,encL 2 encU2 l,n8 n]:=by
  show [elV (!true) (shC.cellsF c),elV (!false) ((Sh.slice shU2).cellsF vs),elV (!false) (shB.cellsF (Int.ofNat n))]=_
  rw[e1,e2];rfl
 rw[e]
 exact FnV.of_walk (enc:=Value.bool) (r:=true) (PureV.flat rfl) fun h hB=>probecardlaw25_LearnsSaturates_walk (learnsSaturates_vc hy (fun u m=>(hl u m).1) hn) hB
end Go.Proofs.YtfhldkgelipnaaaGreatDoor
