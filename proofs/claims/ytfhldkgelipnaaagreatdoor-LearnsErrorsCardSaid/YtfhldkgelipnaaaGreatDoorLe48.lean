/-
  R4, QL, Lw2, Q7, Ez, Pi1, Ms, S1, Pj1, Ez3, Z0, Ez4, Z1, Q16, LearnsErrors: parts of the proof.
-/
import Derived.Test.YtfhldkgelipnaaaGreatDoorLe47
namespace Go.Proofs.YtfhldkgelipnaaaGreatDoor
open Go.Abs
set_option maxRecDepth 100000
set_option maxHeartbeats 8000000
def probecardlaw25_lives_wp  (K:Bool→Prop):Prop :=
 probecardlaw25_example_wp  (fun r1=>probecardlaw25_at_wp 5 1 (fun r6=>1=([r6]:(List Asg)).length∧learns_Saturate_wp r1 0 ([r6]:(List Asg)) (fun r9=>probecardlaw25_at_wp 5 1 (fun r11=>1=([r11]:(List Asg)).length∧learns_Saturate_wp r1 1 ([r11]:(List Asg)) (fun r14=>learns_Static_wp r1 (fun r16=>learns_Static_wp (⟨([(⟨0,([]:(List Nat)),0,0⟩:Node),(⟨4,([0]:(List Nat)),0,0⟩:Node),(⟨5,([0,1]:(List Nat)),0,0⟩:Node)]:(List Node)),([(⟨#[97]⟩:ByteArray),(⟨#[98]⟩:ByteArray),(⟨#[99]⟩:ByteArray)]:(List ByteArray)),([]:(List Memo)),([2]:(List Nat))⟩:Circ) (fun r17=>learns_Saturate_wp (⟨([(⟨0,([]:(List Nat)),0,0⟩:Node),(⟨4,([0]:(List Nat)),0,0⟩:Node),(⟨5,([0,1]:(List Nat)),0,0⟩:Node)]:(List Node)),([(⟨#[97]⟩:ByteArray),(⟨#[98]⟩:ByteArray),(⟨#[99]⟩:ByteArray)]:(List ByteArray)),([]:(List Memo)),([2]:(List Nat))⟩:Circ) 1 ([]:(List Asg)) (fun r18=>joinW (α:=Bool) (fun k20=>((neN r9.2.2 0)=true→k20 true)∧((neN r9.2.2 0)=false→((neN r14.2.2 0)=true→k20 true)∧((neN r14.2.2 0)=false→((neN r16.2 0)=true→k20 true)∧((neN r16.2 0)=false→((neN r17.2 0)=true→k20 true)∧((neN r17.2 0)=false→((neN r18.2.2 0)=true→k20 true)∧((neN r18.2.2 0)=false→probecardlaw25_equal_wp r9.1 r9.2.1 ([2,2,2,2,2,1]:(List Nat)) true (fun r21=>((!r21)=true→k20 true)∧((!r21)=false→probecardlaw25_equal_wp r14.1 r14.2.1 ([2,1,2,2,2,1]:(List Nat)) true (fun r22=>((!r22)=true→k20 true)∧((!r22)=false→probecardlaw25_equal_wp r18.1 r18.2.1 ([2,2,0]:(List Nat)) true (fun r23=>k20 (!r23)))))))))))) (fun v19=>(v19=true→K false)∧(v19=false→joinW (α:=Bool) (fun k25=>((neN r16.1.length 1)=true→k25 true)∧((neN r16.1.length 1)=false→∃ x26,r16.1[0]?=some x26∧probecardlaw25_at_wp 5 1 (fun r27=>probecardlaw25_at_wp 1 1 (fun r28=>((!(((eqN x26.cond.net r27.net)&&((eqN x26.cond.value r27.value)&&true))&&(((eqN x26.thn.net r28.net)&&((eqN x26.thn.value r28.value)&&true))&&true)))=true→k25 true)∧((!(((eqN x26.cond.net r27.net)&&((eqN x26.cond.value r27.value)&&true))&&(((eqN x26.thn.net r28.net)&&((eqN x26.thn.value r28.value)&&true))&&true)))=false→((neN r17.1.length 1)=true→k25 true)∧((neN r17.1.length 1)=false→∃ x29,r17.1[0]?=some x29∧probecardlaw25_at_wp 2 1 (fun r30=>probecardlaw25_at_wp 2 0 (fun r31=>k25 (!(((eqN x29.cond.net r30.net)&&((eqN x29.cond.value r30.value)&&true))&&(((eqN x29.thn.net r31.net)&&((eqN x29.thn.value r31.value)&&true))&&true))))))))))) (fun v24=>(v24=true→K false)∧(v24=false→probecardlaw25_at_wp 2 1 (fun r32=>1=([r32]:(List Asg)).length∧learns_Close_wp (⟨([(⟨0,([]:(List Nat)),0,0⟩:Node),(⟨4,([0]:(List Nat)),0,0⟩:Node),(⟨5,([0,1]:(List Nat)),0,0⟩:Node)]:(List Node)),([(⟨#[97]⟩:ByteArray),(⟨#[98]⟩:ByteArray),(⟨#[99]⟩:ByteArray)]:(List ByteArray)),([]:(List Memo)),([2]:(List Nat))⟩:Circ) r17.1 ([r32]:(List Asg)) (fun r35=>probecardlaw25_at_wp 0 1 (fun r37=>probecardlaw25_at_wp 1 1 (fun r38=>probecardlaw25_at_wp 0 1 (fun r41=>1=([(⟨r37,r38⟩:Lawv)]:(List Lawv)).length∧1=([r41]:(List Asg)).length∧learns_Close_wp r1 ([(⟨r37,r38⟩:Lawv)]:(List Lawv)) ([r41]:(List Asg)) (fun r44=>((eqN r35.2.2 0)=true→((!r35.2.1)=true→((eqN r44.2.2 0)=true→probecardlaw25_equal_wp r44.1 r44.2.1 ([1,1,1,0,0,1]:(List Nat)) true (fun r49=>K r49))∧((eqN r44.2.2 0)=false→K false))∧((!r35.2.1)=false→K false))∧((eqN r35.2.2 0)=false→K false)))))))))))))))))))
theorem probecardlaw25_lives_walk  {K:Bool→Prop} (hm:probecardlaw25_lives_wp  K) {h0:Heap} (hB:HasB vars h0):∃ r,K r∧CallD Tryz.prog NG 23 ⟨[]⟩ h0 (Value.bool r) h0:=by
 unfold probecardlaw25_lives_wp at hm
 refine fw Tryz.func23 hB (enc:=Value.bool) (fun r=>PureV.flat rfl) fun O=>?_;conv=>whnf
 refine gX ?_
 refine ca (probecardlaw25_example_walk hm O.has) fun r1 hm=>?_;refine gH ?_
 refine O.new (anew_alloc (l:=[(.slice none 0 0),(.slice none 0 0),(.slice none 0 0),(.slice none 0 0)]) rfl rfl rfl) fun g2 h O=>?_;refine gH ?_
 refine O.stC 4 (.head _) [((encL 4 encNode) r1.nodes),((encL 1 Value.string) r1.names),((encL 3 encMem) r1.mems),((encL 1 i64) r1.outs)] fun h O=>?_;refine gX ?_
 refine fz ?_;refine gH ?_
 refine fz ?_;refine gH ?_
 refine NewG.frzW rfl (VLe.els (s:=4) (es':=([(⟨0,([]:(List Nat)),0,0⟩:Node),(⟨4,([0]:(List Nat)),0,0⟩:Node),(⟨5,([0,1]:(List Nat)),0,0⟩:Node)]).map encNode) rfl (map_size (enc:=encNode) (s:=4) (fun _=>rfl) _) (LLe.cons (VLe.refl _ _) (LLe.cons (VLe.nil _ _) (LLe.cons (VLe.refl _ _) (LLe.cons (VLe.refl _ _) (LLe.cons (VLe.refl _ _) (LLe.cons (VLe.refl _ _) (LLe.cons (VLe.refl _ _) (LLe.cons (VLe.refl _ _) (LLe.cons (VLe.refl _ _) (LLe.cons (VLe.refl _ _) (LLe.cons (VLe.refl _ _) (LLe.cons (VLe.refl _ _) (LLe.nil _)))))))))))))) ?_;refine gH ?_
 refine fz ?_;refine gH ?_
 refine fz ?_;refine gH ?_
 refine O.new (anew_alloc (l:=[(.slice none 0 0),(.slice none 0 0),(.slice none 0 0),(.slice none 0 0)]) rfl rfl rfl) fun g4 h O=>?_;refine gH ?_
 refine O.stC 4 (.head _) [((encL 4 encNode) ([(⟨0,([]:(List Nat)),0,0⟩:Node),(⟨4,([0]:(List Nat)),0,0⟩:Node),(⟨5,([0,1]:(List Nat)),0,0⟩:Node)]:(List Node))),((encL 1 Value.string) ([(⟨#[97]⟩:ByteArray),(⟨#[98]⟩:ByteArray),(⟨#[99]⟩:ByteArray)]:(List ByteArray))),(.slice none 0 0),((encL 1 i64) ([2]:(List Nat)))] fun h O=>?_;refine gX ?_
 refine ldA (O.at (.tail _ (.head _))) ?_;refine gH ?_
 first|refine⟨.inr (.inr (loadAggK rfl (O.at (.tail _ (.head _))) rfl rfl (lbE rfl) rfl)),?_⟩|refine⟨.inr (.inl (by kernel_rfl)),?_⟩
 refine gX ?_
 refine ca (probecardlaw25_at_walk hm O.has) fun r6 hm=>?_;refine gH ?_
 refine⟨.inl (Ext.refl _),?_⟩;refine gH ?_
 refine O.buildLX (l:=([r6]:(List Asg))) (enc:=encAsg) (s:=2) (z:=(.agg ⟨[(i64 0),(n8 0)]⟩)) rfl rfl (by kernel_rfl) (by kernel_rfl) rfl rfl rfl rfl (fun _=>rfl) fun g7 h O=>?_;refine gH ?_
 obtain⟨hn10,hm⟩:=hm
 refine O.useL (fun _ hb=>learns_Saturate_walk hm hb) (.head _) hn10 (fun _=>rfl) (i:=2) rfl (by kernel_rfl) (fun h2 q=>(LLe.cons (VLe.refl _ _) (LLe.cons (VLe.refl _ _) (LLe.cons (q) (LLe.nil _))))) (fun r9 h hm' O=>?_);replace hm:=hm';refine gH ?_
 refine⟨.inr (by kernel_rfl),?_⟩;refine gH ?_
 refine gX ?_
 refine ldA (O.at (.tail _ (.tail _ (.head _)))) ?_;refine gH ?_
 first|refine⟨.inr (.inr (loadAggK rfl (O.at (.tail _ (.tail _ (.head _)))) rfl rfl (lbE rfl) rfl)),?_⟩|refine⟨.inr (.inl (by kernel_rfl)),?_⟩
 refine gX ?_
 refine ca (probecardlaw25_at_walk hm O.has) fun r11 hm=>?_;refine gH ?_
 refine⟨.inl (Ext.refl _),?_⟩;refine gH ?_
 refine O.buildLX (l:=([r11]:(List Asg))) (enc:=encAsg) (s:=2) (z:=(.agg ⟨[(i64 0),(n8 0)]⟩)) rfl rfl (by kernel_rfl) (by kernel_rfl) rfl rfl rfl rfl (fun _=>rfl) fun g12 h O=>?_;refine gH ?_
 obtain⟨hn15,hm⟩:=hm
 refine O.useL (fun _ hb=>learns_Saturate_walk hm hb) (.head _) hn15 (fun _=>rfl) (i:=2) rfl (by kernel_rfl) (fun h2 q=>(LLe.cons (VLe.refl _ _) (LLe.cons (VLe.refl _ _) (LLe.cons (q) (LLe.nil _))))) (fun r14 h hm' O=>?_);replace hm:=hm';refine gH ?_
 refine⟨.inr (by kernel_rfl),?_⟩;refine gH ?_
 refine gX ?_
 refine ldA (O.at (.tail _ (.tail _ (.tail _ (.head _))))) ?_;refine gH ?_
 refine ca (learns_Static_walk hm O.has) fun r16 hm=>?_;refine gX ?_
 refine ldA (O.at (.tail _ (.tail _ (.head _)))) ?_;refine gH ?_
 refine caW (learns_Static_walk hm O.has) (LLe.cons (VLe.agg (LLe.cons (VLe.refl _ _) (LLe.cons (VLe.refl _ _) (LLe.cons (VLe.nil _ _) (LLe.cons (VLe.refl _ _) (LLe.nil _)))))) (LLe.nil _)) fun r17 hm=>?_;refine gX ?_
 refine ldA (O.at (.tail _ (.tail _ (.head _)))) ?_;refine gH ?_
 refine caW (learns_Saturate_walk hm O.has) (LLe.cons (VLe.agg (LLe.cons (VLe.refl _ _) (LLe.cons (VLe.refl _ _) (LLe.cons (VLe.nil _ _) (LLe.cons (VLe.refl _ _) (LLe.nil _)))))) (LLe.cons (VLe.refl _ _) (LLe.cons (VLe.nil _ _) (LLe.nil _)))) fun r18 hm=>?_;refine gH ?_
 apply Cs;conv=>whnf
 refine jn hm 178 [2,3,10,12] (fun s=>s) (fun v19 h=>Own vars h0 [((some g2),.cells [((encL 4 encNode) r1.nodes),((encL 1 Value.string) r1.names),((encL 3 encMem) r1.mems),((encL 1 i64) r1.outs)] false),((some g4),.cells [((encL 4 encNode) ([(⟨0,([]:(List Nat)),0,0⟩:Node),(⟨4,([0]:(List Nat)),0,0⟩:Node),(⟨5,([0,1]:(List Nat)),0,0⟩:Node)]:(List Node))),((encL 1 Value.string) ([(⟨#[97]⟩:ByteArray),(⟨#[98]⟩:ByteArray),(⟨#[99]⟩:ByteArray)]:(List ByteArray))),(.slice none 0 0),((encL 1 i64) ([2]:(List Nat)))] false)] h) (fun v19=>[(114,(.bool v19))]) (fun hm=>?_) ?_
 ·refine gX ?_
  refine br hm (fun hm=>?_) fun hm=>?_
  ·refine gX ?_
   refine bt ?_;refine gH ?_
   refine bt ?_;refine gH ?_
   refine bt ?_;refine gH ?_
   refine bt ?_;refine gH ?_
   refine bt ?_;refine gH ?_
   refine bt ?_;refine gH ?_
   exact jx true hm (O.sel [3,2] (by decide))
  ·refine gX ?_
   refine br hm (fun hm=>?_) fun hm=>?_
   ·refine gX ?_
    refine bt ?_;refine gH ?_
    refine bt ?_;refine gH ?_
    refine bt ?_;refine gH ?_
    refine bt ?_;refine gH ?_
    refine bt ?_;refine gH ?_
    exact jx true hm (O.sel [3,2] (by decide))
   ·refine gX ?_
    refine br hm (fun hm=>?_) fun hm=>?_
    ·refine gX ?_
     refine bt ?_;refine gH ?_
     refine bt ?_;refine gH ?_
     refine bt ?_;refine gH ?_
     refine bt ?_;refine gH ?_
     exact jx true hm (O.sel [3,2] (by decide))
    ·refine gX ?_
     refine br hm (fun hm=>?_) fun hm=>?_
     ·refine gX ?_
      refine bt ?_;refine gH ?_
      refine bt ?_;refine gH ?_
      refine bt ?_;refine gH ?_
      exact jx true hm (O.sel [3,2] (by decide))
     ·refine gX ?_
      refine br hm (fun hm=>?_) fun hm=>?_
      ·refine gX ?_
       refine bt ?_;refine gH ?_
       refine bt ?_;refine gH ?_
       exact jx true hm (O.sel [3,2] (by decide))
      ·refine gX ?_
       refine fz ?_;refine gH ?_
       refine caW (probecardlaw25_equal_walk hm O.has) (LLe.cons (VLe.ofN) (LLe.cons (VLe.refl _ _) (LLe.cons (VLe.refl _ _) (LLe.cons (VLe.refl _ _) (LLe.nil _))))) fun r21 hm=>?_;refine gH ?_
       refine br hm (fun hm=>?_) fun hm=>?_
       ·refine gX ?_
        refine bt ?_;refine gH ?_
        exact jx true hm (O.sel [3,2] (by decide))
       ·refine gX ?_
        refine fz ?_;refine gH ?_
        refine caW (probecardlaw25_equal_walk hm O.has) (LLe.cons (VLe.ofN) (LLe.cons (VLe.refl _ _) (LLe.cons (VLe.refl _ _) (LLe.cons (VLe.refl _ _) (LLe.nil _))))) fun r22 hm=>?_;refine gH ?_
        refine br hm (fun hm=>?_) fun hm=>?_
        ·refine gX ?_
         exact jx true hm (O.sel [3,2] (by decide))
        ·refine gX ?_
         refine fz ?_;refine gH ?_
         refine caW (probecardlaw25_equal_walk hm O.has) (LLe.cons (VLe.ofN) (LLe.cons (VLe.refl _ _) (LLe.cons (VLe.refl _ _) (LLe.cons (VLe.refl _ _) (LLe.nil _))))) fun r23 hm=>?_;refine gH ?_
         exact jx (!r23) hm (O.sel [3,2] (by decide))
 ·clear hm;rintro v19 base h hm O
  refine gX ?_
  refine br hm (fun hm=>?_) fun hm=>?_
  ·refine gX ?_
   exact fe hm O
  ·apply Cs;conv=>whnf
   apply Cs;conv=>whnf
   refine jn hm 178 [2,3,12] (fun s=>s) (fun v24 h=>Own vars h0 [((some g2),.cells [((encL 4 encNode) r1.nodes),((encL 1 Value.string) r1.names),((encL 3 encMem) r1.mems),((encL 1 i64) r1.outs)] false),((some g4),.cells [((encL 4 encNode) ([(⟨0,([]:(List Nat)),0,0⟩:Node),(⟨4,([0]:(List Nat)),0,0⟩:Node),(⟨5,([0,1]:(List Nat)),0,0⟩:Node)]:(List Node))),((encL 1 Value.string) ([(⟨#[97]⟩:ByteArray),(⟨#[98]⟩:ByteArray),(⟨#[99]⟩:ByteArray)]:(List ByteArray))),(.slice none 0 0),((encL 1 i64) ([2]:(List Nat)))] false)] h) (fun v24=>[(140,(.bool v24))]) (fun hm=>?_) ?_
   ·refine gX ?_
    refine br hm (fun hm=>?_) fun hm=>?_
    ·refine gX ?_
     refine bt ?_;refine gH ?_
     refine bt ?_;refine gH ?_
     exact jx true hm O
    ·refine gX ?_
     refine atF hm fun x26 hx26 hm=>?_;refine gH ?_
     first|refine⟨.inr (.inr (rfl)),?_⟩|refine⟨.inr (.inl (by kernel_rfl)),?_⟩
     refine gX ?_
     refine ca (probecardlaw25_at_walk hm O.has) fun r27 hm=>?_;refine gH ?_
     refine⟨.inl (Ext.refl _),?_⟩;refine gH ?_
     refine ca (probecardlaw25_at_walk hm O.has) fun r28 hm=>?_;refine gH ?_
     refine⟨.inl (Ext.refl _),?_⟩;refine gH ?_
     refine⟨.bool (!(((eqN x26.cond.net r27.net)&&((eqN x26.cond.value r27.value)&&true))&&(((eqN x26.thn.net r28.net)&&((eqN x26.thn.value r28.value)&&true))&&true))),by kernel_rfl,?_⟩;refine gH ?_
     refine br hm (fun hm=>?_) fun hm=>?_
     ·refine gX ?_
      refine bt ?_;refine gH ?_
      exact jx true hm O
     ·refine gX ?_
      refine br hm (fun hm=>?_) fun hm=>?_
      ·refine gX ?_
       exact jx true hm O
      ·refine gX ?_
       refine atF hm fun x29 hx29 hm=>?_;refine gH ?_
       first|refine⟨.inr (.inr (rfl)),?_⟩|refine⟨.inr (.inl (by kernel_rfl)),?_⟩
       refine gX ?_
       refine ca (probecardlaw25_at_walk hm O.has) fun r30 hm=>?_;refine gH ?_
       refine⟨.inl (Ext.refl _),?_⟩;refine gH ?_
       refine ca (probecardlaw25_at_walk hm O.has) fun r31 hm=>?_;refine gH ?_
       refine⟨.inl (Ext.refl _),?_⟩;refine gH ?_
       refine⟨.bool (!(((eqN x29.cond.net r30.net)&&((eqN x29.cond.value r30.value)&&true))&&(((eqN x29.thn.net r31.net)&&((eqN x29.thn.value r31.value)&&true))&&true))),by kernel_rfl,?_⟩;refine gH ?_
       exact jx (!(((eqN x29.cond.net r30.net)&&((eqN x29.cond.value r30.value)&&true))&&(((eqN x29.thn.net r31.net)&&((eqN x29.thn.value r31.value)&&true))&&true))) hm O
   ·clear hm;rintro v24 base h hm O
    refine gX ?_
    refine br hm (fun hm=>?_) fun hm=>?_
    ·refine gX ?_
     exact fe hm O
    ·refine gX ?_
     refine ldA (O.at (.tail _ (.head _))) ?_;refine gH ?_
     first|refine⟨.inr (.inr (loadAggK rfl (O.at (.tail _ (.head _))) rfl rfl (lbE rfl) rfl)),?_⟩|refine⟨.inr (.inl (by kernel_rfl)),?_⟩
     refine gX ?_
     refine ca (probecardlaw25_at_walk hm O.has) fun r32 hm=>?_;refine gH ?_
     refine⟨.inl (Ext.refl _),?_⟩;refine gH ?_
     refine O.buildLX (l:=([r32]:(List Asg))) (enc:=encAsg) (s:=2) (z:=(.agg ⟨[(i64 0),(n8 0)]⟩)) rfl rfl (by kernel_rfl) (by kernel_rfl) rfl rfl rfl rfl (fun _=>rfl) fun g33 h O=>?_;refine gH ?_
     obtain⟨hn36,hm⟩:=hm
     refine O.useL (fun _ hb=>learns_Close_walk hm hb) (.head _) hn36 (fun _=>rfl) (i:=2) rfl (by kernel_rfl) (fun h2 q=>(LLe.cons (VLe.agg (LLe.cons (VLe.refl _ _) (LLe.cons (VLe.refl _ _) (LLe.cons (VLe.nil _ _) (LLe.cons (VLe.refl _ _) (LLe.nil _)))))) (LLe.cons (VLe.refl _ _) (LLe.cons (VLe.toN (by simp) q) (LLe.nil _))))) (fun r35 h hm' O=>?_);replace hm:=hm';refine gH ?_
     refine⟨.inr (by kernel_rfl),?_⟩;refine gH ?_
     refine gX ?_
     refine ldA (O.at (.tail _ (.head _))) ?_;refine gH ?_
     first|refine⟨.inr (.inr (loadAggK rfl (O.at (.tail _ (.head _))) rfl rfl (lbE rfl) rfl)),?_⟩|refine⟨.inr (.inl (by kernel_rfl)),?_⟩
     refine gX ?_
     refine ca (probecardlaw25_at_walk hm O.has) fun r37 hm=>?_;refine gH ?_
     refine⟨.inl (Ext.refl _),?_⟩;refine gH ?_
     refine ca (probecardlaw25_at_walk hm O.has) fun r38 hm=>?_;refine gH ?_
     refine⟨.inl (Ext.refl _),?_⟩;refine gH ?_
     refine O.buildLX (l:=([(⟨r37,r38⟩:Lawv)]:(List Lawv))) (enc:=encLaw) (s:=4) (z:=(.agg ⟨[(i64 0),(n8 0),(i64 0),(n8 0)]⟩)) rfl rfl (by kernel_rfl) (by kernel_rfl) rfl rfl rfl rfl (fun _=>rfl) fun g39 h O=>?_;refine gH ?_
     refine ca (probecardlaw25_at_walk hm O.has) fun r41 hm=>?_;refine gH ?_
     refine⟨.inl (Ext.refl _),?_⟩;refine gH ?_
     refine O.buildLX (l:=([r41]:(List Asg))) (enc:=encAsg) (s:=2) (z:=(.agg ⟨[(i64 0),(n8 0)]⟩)) rfl rfl (by kernel_rfl) (by kernel_rfl) rfl rfl rfl rfl (fun _=>rfl) fun g42 h O=>?_;refine gH ?_
     obtain⟨hn47,hn48,hm⟩:=hm
     refine O.useXL (.tail _ (.head _)) hn47 (fun _=>rfl) (i:=1) rfl (by kernel_rfl) (fun h2 q=>(LLe.cons (VLe.refl _ _) (LLe.cons (q) (LLe.cons (VLe.refl _ _) (LLe.nil _))))) fun h O=>O.useXL (.head _) hn48 (fun _=>rfl) (i:=2) rfl (by kernel_rfl) (fun h2 q=>(LLe.cons (VLe.refl _ _) (LLe.cons (VLe.refl _ _) (LLe.cons (VLe.toN (by simp) q) (LLe.nil _))))) fun h O=>ca (learns_Close_walk hm O.has) fun r44 hm=>?_;refine gH ?_
     refine⟨.inr (by kernel_rfl),?_⟩;refine gH ?_
     refine gX ?_
     refine br hm (fun hm=>?_) fun hm=>?_
     ·refine gX ?_
      refine br hm (fun hm=>?_) fun hm=>?_
      ·refine gX ?_
       refine br hm (fun hm=>?_) fun hm=>?_
       ·refine gX ?_
        refine fz ?_;refine gH ?_
        refine ca (probecardlaw25_equal_walk hm O.has) fun r49 hm=>?_;refine gX ?_
        exact fe hm O
       ·refine gX ?_
        exact fe hm O
      ·refine gX ?_
       refine bf ?_;refine gX ?_
       exact fe hm O
     ·refine gX ?_
      refine bf ?_;refine gH ?_
      refine bf ?_;refine gX ?_
      exact fe hm O
def nm25:List ByteArray:=[⟨#[97]⟩,⟨#[98]⟩,⟨#[99]⟩,⟨#[100]⟩,⟨#[101]⟩,⟨#[102]⟩,⟨#[103]⟩]
theorem isname_run25:(nm25.all fun s=>isTrue (runFn Tryz.prog [] (orcExt Tryz.prog) 60 142 #[.string s] (heapOf vars)))=true:=by kernel_rfl
theorem isNm25 {s:ByteArray} (h:s∈nm25):IsNm s:=by
 obtain⟨h',e⟩:=isTrue_iff (List.all_eq_true.1 isname_run25 s h)
 have c:=(runFn_sound hM hP (fun f vs h v e=>orcExt_sound f vs h v e) 60 _ _ _ _ _ e).1
 exact⟨PureV.flatB rfl,fun h b=>c.lift (by kernel_rfl) rfl (bears_vars (hasSize b) (hasVars b))⟩
def nodeB (n i:Nat) (x:Node):Bool:=decide (x.kind≤11)&&decide (Arity x.kind x.ins.length)&&(x.ins.all fun k=>Nat.blt k n)&&decide (x.mem=0)&&decide (x.bit=0)&&(x.ins.all fun k=>Nat.blt k i)&&decide (x.ins.length≤3)
def circB (c:Circ):Bool:=(List.range c.nodes.length).all fun i=>match c.nodes[i]? with
 |some x=>nodeB c.nodes.length i x
 |none=>true
theorem cc25 {c:Circ} (h:circB c=true) (h0:0<c.nodes.length) (hl:c.nodes.length≤16) (hn:c.names.length=c.nodes.length) (h1:(c.names.all fun s=>nm25.any fun q=>decide (q=s))=true) (h2:c.names.Nodup) (hm:c.mems=[]) (ho:∀ o∈c.outs,o<c.nodes.length) (hol:c.outs.length≤16):CC c:=by
 have key:∀ i x,c.nodes[i]?=some x→nodeB c.nodes.length i x=true:=fun i x hx=>by
  have:=List.all_eq_true.1 h i (List.mem_range.2 (lt_of_get hx))
  rw[hx] at this;exact this
 unfold nodeB at key
 simp only[Bool.and_eq_true,decide_eq_true_eq,List.all_eq_true,Nat.blt_eq] at key
 have F:FanOk c:=fan_ok ⟨hl,fun i x hx=>⟨(key i x hx).1.1.1.1.2,by have:=(key i x hx).2;omega⟩⟩
 have N:NamesOk c:=by
  refine FnV.of_walk (enc:=i64) (PureV.flat rfl) fun h hB=>?_
  exact names_all_walk (K:=fun r=>r=0) (names_all_vc (fun s m=>isNm25 (by
   obtain⟨q,hq,e⟩:=List.any_eq_true.1 (List.all_eq_true.1 h1 s m)
   rw[← of_decide_eq_true e];exact hq)) h2 (by omega) rfl) hB
 refine⟨⟨⟨hl,hn,N,F,fun m hmm=>(by rw[hm] at hmm;cases hmm),by rw[hm];exact Nat.zero_le _,ho,hol,fun i x hx=>?_,h0⟩,hm,fun i x hx=>?_⟩,fun i x hx=>(key i x hx).2⟩
 ·obtain⟨⟨⟨⟨⟨⟨k1,k2⟩,k3⟩,k4⟩,k5⟩,k6⟩,k7⟩:=key i x hx
  exact⟨by omega,k2,k3,fun e=>by omega,fun _=>⟨k4,k5⟩,fun e=>by omega,fun _ _=>k6⟩
 ·have:=(key i x hx).1.1.1.1.1.1
  omega
def okE (c:Circ) (given:List Asg):Bool:=match closeF c given with
 |some v=>closeC c given v
 |none=>true
theorem okE_ok {c:Circ} (C:CC c) {given:List Asg} (g:GivOk c given) (h:okE c given=true):clo c given=closeF c given:=by
 unfold okE at h
 cases e:closeF c given with
 |none=>exact closeN_ok C.p C.f3 g e
 |some v=>rw[e] at h;exact closeC_ok C.p C.f3 g h
theorem sat0 {c:Circ} (C:CC c) {given:List Asg} (g:GivOk c given):satO c 0 given=clo c given:=by
 rcases clo_cases C.p C.f3 g with⟨v,D,e⟩|⟨N,e⟩
 ·rw[e];exact lstO_ok satP_len (lst_close D)
 ·rw[e];exact lstO_none fun t T E=>N t (cw_split.2 ⟨T,E⟩)
def leB (v t:List Nat):Bool:=blwL v t
theorem leB_ok {n:Nat}{v t:List Nat} (h:leB v t=true) (ht:t.length=n):LeN n v t:=by
 obtain⟨h1,h2⟩:=blwL_iff.1 h
 exact⟨h1.trans ht,h2⟩
def givB (c:Circ) (given:List Asg):Bool:=(given.all fun a=>Nat.blt a.net c.nodes.length&&Nat.ble a.value 1)&&Nat.ble given.length 1000
theorem givB_ok {c:Circ}{given:List Asg} (h:givB c given=true):GivOk c given:=by
 unfold givB at h
 simp only[Bool.and_eq_true,List.all_eq_true,Nat.blt_eq,Nat.ble_eq] at h
 exact⟨h.1,by omega⟩
def meetF (c:Circ) (v:List Nat) (n:Nat):Option (List Nat):=meetO (closeF c (knownA v++[⟨n,0⟩])) (closeF c (knownA v++[⟨n,1⟩]))
def meetB (c:Circ) (v:List Nat) (n:Nat):Bool:=givB c (knownA v++[⟨n,0⟩])&&givB c (knownA v++[⟨n,1⟩])&&okE c (knownA v++[⟨n,0⟩])&&okE c (knownA v++[⟨n,1⟩])
theorem meetB_ok {c:Circ} (C:CC c) {v:List Nat}{n:Nat} (h:meetB c v n=true):meetO (satO c 0 (knownA v++[⟨n,0⟩])) (satO c 0 (knownA v++[⟨n,1⟩]))=meetF c v n:=by
 unfold meetB at h
 simp only[Bool.and_eq_true] at h
 obtain⟨⟨⟨h1,h2⟩,h3⟩,h4⟩:=h
 rw[sat0 C (givB_ok h1),sat0 C (givB_ok h2),okE_ok C (givB_ok h1) h3,okE_ok C (givB_ok h2) h4]
 rfl
def leOB (o:Option (List Nat)) (t:List Nat):Bool:=match o with
 |some v=>leB v t
 |none=>false
theorem leOB_ok {n:Nat}{o:Option (List Nat)}{t:List Nat} (h:leOB o t=true) (ht:t.length=n):leO n o t:=by
 cases o with
 |none=>cases h
 |some v=>exact⟨v,rfl,leB_ok h ht⟩
def clsB (c:Circ) (v:List Nat):Bool:=givB c (knownA v)&&closeC c (knownA v) v
theorem clsB_ok {c:Circ} (C:CC c) {v:List Nat} (h:clsB c v=true):CW c [] v:=by
 unfold clsB at h
 simp only[Bool.and_eq_true] at h
 exact (cw_split.1 (clo_some (closeC_ok C.p C.f3 (givB_ok h.1) h.2)).cw).1
def sat1B (c:Circ) (v:List Nat):Bool:=clsB c v&&(List.range c.nodes.length).all fun n => !Nat.beq (v.getD n 0) 2||(meetB c v n&&leOB (meetF c v n) v)
theorem sat1B_ok {c:Circ} (C:CC c) {v:List Nat} (h:sat1B c v=true):satP c 1 v:=by
 unfold sat1B at h
 simp only[Bool.and_eq_true,List.all_eq_true,Bool.or_eq_true,Bool.not_eq_true',List.mem_range] at h
 have W:=clsB_ok C h.1
 refine⟨W,fun n hn h2=>?_⟩
 rcases h.2 n hn with q|q
 ·rw[h2] at q;cases q
 ·show leO _ (meetO (satO c 0 _) (satO c 0 _)) v
  rw[meetB_ok C q.1]
  exact leOB_ok q.2 W.len
def extB (given:List Asg) (v:List Nat):Bool:=given.all fun a=>Nat.beq (v.getD a.net 0) a.value
theorem extB_ok {given:List Asg}{v:List Nat} (h:extB given v=true):Ext given v:=fun a m=>Nat.eq_of_beq_eq_true (List.all_eq_true.1 h a m)
def oneB (c:Circ) (given:List Asg) (v0:List Nat) (n:Nat) (w:List Nat):Bool:=givB c given&&closeC c given v0&&Nat.blt n c.nodes.length&&meetB c v0 n&&(match meetF c v0 n with|some z=>eqLs z w|none=>false)&&sat1B c w&&extB given w
theorem oneB_ok {c:Circ} (C:CC c) {given:List Asg}{v0 w:List Nat}{n:Nat} (h:oneB c given v0 n w=true):satO c 1 given=some w:=by
 unfold oneB at h
 simp only[Bool.and_eq_true,Nat.blt_eq] at h
 obtain⟨⟨⟨⟨⟨⟨h1,h2⟩,h3⟩,h4⟩,h5⟩,h6⟩,h7⟩:=h
 have W:=sat1B_ok C h6
 have wl:=satP_len w W
 have D:=clo_some (closeC_ok C.p C.f3 (givB_ok h1) h2)
 refine lstO_ok satP_len ⟨W,extB_ok h7,fun t T E=>?_⟩
 rw[wl]
 have lt:LeN c.nodes.length v0 t:=⟨D.len,D.snd t (cw_split.2 ⟨satP_cw T,E⟩)⟩
 have M:=sat_meet C.p.good.len (d:=0) (fun e he=>by
  have:e=0:=by omega
  subst this;exact satD C (by decide)) T lt D.le h3
 rw[meetB_ok C h4] at M
 obtain⟨z,e,hz⟩:=M
 rw[e] at h5
 rw[← eqLs_iff h5]
 exact hz
def keepF (c:Circ) (i:Nat) (a:Asg):Bool:=neN a.net (i/2)&&match closeF c [⟨a.net,1-a.value⟩] with
 |none=>false
 |some w=>neN (w.getD (i/2) 0) (1-i%2)
def rowF (c:Circ) (i:Nat):List Lawv:=match closeF c [⟨i/2,i%2⟩] with
 |none=>[⟨⟨i/2,i%2⟩,⟨i/2,1-i%2⟩⟩]
 |some v=>((knownA v).filter (keepF c i)).map (lawR i)
def outF (c:Circ):List Lawv:=(List.range (2*c.nodes.length)).flatMap (rowF c)
def onesB (c:Circ):Bool:=(List.range (2*c.nodes.length)).all fun i=>okE c [⟨i/2,i%2⟩]
theorem outF_ok {c:Circ} (C:CC c) (h:onesB c=true):outR c=outF c:=by
 have key:∀ m w,m<c.nodes.length→w≤1→clo c [⟨m,w⟩]=closeF c [⟨m,w⟩]:=fun m w hm hw=>by
  have:=List.all_eq_true.1 h (2*m+w) (List.mem_range.2 (by omega))
  rw[show (2*m+w)/2=m by omega,show (2*m+w)%2=w by omega] at this
  exact okE_ok C (one_giv hm hw) this
 unfold outR outF
 rw[List.flatMap_def,List.flatMap_def]
 congr 1
 refine List.map_congr_left fun i hi=>?_
 have hi:=List.mem_range.1 hi
 unfold rowR rowF
 rw[← key (i/2) (i%2) (by omega) (by omega)]
 cases e:clo c [⟨i/2,i%2⟩] with
 |none=>rfl
 |some v =>
  dsimp only
  congr 1
  refine List.filter_congr fun a m=>?_
  obtain⟨a1,a2,a3⟩:=mem_known.1 m
  have D:=clo_some e
  have:=D.le a.net
  have:=D.len
  unfold keepR keepF
  rw[key a.net (1-a.value) (by omega) (by omega)]
  cases closeF c [⟨a.net,1-a.value⟩] <;> rfl
def c25:Circ:=⟨[⟨0,[],0,0⟩,⟨0,[],0,0⟩,⟨5,[0,1],0,0⟩,⟨4,[0],0,0⟩,⟨5,[3,1],0,0⟩,⟨7,[2,4],0,0⟩],[⟨#[97]⟩,⟨#[98]⟩,⟨#[100]⟩,⟨#[101]⟩,⟨#[102]⟩,⟨#[103]⟩],[],[5]⟩
def h25:Circ:=⟨[⟨0,[],0,0⟩,⟨4,[0],0,0⟩,⟨5,[0,1],0,0⟩],[⟨#[97]⟩,⟨#[98]⟩,⟨#[99]⟩],[],[2]⟩
theorem cc_c25:CC c25:=cc25 (by decide +kernel) (by decide) (by decide) rfl (by decide +kernel) (by decide +kernel) rfl (by decide) (by decide)
theorem cc_h25:CC h25:=cc25 (by decide +kernel) (by decide) (by decide) rfl (by decide +kernel) (by decide +kernel) rfl (by decide) (by decide)
theorem e1:satO c25 0 [⟨5,1⟩]=some [2,2,2,2,2,1]:=by
 rw[sat0 cc_c25 (givB_ok (by decide +kernel))]
 exact closeC_ok cc_c25.p cc_c25.f3 (givB_ok (by decide +kernel)) (by decide +kernel)
theorem e2:satO c25 1 [⟨5,1⟩]=some [2,1,2,2,2,1]:=oneB_ok cc_c25 (v0:=[2,2,2,2,2,1]) (n:=1) (by decide +kernel)
theorem e3:outR c25=[⟨⟨5,1⟩,⟨1,1⟩⟩]:=by
 rw[outF_ok cc_c25 (by decide +kernel)];rfl
theorem e4:outR h25=[⟨⟨2,1⟩,⟨2,0⟩⟩]:=by
 rw[outF_ok cc_h25 (by decide +kernel)];rfl
theorem e5:satO h25 1 []=some [2,2,0]:=oneB_ok cc_h25 (v0:=[2,2,2]) (n:=0) (by decide +kernel)
theorem e6:lawO h25 [⟨⟨2,1⟩,⟨2,0⟩⟩] [⟨2,1⟩]=none:=lstO_none fun t T E=>by
 have h1:=E ⟨2,1⟩ (List.mem_singleton.2 rfl)
 have h2:=T.2 _ (List.mem_singleton.2 rfl) h1
 dsimp only at h1 h2
 omega
theorem e7:lawO c25 [⟨⟨0,1⟩,⟨1,1⟩⟩] [⟨0,1⟩]=some [1,1,1,0,0,1]:=by
 refine lstO_ok lawP_len ⟨⟨clsB_ok cc_c25 (by decide +kernel),fun l m _=>by rw[List.mem_singleton.1 m];rfl⟩,fun a m=>by rw[List.mem_singleton.1 m];rfl,fun t T E=>?_⟩
 have h1:=E ⟨0,1⟩ (List.mem_singleton.2 rfl)
 have h2:=T.2 _ (List.mem_singleton.2 rfl) h1
 have D:=clo_some (closeC_ok cc_c25.p cc_c25.f3 (given:=[⟨0,1⟩,⟨1,1⟩]) (v:=[1,1,1,0,0,1]) (givB_ok (by decide +kernel)) (by decide +kernel))
 refine⟨rfl,D.snd t (cw_split.2 ⟨T.1,fun a m=>?_⟩)⟩
 rcases List.mem_cons.1 m with rfl|m
 ·exact h1
 ·rw[List.mem_singleton.1 m];exact h2
theorem lives25_vc {K:Bool→Prop} (k:K true):probecardlaw25_lives_wp K:=by
 unfold probecardlaw25_lives_wp probecardlaw25_example_wp probecardlaw25_at_wp
 refine⟨rfl,lSaturate_vc cc_c25 (by decide) (givB_ok (by decide +kernel)) ?_⟩
 rw[e1]
 refine⟨rfl,lSaturate_vc cc_c25 (by decide) (givB_ok (by decide +kernel)) ?_⟩
 rw[e2]
 refine static_vc cc_c25 fun l1 hp1 _=>?_
 obtain rfl:l1=[⟨⟨5,1⟩,⟨1,1⟩⟩]:=by rw[e3] at hp1;exact List.perm_singleton.1 hp1
 refine static_vc cc_h25 fun l2 hp2 _=>?_
 obtain rfl:l2=[⟨⟨2,1⟩,⟨2,0⟩⟩]:=by rw[e4] at hp2;exact List.perm_singleton.1 hp2
 refine lSaturate_vc cc_h25 (by decide) (givB_ok (by decide +kernel)) ?_
 rw[e5]
 refine joinB (a:=false) (fun F=>⟨fun e=>absurd rfl (ne_t.1 e),fun _=>⟨fun e=>absurd rfl (ne_t.1 e),fun _=>⟨fun e=>absurd rfl (ne_t.1 e),fun _=>⟨fun e=>absurd rfl (ne_t.1 e),fun _=>⟨fun e=>absurd rfl (ne_t.1 e),fun _ =>
  equal_vc (a:=[2,2,2,2,2,1]) (x:=true) (by decide) ⟨(fun e=>by cases e),fun _=>equal_vc (a:=[2,1,2,2,2,1]) (x:=true) (by decide) ⟨(fun e=>by cases e),fun _=>equal_vc (a:=[2,2,0]) (x:=true) (by decide) F⟩⟩⟩⟩⟩⟩⟩) ⟨(fun e=>by cases e),fun _=>?_⟩
 refine joinB (a:=false) (fun F=>⟨fun e=>absurd rfl (ne_t.1 e),fun _=>⟨_,rfl,(fun e=>by cases e),fun _=>⟨fun e=>absurd rfl (ne_t.1 e),fun _=>⟨_,rfl,F⟩⟩⟩⟩) ⟨(fun e=>by cases e),fun _=>?_⟩
 refine⟨rfl,lClose_vc cc_h25 ⟨fun l m=>?_,by decide⟩ (givB_ok (by decide +kernel)) (by decide) ?_⟩
 ·rw[List.mem_singleton.1 m];decide
 rw[e6]
 refine⟨rfl,rfl,lClose_vc cc_c25 ⟨fun l m=>?_,by decide⟩ (givB_ok (by decide +kernel)) (by decide) ?_⟩
 ·rw[List.mem_singleton.1 m];decide
 rw[e7]
 exact⟨fun _=>⟨fun _=>⟨fun _=>equal_vc (a:=[1,1,1,0,0,1]) (x:=true) (by decide) k,fun e=>absurd rfl (eq_f.1 e)⟩,(fun e=>by cases e)⟩,fun e=>absurd rfl (eq_f.1 e)⟩
structure U4 where
 a:Nat
 b:Nat
 c:Nat
 d:Nat
structure Z2 where
 a:Int
 b:Int
def encZ2 (x:Z2):Value:=.agg ⟨[z64 x.a,z64 x.b]⟩
theorem law25_livesF:FnV Tryz.prog NG vars 23 ⟨[]⟩ (.bool true):=FnV.of_walk (enc:=Value.bool) (r:=true) (PureV.flat rfl) fun _h hB=>probecardlaw25_lives_walk (K:=fun r=>r=true) (lives25_vc rfl) hB
def law25_lives_wp (K:Bool→Prop):Prop:=K true
theorem law25_lives_walk {K:Bool→Prop} (hm:law25_lives_wp K) {h0:Heap} (hB:HasB vars h0):∃ r,K r∧CallD Tryz.prog NG 23 ⟨[]⟩ h0 (Value.bool r) h0:=law25_livesF.walk (enc:=Value.bool) hm hB
theorem cloR_err (o:Option (List Nat)):(cloR o).2.2=0:=by cases o <;> rfl
structure AsgZ where
 net:Int
 value:Nat
def encAsgZ (x:AsgZ):Value:=.agg ⟨[z64 x.net,n8 x.value]⟩
theorem pure_asgZC (x:AsgZ):AllPure (cl (encAsgZ x)):=AllPure.cons (PureV.flat rfl) (AllPure.cons (PureV.flat rfl) AllPure.nil)
theorem pure_asgZ (x:AsgZ):PureV (encAsgZ x):=PureV.agg (pure_asgZC x)
theorem circ_few3' (x:CData):Few3 (circN x):=by
 intro i y h
 rcases circ_node' h with⟨_,rfl⟩|⟨_,_,d,_,rfl⟩|⟨_,e⟩|⟨_,_,g,rfl⟩
 ·exact Nat.zero_le _
 ·show (1:Nat)≤3;decide
 ·rcases e with rfl|rfl <;> exact Nat.zero_le _
 ·exact gateK_few _ _ _
def wantN (c:Circ):Nat:=if (ltN 0 c.mems.length||ltN 0 (ofN c [12,13,15]).length)=true then 7 else 0
theorem want_or (c:Circ):wantN c=0∨wantN c=7:=by
 unfold wantN
 by_cases h:(ltN 0 c.mems.length||ltN 0 (ofN c [12,13,15]).length)=true
 ·exact .inr (if_pos h)
 ·exact .inl (if_neg h)
theorem want_pln {c:Circ} (G:Good c) (h:wantN c=0):Pln c:=by
 unfold wantN at h
 by_cases q:(ltN 0 c.mems.length||ltN 0 (ofN c [12,13,15]).length)=true
 ·rw[if_pos q] at h;cases h
 ·have q:(ltN 0 c.mems.length||ltN 0 (ofN c [12,13,15]).length)=false:=by simpa using q
  rw[Bool.or_eq_false_iff] at q
  have q1:=lt_f.1 q.1
  have q2:=lt_f.1 q.2
  refine⟨G,List.length_eq_zero_iff.1 (by omega),fun i y hy=>?_⟩
  have e:ofN c [12,13,15]=[]:=List.length_eq_zero_iff.1 (by omega)
  unfold ofN at e
  rw[List.filter_eq_nil_iff] at e
  have:=e i (List.mem_range.2 (lt_of_get hy))
  rw[List.getD,List.getElem?_map,hy] at this
  simp at this
  omega
theorem plainW_vc {c:Circ}{K:Nat→Prop} (G:Good c) (h:K (wantN c)):implies_Plain_wp c K:=by
 have hlen:=G.len
 unfold implies_Plain_wp
 refine check_vc G ⟨fun q=>absurd rfl (ne_t.1 q),fun _=>joinB (a:=ltN 0 c.mems.length||ltN 0 (ofN c [12,13,15]).length) (fun F=>⟨fun q=>?_,fun q=>of_vc (by omega) (by decide) ?_⟩) ?_⟩
 ·rw[q,Bool.true_or] at F;exact F
 ·rw[q,Bool.false_or] at F;exact F
 ·unfold wantN at h
  exact⟨fun e=>by rw[if_pos e] at h;exact h,fun e=>by rw[if_neg (by rw[e];decide)] at h;exact h⟩
structure Pat where
 inp:List Nat
 state:List Nat
structure Rsp where
 out:List Nat
 next:List Nat
structure SRun where
 circ:Circ
 nets:List Nat
set_option maxHeartbeats 8000000
def netlists_Inputs_wp (p0:Circ) (K:(List Nat)→Prop):Prop :=
 netlists_Of_wp p0 ([0]:(List Nat)) (fun r1=>K r1)
theorem netlists_Inputs_walk {p0:Circ}{K:(List Nat)→Prop} (hm:netlists_Inputs_wp p0 K) {h0:Heap} (hB:HasB vars h0):∃ r,K r∧CallD Tryz.prog NG 17 ⟨[encCirc p0]⟩ h0 ((encL 1 i64) r) h0:=by
 unfold netlists_Inputs_wp at hm
 refine fw Tryz.func17 hB (enc:=(encL 1 i64)) (fun r=>pureL (fun _=>AllPure.cons (PureV.flat rfl) AllPure.nil)) fun O=>?_;conv=>whnf
 refine gX ?_
 refine fz ?_;refine gX ?_
 refine fz ?_;refine gH ?_
 refine ca (netlists_Of_walk hm O.has) fun r1 hm=>?_;refine gX ?_
 exact fe hm O
theorem inputs_vc {c:Circ}{K:List Nat→Prop} (hc:c.nodes.length<2 ^ 40) (h:K (ofN c [0])):netlists_Inputs_wp c K:=of_vc hc (by decide) h
structure PatOk (c:Circ) (p:Pat):Prop where
 inp:p.inp.length=(ofN c [0]).length
 state:p.state.length=(ofN c [14]).length
 inpv:∀ v∈p.inp,v≤2
 statev:∀ v∈p.state,v≤2
structure NetsOk (c:Circ) (pt:Pat) (t:List Nat):Prop where
 len:t.length=c.nodes.length
 inp:∀ j f,(ofN c [0])[j]?=some f→t.getD f 0=pt.inp.getD j 0
 state:∀ j f,(ofN c [14])[j]?=some f→t.getD f 0=pt.state.getD j 0
 gate:∀ i x,c.nodes[i]?=some x→isFree x.kind=false→t.getD i 0=evalN x.kind (insV t x)
 le:∀ i,t.getD i 0≤2
structure RunTo (c:Circ) (v0 o t:List Nat) (i:Nat):Prop where
 len:t.length=c.nodes.length
 free:∀ f x,c.nodes[f]?=some x→isFree x.kind=true→t.getD f 0=v0.getD f 0
 gate:∀ j m (x:Node),j<i→o[j]?=some m→c.nodes[m]?=some x→isFree x.kind=false→t.getD m 0=evalN x.kind (insV t x)
 le:∀ i,t.getD i 0≤2
theorem RunTo.skip {c:Circ}{v0 o t:List Nat}{i m:Nat}{x:Node} (T:RunTo c v0 o t i) (hm:o[i]?=some m) (hx:c.nodes[m]?=some x) (hf:isFree x.kind=true):RunTo c v0 o t (i+1):=by
 refine⟨T.len,T.free,fun j m' x' hj ho hx' hf'=>?_,T.le⟩
 by_cases e:j=i
 ·subst e
  rw[hm] at ho;cases ho
  rw[hx] at hx';cases hx'
  rw[hf] at hf';cases hf'
 ·exact T.gate j m' x' (by omega) ho hx' hf'
theorem RunTo.step {c:Circ} (p:Pln c) {v0 o t:List Nat} (ho:OrdOk c o) {i m:Nat}{x:Node} (T:RunTo c v0 o t i) (hm:o[i]?=some m) (hx:c.nodes[m]?=some x) (hf:isFree x.kind=false):RunTo c v0 o (t.set m (evalN x.kind (insV t x))) (i+1):=by
 have hml:m<t.length:=by rw[T.len];exact lt_of_get hx
 have same:∀ (j m':Nat) (x':Node),j≤i→o[j]?=some m'→c.nodes[m']?=some x'→isFree x'.kind=false→insV (t.set m (evalN x.kind (insV t x))) x'=insV t x':=by
  intro j m' x' hj h1 h2 h3
  unfold insV
  refine List.map_congr_left fun k hk=>?_
  rw[getD_set hml]
  by_cases e:m=k
  ·subst e
   obtain⟨b',hb,hb2⟩:=ho.before j m' x' m h1 h2 (p.comb h2 h3) hk
   have:=ord_inj ho hb2 hm
   omega
  ·rw[if_neg e]
 refine⟨by rw[List.length_set];exact T.len,fun f y hy hfy=>?_,fun j m' x' hj h1 h2 h3=>?_,fun k=>?_⟩
 ·rw[getD_set hml,if_neg ?_]
  ·exact T.free f y hy hfy
  ·rintro rfl
   rw[hx] at hy;cases hy
   rw[hf] at hfy;cases hfy
 ·rw[same j m' x' (by omega) h1 h2 h3,getD_set hml]
  by_cases e:m=m'
  ·subst e
   rw[if_pos rfl]
   rw[hx] at h2;cases h2
   rfl
  ·rw[if_neg e]
   refine T.gate j m' x' ?_ h1 h2 h3
   by_cases e2:j=i
   ·subst e2;rw[hm] at h1;cases h1;exact absurd rfl e
   ·omega
 ·rw[getD_set hml]
  split
  ·exact evalN_le _ _
  ·exact T.le k
structure LawZ where
 cond:AsgZ
 thn:AsgZ
def encLawZ (x:LawZ):Value:=.agg ⟨[z64 x.cond.net,n8 x.cond.value,z64 x.thn.net,n8 x.thn.value]⟩
set_option maxHeartbeats 8000000
def learns_knownZ_wp (p0:Circ) (p1:(List AsgZ)) (K:Bool→Prop):Prop :=
 joinW (α:=Unit) (fun k1=>loopW (S:=Nat) (fun v2 nx3=>((ltN v2 p1.length)=true→∃ x4,p1[v2]?=some x4∧joinW (α:=Bool) (fun k8=>((ltI x4.net (Int.ofNat 0))=true→k8 true)∧((ltI x4.net (Int.ofNat 0))=false→((!ltI x4.net (Int.ofNat p0.nodes.length))=true→k8 true)∧((!ltI x4.net (Int.ofNat p0.nodes.length))=false→logic_Known_wp x4.value (fun r9=>k8 (!r9))))) (fun v7=>(v7=true→K false)∧(v7=false→v2+1<2 ^ 63∧nx3 (v2+1))))∧((ltN v2 p1.length)=false→k1 ())) 0) (fun _=>K true)
theorem learns_knownZ_walk {p0:Circ}{p1:(List AsgZ)}{K:Bool→Prop} (hm:learns_knownZ_wp p0 p1 K) {h0:Heap} (hB:HasB vars h0):∃ r,K r∧CallD Tryz.prog NG 60 ⟨[encCirc p0,(encL 2 encAsgZ) p1]⟩ h0 (Value.bool r) h0:=by
 unfold learns_knownZ_wp at hm
 refine fw Tryz.func60 hB (enc:=Value.bool) (fun r=>PureV.flat rfl) fun O=>?_;conv=>whnf
 refine gX ?_
 refine fz ?_;refine gH ?_
 refine jn hm 31 [] (fun s=>s) (fun _ h=>Own vars h0 [] h) (fun _=>[]) (fun hm=>?_) ?_
 ·refine gX ?_
  refine lw 31 [2,7,8] (σ:=Nat) (fun s=>s) (fun v2 h=>Own vars h0 [] h) (fun v2=>[(9,(i64 v2))]) 0 hm O ?_
  clear hm;rintro v2 nx3 base h hm O
  refine gX ?_
  refine br hm (fun hm=>?_) fun hm=>?_
  ·refine gX ?_
   refine atF hm fun x4 hx4 hm=>?_;refine gH ?_
   (first|refine O.new (anew_alloc (l:=[(i64 0),(n8 0)]) rfl rfl rfl) fun g5 h O=>?_|refine O.newX (anew_alloc (l:=[(i64 0),(n8 0)]) rfl rfl rfl) fun g5 h O=>?_);refine gH ?_
   refine O.stC 2 (.head _) [(z64 x4.net),(n8 x4.value)] fun h O=>?_;refine gH ?_
   refine jn hm 31 [2,7,8,9] (fun s=>s) (fun v7 h=>Own vars h0 [] h) (fun v7=>[(29,(.bool v7))]) (fun hm=>?_) ?_
   ·refine gX ?_
    refine br hm (fun hm=>?_) fun hm=>?_
    ·refine gX ?_
     refine bt ?_;refine gH ?_
     exact jx true hm (O.sel [] (by decide))
    ·refine gX ?_
     refine br hm (fun hm=>?_) fun hm=>?_
     ·refine gX ?_
      exact jx true hm (O.sel [] (by decide))
     ·refine gX ?_
      refine ca (logic_Known_walk hm O.has) fun r9 hm=>?_;refine gH ?_
      exact jx (!r9) hm (O.sel [] (by decide))
   ·clear hm;rintro v7 base h hm O
    refine gX ?_
    refine br hm (fun hm=>?_) fun hm=>?_
    ·refine gX ?_
     exact fe hm O
    ·refine gX ?_
     refine aAdd hm fun hm=>?_;refine gH ?_
     exact jx (v2+1) hm O
  ·refine gX ?_
   exact jx () hm O
 ·clear hm;rintro _ base h hm O
  refine gX ?_
  exact fe hm O
def learns_CloseN_wp (p0:Circ) (p1:(List LawZ)) (p2:(List AsgZ)) (K:((List Nat)×Bool×Nat)→Prop):Prop :=
 implies_Plain_wp p0 (fun r1=>((neN r1 0)=true→K ([],false,r1))∧((neN r1 0)=false→learns_knownZ_wp p0 p2 (fun r2=>((!r2)=true→K ([],false,1))∧((!r2)=false→joinW (α:=Unit) (fun k3=>loopW (S:=Nat) (fun v4 nx5=>((ltN v4 p1.length)=true→∃ x6,p1[v4]?=some x6∧learns_knownZ_wp p0 ([x6.cond,x6.thn]:(List AsgZ)) (fun r9=>((!r9)=true→K ([],false,1))∧((!r9)=false→v4+1<2 ^ 63∧nx5 (v4+1))))∧((ltN v4 p1.length)=false→k3 ())) 0) (fun _=>False)))))
theorem learns_CloseN_walk {p0:Circ}{p1:(List LawZ)}{p2:(List AsgZ)}{K:((List Nat)×Bool×Nat)→Prop} (hm:learns_CloseN_wp p0 p1 p2 K) {h0:Heap} (hB:HasB vars h0):∃ r,K r∧CallD Tryz.prog NG 28 ⟨[encCirc p0,(encL 4 encLawZ) p1,(encN 2 encAsgZ) p2]⟩ h0 ((fun (r:((List Nat)×Bool×Nat))=>Value.tuple ⟨[(encL 1 n8) (r.1),Value.bool (r.2.1),i64 (r.2.2)]⟩) r) h0:=by
 unfold learns_CloseN_wp at hm
 refine fw Tryz.func28 hB (enc:=(fun (r:((List Nat)×Bool×Nat))=>Value.tuple ⟨[(encL 1 n8) (r.1),Value.bool (r.2.1),i64 (r.2.2)]⟩)) (fun r=>PureV.tup (AllPure.cons (pureL (fun _=>AllPure.cons (PureV.flat rfl) AllPure.nil)) (AllPure.cons (PureV.flat rfl) (AllPure.cons (PureV.flat rfl) (AllPure.nil))))) fun O=>?_;conv=>whnf
 refine gX ?_
 refine fz ?_;refine gX ?_
 refine ca (implies_Plain_walk hm O.has) fun r1 hm=>?_;refine gX ?_
 refine br hm (fun hm=>?_) fun hm=>?_
 ·refine gX ?_
  exact⟨([],false,r1),hm,O.ext,fun h2 F=>VLe.tup (LLe.cons (VLe.nil _ _) (LLe.cons (VLe.refl _ _) (LLe.cons (VLe.refl _ _) (LLe.nil _))))⟩
 ·refine gX ?_
  refine caW (learns_knownZ_walk hm O.has) (LLe.cons (VLe.refl _ _) (LLe.cons (VLe.ofN) (LLe.nil _))) fun r2 hm=>?_;refine gX ?_
  refine br hm (fun hm=>?_) fun hm=>?_
  ·refine gX ?_
   exact⟨([],false,1),hm,O.ext,fun h2 F=>VLe.tup (LLe.cons (VLe.nil _ _) (LLe.cons (VLe.refl _ _) (LLe.cons (VLe.refl _ _) (LLe.nil _))))⟩
  ·apply Cs;conv=>whnf
   refine jn hm 92 [1,2,3] (fun s=>s) (fun _ h=>Own vars h0 [] h) (fun _=>[]) (fun hm=>?_) ?_
   ·refine gX ?_
    refine lw 92 [1,2,3,28,29] (σ:=Nat) (fun s=>s) (fun v4 h=>Own vars h0 [] h) (fun v4=>[(30,(i64 v4))]) 0 hm O ?_
    clear hm;rintro v4 nx5 base h hm O
    refine gX ?_
    refine br hm (fun hm=>?_) fun hm=>?_
    ·refine gX ?_
     refine atF hm fun x6 hx6 hm=>?_;refine gH ?_
     (first|refine O.new (anew_alloc (l:=[(i64 0),(n8 0),(i64 0),(n8 0)]) rfl rfl rfl) fun g7 h O=>?_|refine O.newX (anew_alloc (l:=[(i64 0),(n8 0),(i64 0),(n8 0)]) rfl rfl rfl) fun g7 h O=>?_);refine gH ?_
     refine O.stC 4 (.head _) [(z64 x6.cond.net),(n8 x6.cond.value),(z64 x6.thn.net),(n8 x6.thn.value)] fun h O=>?_;refine gX ?_
     refine ldA (O.at (.head _)) ?_;refine gH ?_
     refine ldA (O.at (.head _)) ?_;refine gH ?_
     refine fz ?_;refine gH ?_
     refine ca (learns_knownZ_walk hm O.has) fun r9 hm=>?_;refine gX ?_
     refine br hm (fun hm=>?_) fun hm=>?_
     ·refine gX ?_
      exact⟨([],false,1),hm,O.ext,fun h2 F=>VLe.tup (LLe.cons (VLe.nil _ _) (LLe.cons (VLe.refl _ _) (LLe.cons (VLe.refl _ _) (LLe.nil _))))⟩
     ·refine gX ?_
      refine aAdd hm fun hm=>?_;refine gH ?_
      exact jx (v4+1) hm (O.sel [] (by decide))
    ·refine gX ?_
     exact jx () hm O
   ·clear hm;rintro _ base h hm O
    refine gX ?_
    exact False.elim hm
def learns_SaturateN_wp (p0:Circ) (p1:Int) (p2:(List AsgZ)) (K:((List Nat)×Bool×Nat)→Prop):Prop :=
 implies_Plain_wp p0 (fun r1=>((neN r1 0)=true→K ([],false,r1))∧((neN r1 0)=false→((ltI p1 (Int.ofNat 0))=true→K ([],false,1))∧((ltI p1 (Int.ofNat 0))=false→((ltI (Int.ofNat 4) p1)=true→K ([],false,3))∧((ltI (Int.ofNat 4) p1)=false→learns_knownZ_wp p0 p2 (fun r2=>((!r2)=true→K ([],false,1))∧((!r2)=false→False))))))
theorem learns_SaturateN_walk {p0:Circ}{p1:Int}{p2:(List AsgZ)}{K:((List Nat)×Bool×Nat)→Prop} (hm:learns_SaturateN_wp p0 p1 p2 K) {h0:Heap} (hB:HasB vars h0):∃ r,K r∧CallD Tryz.prog NG 24 ⟨[encCirc p0,z64 p1,(encL 2 encAsgZ) p2]⟩ h0 ((fun (r:((List Nat)×Bool×Nat))=>Value.tuple ⟨[(encN 1 n8) (r.1),Value.bool (r.2.1),i64 (r.2.2)]⟩) r) h0:=by
 unfold learns_SaturateN_wp at hm
 refine fw Tryz.func24 hB (enc:=(fun (r:((List Nat)×Bool×Nat))=>Value.tuple ⟨[(encN 1 n8) (r.1),Value.bool (r.2.1),i64 (r.2.2)]⟩)) (fun r=>PureV.tup (AllPure.cons (pureN (fun _=>AllPure.cons (PureV.flat rfl) AllPure.nil)) (AllPure.cons (PureV.flat rfl) (AllPure.cons (PureV.flat rfl) (AllPure.nil))))) fun O=>?_;conv=>whnf
 refine gX ?_
 refine fz ?_;refine gX ?_
 refine ca (implies_Plain_walk hm O.has) fun r1 hm=>?_;refine gX ?_
 refine br hm (fun hm=>?_) fun hm=>?_
 ·refine gX ?_
  exact⟨([],false,r1),hm,O.ext,fun h2 F=>VLe.tup (LLe.cons (VLe.nilN _ _ _) (LLe.cons (VLe.refl _ _) (LLe.cons (VLe.refl _ _) (LLe.nil _))))⟩
 ·refine gX ?_
  refine br hm (fun hm=>?_) fun hm=>?_
  ·refine gX ?_
   exact⟨([],false,1),hm,O.ext,fun h2 F=>VLe.tup (LLe.cons (VLe.nilN _ _ _) (LLe.cons (VLe.refl _ _) (LLe.cons (VLe.refl _ _) (LLe.nil _))))⟩
  ·refine gX ?_
   refine br hm (fun hm=>?_) fun hm=>?_
   ·refine gX ?_
    exact⟨([],false,3),hm,O.ext,fun h2 F=>VLe.tup (LLe.cons (VLe.nilN _ _ _) (LLe.cons (VLe.refl _ _) (LLe.cons (VLe.refl _ _) (LLe.nil _))))⟩
   ·refine gX ?_
    refine ca (learns_knownZ_walk hm O.has) fun r2 hm=>?_;refine gX ?_
    refine br hm (fun hm=>?_) fun hm=>?_
    ·refine gX ?_
     exact⟨([],false,1),hm,O.ext,fun h2 F=>VLe.tup (LLe.cons (VLe.nilN _ _ _) (LLe.cons (VLe.refl _ _) (LLe.cons (VLe.refl _ _) (LLe.nil _))))⟩
    ·refine gX ?_
     exact False.elim hm
def Asg.toZ (a:Asg):AsgZ:=⟨Int.ofNat a.net,a.value⟩
def Lawv.toZ (l:Lawv):LawZ:=⟨l.cond.toZ,l.thn.toZ⟩
theorem encLaw_toZ (l:List Lawv):encL 4 encLawZ (l.map Lawv.toZ)=encL 4 encLaw l:=by
 unfold encL
 rw[List.map_map]
 rfl
theorem encAsg_toZ (l:List Asg):encL 2 encAsgZ (l.map Asg.toZ)=encL 2 encAsg l:=by
 unfold encL
 rw[List.map_map]
 rfl
theorem encAsgN_toZ (l:List Asg):encN 2 encAsgZ (l.map Asg.toZ)=encN 2 encAsg l:=by
 unfold encN
 rw[List.map_map]
 rfl
def learns_CloseZ_wp (c:Circ) (laws:List LawZ) (given:List AsgZ) (K:List Nat×Bool×Nat→Prop):Prop :=
 (∃ (l:List Lawv) (g:List Asg),laws=l.map Lawv.toZ∧given=g.map Asg.toZ∧learns_Close_wp c l g K)∨learns_CloseN_wp c laws given K
theorem learns_CloseZ_walk {p0:Circ}{p1:List LawZ}{p2:List AsgZ}{K:List Nat×Bool×Nat→Prop} (hm:learns_CloseZ_wp p0 p1 p2 K) {h0:Heap} (hB:HasB vars h0):∃ r,K r∧CallD Tryz.prog NG 28 ⟨[encCirc p0,(encL 4 encLawZ) p1,(encN 2 encAsgZ) p2]⟩ h0 ((fun (r:((List Nat)×Bool×Nat))=>Value.tuple ⟨[(encL 1 n8) (r.1),Value.bool (r.2.1),i64 (r.2.2)]⟩) r) h0:=by
 rcases hm with⟨l,g,rfl,rfl,hm⟩|hm
 ·rw[encLaw_toZ,encAsgN_toZ]
  exact learns_Close_walk hm hB
 ·exact learns_CloseN_walk hm hB
def learns_SaturateZ_wp (c:Circ) (d:Int) (given:List AsgZ) (K:List Nat×Bool×Nat→Prop):Prop :=
 (∃ (n:Nat) (g:List Asg),d=Int.ofNat n∧given=g.map Asg.toZ∧learns_Saturate_wp c n g K)∨learns_SaturateN_wp c d given K
theorem learns_SaturateZ_walk {p0:Circ}{p1:Int}{p2:List AsgZ}{K:List Nat×Bool×Nat→Prop} (hm:learns_SaturateZ_wp p0 p1 p2 K) {h0:Heap} (hB:HasB vars h0):∃ r,K r∧CallD Tryz.prog NG 24 ⟨[encCirc p0,z64 p1,(encL 2 encAsgZ) p2]⟩ h0 ((fun (r:((List Nat)×Bool×Nat))=>Value.tuple ⟨[(encN 1 n8) (r.1),Value.bool (r.2.1),i64 (r.2.2)]⟩) r) h0:=by
 rcases hm with⟨n,g,rfl,rfl,hm⟩|hm
 ·rw[encAsg_toZ]
  exact learns_Saturate_walk hm hB
 ·exact learns_SaturateN_walk hm hB
def learns_StaticZ_wp (c:Circ) (K:List LawZ×Nat→Prop):Prop:=learns_Static_wp c fun r=>K (r.1.map Lawv.toZ,r.2)
theorem learns_StaticZ_walk {p0:Circ}{K:List LawZ×Nat→Prop} (hm:learns_StaticZ_wp p0 K) {h0:Heap} (hB:HasB vars h0):∃ r,K r∧CallD Tryz.prog NG 21 ⟨[encCirc p0]⟩ h0 ((fun (r:((List LawZ)×Nat))=>Value.tuple ⟨[(encL 4 encLawZ) (r.1),i64 (r.2)]⟩) r) h0:=by
 obtain⟨r,k,h⟩:=learns_Static_walk hm hB
 refine⟨_,k,?_⟩
 dsimp only
 rw[encLaw_toZ]
 exact h
set_option maxHeartbeats 8000000
def probecardlaw25_atZ_wp (p0:Int) (p1:Nat) (K:AsgZ→Prop):Prop :=
 K (⟨p0,p1⟩:AsgZ)
theorem probecardlaw25_atZ_walk {p0:Int}{p1:Nat}{K:AsgZ→Prop} (hm:probecardlaw25_atZ_wp p0 p1 K) {h0:Heap} (hB:HasB vars h0):∃ r,K r∧CallD Tryz.prog NG 22 ⟨[z64 p0,n8 p1]⟩ h0 (encAsgZ r) h0:=by
 unfold probecardlaw25_atZ_wp at hm
 refine fw Tryz.func22 hB (enc:=encAsgZ) (fun r=>pure_asgZ _) fun O=>?_;conv=>whnf
 refine gX ?_
 (first|refine O.new (anew_alloc (l:=[(i64 0),(n8 0)]) rfl rfl rfl) fun g1 h O=>?_|refine O.newX (anew_alloc (l:=[(i64 0),(n8 0)]) rfl rfl rfl) fun g1 h O=>?_);refine gH ?_
 refine gX ?_
 refine O.stC 2 (.head _) [(z64 p0),(n8 p1)] fun h O=>?_;refine gX ?_
 refine⟨_,resAggK rfl rfl (O.at (.head _)) rfl rfl (lbE rfl) rfl,?_⟩;conv=>whnf
 exact fe hm O
def probecardlaw25_LearnsErrors_wp (p0:CData) (p1:Int) (p2:Z2) (K:Bool→Prop):Prop :=
 law03_Of_wp p0 (fun r1=>implies_Plain_wp r1 (fun r4=>joinW (α:=Bool) (fun k6=>((eqN r4 0)=true→((ltI (Int.ofNat 1) p1)=true→((!ltI (Int.ofNat 4) p1)=true→((ltN 8 r1.nodes.length)=true→k6 true)∧((ltN 8 r1.nodes.length)=false→((ltI (Int.ofNat 2) p1)=true→k6 (ltN 5 r1.nodes.length))∧((ltI (Int.ofNat 2) p1)=false→k6 false)))∧((!ltI (Int.ofNat 4) p1)=false→k6 false))∧((ltI (Int.ofNat 1) p1)=false→k6 false))∧((eqN r4 0)=false→k6 false)) (fun v5=>(v5=true→law25_lives_wp  (fun r7=>K r7))∧(v5=false→probecardlaw25_atZ_wp p2.a (((p2.b%(2 ^ 2:Nat)).toNat)%256) (fun r8=>probecardlaw25_atZ_wp p2.b (((p2.a%(2 ^ 1:Nat)).toNat)%256) (fun r9=>joinW (α:=Bool) (fun k15=>((ltI r8.net (Int.ofNat 0))=true→k15 true)∧((ltI r8.net (Int.ofNat 0))=false→((!ltI r8.net (Int.ofNat r1.nodes.length))=true→k15 true)∧((!ltI r8.net (Int.ofNat r1.nodes.length))=false→k15 (ltN 1 r8.value)))) (fun v14=>joinW (α:=Nat) (fun k17=>joinW (α:=Bool) (fun k19=>((eqN r4 0)=true→(v14=true→k19 true)∧(v14=false→((ltI r9.net (Int.ofNat 0))=true→k19 true)∧((ltI r9.net (Int.ofNat 0))=false→k19 (!ltI r9.net (Int.ofNat r1.nodes.length)))))∧((eqN r4 0)=false→k19 false)) (fun v18=>(v18=true→k17 1)∧(v18=false→k17 r4))) (fun v16=>joinW (α:=Nat) (fun k21=>((neN r4 0)=true→k21 r4)∧((neN r4 0)=false→((ltI p1 (Int.ofNat 0))=true→k21 1)∧((ltI p1 (Int.ofNat 0))=false→((ltI (Int.ofNat 4) p1)=true→k21 3)∧((ltI (Int.ofNat 4) p1)=false→(v14=true→k21 1)∧(v14=false→k21 r4))))) (fun v20=>learns_StaticZ_wp r1 (fun r22=>probecardlaw25_atZ_wp 0 1 (fun r25=>1=([(⟨r9,r8⟩:LawZ)]:(List LawZ)).length∧1=([r25]:(List AsgZ)).length∧learns_CloseZ_wp r1 ([(⟨r9,r8⟩:LawZ)]:(List LawZ)) ([r25]:(List AsgZ)) (fun r28=>learns_SaturateZ_wp r1 p1 ([r8]:(List AsgZ)) (fun r33=>joinW (α:=Bool) (fun k35=>((eqN r4 0)=true→netlists_Inputs_wp r1 (fun r36=>k35 (eqN r36.length 0)))∧((eqN r4 0)=false→k35 false)) (fun v34=>(v34=true→K false)∧(v34=false→((eqN r22.2 r4)=true→((eqN r28.2.2 v16)=true→((eqN r33.2.2 v20)=true→((eqN r22.2 0)=true→((eqN r28.2.2 0)=true→((eqN r33.2.2 0)=true→law25_lives_wp  (fun r37=>K r37))∧((eqN r33.2.2 0)=false→((!r33.2.1)=true→((eqN r33.1.length 0)=true→law25_lives_wp  (fun r38=>K r38))∧((eqN r33.1.length 0)=false→K false))∧((!r33.2.1)=false→K false)))∧((eqN r28.2.2 0)=false→((!r28.2.1)=true→((eqN r28.1.length 0)=true→((eqN r33.2.2 0)=true→law25_lives_wp  (fun r39=>K r39))∧((eqN r33.2.2 0)=false→((!r33.2.1)=true→((eqN r33.1.length 0)=true→law25_lives_wp  (fun r40=>K r40))∧((eqN r33.1.length 0)=false→K false))∧((!r33.2.1)=false→K false)))∧((eqN r28.1.length 0)=false→K false))∧((!r28.2.1)=false→K false)))∧((eqN r22.2 0)=false→((eqN r22.1.length 0)=true→((eqN r28.2.2 0)=true→((eqN r33.2.2 0)=true→law25_lives_wp  (fun r41=>K r41))∧((eqN r33.2.2 0)=false→((!r33.2.1)=true→((eqN r33.1.length 0)=true→law25_lives_wp  (fun r42=>K r42))∧((eqN r33.1.length 0)=false→K false))∧((!r33.2.1)=false→K false)))∧((eqN r28.2.2 0)=false→((!r28.2.1)=true→((eqN r28.1.length 0)=true→((eqN r33.2.2 0)=true→law25_lives_wp  (fun r43=>K r43))∧((eqN r33.2.2 0)=false→((!r33.2.1)=true→((eqN r33.1.length 0)=true→law25_lives_wp  (fun r44=>K r44))∧((eqN r33.1.length 0)=false→K false))∧((!r33.2.1)=false→K false)))∧((eqN r28.1.length 0)=false→K false))∧((!r28.2.1)=false→K false)))∧((eqN r22.1.length 0)=false→K false)))∧((eqN r33.2.2 v20)=false→K false))∧((eqN r28.2.2 v16)=false→K false))∧((eqN r22.2 r4)=false→K false))))))))))))))))
theorem probecardlaw25_LearnsErrors_walk {p0:CData}{p1:Int}{p2:Z2}{K:Bool→Prop} (hm:probecardlaw25_LearnsErrors_wp p0 p1 p2 K) {h0:Heap} (hB:HasB vars h0):∃ r,K r∧CallD Tryz.prog NG 8 ⟨[encC p0,z64 p1,encZ2 p2]⟩ h0 (Value.bool r) h0:=by
 unfold probecardlaw25_LearnsErrors_wp at hm
 refine fw Tryz.func8 hB (enc:=Value.bool) (fun r=>PureV.flat rfl) fun O=>?_;conv=>whnf
 refine gX ?_
 refine fz ?_;refine gH ?_
 refine fz ?_;refine gX ?_
 refine ca (law03_Of_walk hm O.has) fun r1 hm=>?_;refine gH ?_
 (first|refine O.new (anew_alloc (l:=[(.slice none 0 0),(.slice none 0 0),(.slice none 0 0),(.slice none 0 0)]) rfl rfl rfl) fun g2 h O=>?_|refine O.newX (anew_alloc (l:=[(.slice none 0 0),(.slice none 0 0),(.slice none 0 0),(.slice none 0 0)]) rfl rfl rfl) fun g2 h O=>?_);refine gH ?_
 refine O.stC 4 (.head _) [((encL 4 encNode) r1.nodes),((encL 1 Value.string) r1.names),((encL 3 encMem) r1.mems),((encL 1 i64) r1.outs)] fun h O=>?_;refine gX ?_
 refine ldA (O.at (.head _)) ?_;refine gH ?_
 refine ca (implies_Plain_walk hm O.has) fun r4 hm=>?_;refine gH ?_
 apply Cs;conv=>whnf
 refine jn hm 199 [1,5,7,8] (fun s=>s) (fun v5 h=>Own vars h0 [((some g2),.cells [((encL 4 encNode) r1.nodes),((encL 1 Value.string) r1.names),((encL 3 encMem) r1.mems),((encL 1 i64) r1.outs)] false)] h) (fun v5=>[(51,(.bool v5))]) (fun hm=>?_) ?_
 ·refine gX ?_
  refine br hm (fun hm=>?_) fun hm=>?_
  ·refine gX ?_
   refine br hm (fun hm=>?_) fun hm=>?_
   ·refine gX ?_
    refine br hm (fun hm=>?_) fun hm=>?_
    ·refine gX ?_
     refine br hm (fun hm=>?_) fun hm=>?_
     ·refine gX ?_
      exact jx true hm O
     ·refine gX ?_
      refine br hm (fun hm=>?_) fun hm=>?_
      ·refine gX ?_
       exact jx (ltN 5 r1.nodes.length) hm O
      ·refine gX ?_
       exact jx false hm O
    ·refine gX ?_
     exact jx false hm O
   ·refine gX ?_
    refine bf ?_;refine gH ?_
    exact jx false hm O
  ·refine gX ?_
   refine bf ?_;refine gH ?_
   refine bf ?_;refine gH ?_
   exact jx false hm O
 ·clear hm;rintro v5 base h hm O
  refine gX ?_
  refine br hm (fun hm=>?_) fun hm=>?_
  ·refine gX ?_
   refine ca (law25_lives_walk hm O.has) fun r7 hm=>?_;refine gX ?_
   exact fe hm O
  ·refine gX ?_
   refine idxR rfl ?_;refine gH ?_
   refine idxR rfl ?_;refine gH ?_
   refine aAndZ 2 3 ?_;refine gH ?_
   refine aCw ?_;refine gH ?_
   refine ca (probecardlaw25_atZ_walk hm O.has) fun r8 hm=>?_;refine gH ?_
   (first|refine⟨.inr (.inr (loadK rfl (O.at (.head _)) rfl rfl)),?_⟩|refine⟨.inr (.inr (loadK rfl (O.at (.tail _ (.head _))) rfl rfl)),?_⟩|refine⟨.inr (.inr (loadK rfl (O.at (.tail _ (.tail _ (.head _)))) rfl rfl)),?_⟩|refine⟨.inr (.inr (loadK rfl (O.at (.tail _ (.tail _ (.tail _ (.head _))))) rfl rfl)),?_⟩|refine⟨.inr (.inr (loadK rfl (O.at (.tail _ (.tail _ (.tail _ (.tail _ (.head _)))))) rfl rfl)),?_⟩|refine⟨.inr (.inr (loadK rfl (O.at (.tail _ (.tail _ (.tail _ (.tail _ (.tail _ (.head _))))))) rfl rfl)),?_⟩|refine⟨.inr (.inr (loadK rfl (O.at (.tail _ (.tail _ (.tail _ (.tail _ (.tail _ (.tail _ (.head _)))))))) rfl rfl)),?_⟩|refine⟨.inl (Ext.refl _),?_⟩|refine⟨.inr (.inr rfl),?_⟩|refine⟨.inr (by kernel_rfl),?_⟩|refine⟨.inl (by kernel_rfl),?_⟩|refine id ?_);refine gH ?_
   refine idxR rfl ?_;refine gH ?_
   refine idxR rfl ?_;refine gH ?_
   refine aAndZ 1 1 ?_;refine gH ?_
   refine aCw ?_;refine gH ?_
   refine ca (probecardlaw25_atZ_walk hm O.has) fun r9 hm=>?_;refine gH ?_
   (first|refine⟨.inr (.inr (loadK rfl (O.at (.head _)) rfl rfl)),?_⟩|refine⟨.inr (.inr (loadK rfl (O.at (.tail _ (.head _))) rfl rfl)),?_⟩|refine⟨.inr (.inr (loadK rfl (O.at (.tail _ (.tail _ (.head _)))) rfl rfl)),?_⟩|refine⟨.inr (.inr (loadK rfl (O.at (.tail _ (.tail _ (.tail _ (.head _))))) rfl rfl)),?_⟩|refine⟨.inr (.inr (loadK rfl (O.at (.tail _ (.tail _ (.tail _ (.tail _ (.head _)))))) rfl rfl)),?_⟩|refine⟨.inr (.inr (loadK rfl (O.at (.tail _ (.tail _ (.tail _ (.tail _ (.tail _ (.head _))))))) rfl rfl)),?_⟩|refine⟨.inr (.inr (loadK rfl (O.at (.tail _ (.tail _ (.tail _ (.tail _ (.tail _ (.tail _ (.head _)))))))) rfl rfl)),?_⟩|refine⟨.inl (Ext.refl _),?_⟩|refine⟨.inr (.inr rfl),?_⟩|refine⟨.inr (by kernel_rfl),?_⟩|refine⟨.inl (by kernel_rfl),?_⟩|refine id ?_);refine gH ?_
   (first|refine O.new (anew_alloc (l:=[(i64 0),(n8 0)]) rfl rfl rfl) fun g10 h O=>?_|refine O.newX (anew_alloc (l:=[(i64 0),(n8 0)]) rfl rfl rfl) fun g10 h O=>?_);refine gH ?_
   (first|refine O.new (anew_alloc (l:=[(i64 0),(n8 0)]) rfl rfl rfl) fun g12 h O=>?_|refine O.newX (anew_alloc (l:=[(i64 0),(n8 0)]) rfl rfl rfl) fun g12 h O=>?_);refine gH ?_
   refine O.stC 2 (.tail _ (.head _)) [(z64 r8.net),(n8 r8.value)] fun h O=>?_;refine gH ?_
   (first|refine⟨.inr (.inr (loadK rfl (O.at (.head _)) rfl rfl)),?_⟩|refine⟨.inr (.inr (loadK rfl (O.at (.tail _ (.head _))) rfl rfl)),?_⟩|refine⟨.inr (.inr (loadK rfl (O.at (.tail _ (.tail _ (.head _)))) rfl rfl)),?_⟩|refine⟨.inr (.inr (loadK rfl (O.at (.tail _ (.tail _ (.tail _ (.head _))))) rfl rfl)),?_⟩|refine⟨.inr (.inr (loadK rfl (O.at (.tail _ (.tail _ (.tail _ (.tail _ (.head _)))))) rfl rfl)),?_⟩|refine⟨.inr (.inr (loadK rfl (O.at (.tail _ (.tail _ (.tail _ (.tail _ (.tail _ (.head _))))))) rfl rfl)),?_⟩|refine⟨.inr (.inr (loadK rfl (O.at (.tail _ (.tail _ (.tail _ (.tail _ (.tail _ (.tail _ (.head _)))))))) rfl rfl)),?_⟩|refine⟨.inl (Ext.refl _),?_⟩|refine⟨.inr (.inr rfl),?_⟩|refine⟨.inr (by kernel_rfl),?_⟩|refine⟨.inl (by kernel_rfl),?_⟩|refine id ?_);refine gH ?_
   refine O.stC 2 (.head _) [(z64 r9.net),(n8 r9.value)] fun h O=>?_;refine gH ?_
   (first|refine⟨.inr (.inr (loadK rfl (O.at (.head _)) rfl rfl)),?_⟩|refine⟨.inr (.inr (loadK rfl (O.at (.tail _ (.head _))) rfl rfl)),?_⟩|refine⟨.inr (.inr (loadK rfl (O.at (.tail _ (.tail _ (.head _)))) rfl rfl)),?_⟩|refine⟨.inr (.inr (loadK rfl (O.at (.tail _ (.tail _ (.tail _ (.head _))))) rfl rfl)),?_⟩|refine⟨.inr (.inr (loadK rfl (O.at (.tail _ (.tail _ (.tail _ (.tail _ (.head _)))))) rfl rfl)),?_⟩|refine⟨.inr (.inr (loadK rfl (O.at (.tail _ (.tail _ (.tail _ (.tail _ (.tail _ (.head _))))))) rfl rfl)),?_⟩|refine⟨.inr (.inr (loadK rfl (O.at (.tail _ (.tail _ (.tail _ (.tail _ (.tail _ (.tail _ (.head _)))))))) rfl rfl)),?_⟩|refine⟨.inl (Ext.refl _),?_⟩|refine⟨.inr (.inr rfl),?_⟩|refine⟨.inr (by kernel_rfl),?_⟩|refine⟨.inl (by kernel_rfl),?_⟩|refine id ?_);refine gH ?_
   apply Cs;conv=>whnf
   apply Cs;refine gH ?_
   refine jn hm 199 [1,7,8,9,10,11,12] (fun s=>s) (fun v14 h=>Own vars h0 [((some g2),.cells [((encL 4 encNode) r1.nodes),((encL 1 Value.string) r1.names),((encL 3 encMem) r1.mems),((encL 1 i64) r1.outs)] false),((some g10),.cells [(z64 r8.net),(n8 r8.value)] false),((some g12),.cells [(z64 r9.net),(n8 r9.value)] false)] h) (fun v14=>[(13,(.bool v14))]) (fun hm=>?_) ?_
   ·refine gX ?_
    refine br hm (fun hm=>?_) fun hm=>?_
    ·refine gX ?_
     refine bt ?_;refine gH ?_
     exact jx true hm (O.sel [2,1,0] (by decide))
    ·refine gX ?_
     refine br hm (fun hm=>?_) fun hm=>?_
     ·refine gX ?_
      exact jx true hm (O.sel [2,1,0] (by decide))
     ·refine gX ?_
      exact jx (ltN 1 r8.value) hm (O.sel [2,1,0] (by decide))
   ·clear hm;rintro v14 base h hm O
    conv=>whnf
    refine jn hm 199 [1,7,8,9,10,12,13] (fun s=>s) (fun v16 h=>Own vars h0 [((some g2),.cells [((encL 4 encNode) r1.nodes),((encL 1 Value.string) r1.names),((encL 3 encMem) r1.mems),((encL 1 i64) r1.outs)] false),((some g10),.cells [(z64 r8.net),(n8 r8.value)] false),((some g12),.cells [(z64 r9.net),(n8 r9.value)] false)] h) (fun v16=>[(11,(i64 v16))]) (fun hm=>?_) ?_
    ·refine jn hm 199 [1,7,8,9,10,11,12,13] (fun s=>s) (fun v18 h=>Own vars h0 [((some g2),.cells [((encL 4 encNode) r1.nodes),((encL 1 Value.string) r1.names),((encL 3 encMem) r1.mems),((encL 1 i64) r1.outs)] false),((some g10),.cells [(z64 r8.net),(n8 r8.value)] false),((some g12),.cells [(z64 r9.net),(n8 r9.value)] false)] h) (fun v18=>[(102,(.bool v18))]) (fun hm=>?_) ?_
     ·refine gX ?_
      refine br hm (fun hm=>?_) fun hm=>?_
      ·refine gX ?_
       refine br hm (fun hm=>?_) fun hm=>?_
       ·refine gX ?_
        refine bt ?_;refine gH ?_
        exact jx true hm O
       ·refine gX ?_
        refine br hm (fun hm=>?_) fun hm=>?_
        ·refine gX ?_
         exact jx true hm O
        ·refine gX ?_
         exact jx (!ltI r9.net (Int.ofNat r1.nodes.length)) hm O
      ·refine gX ?_
       exact jx false hm O
     ·clear hm;rintro v18 base h hm O
      refine gX ?_
      refine br hm (fun hm=>?_) fun hm=>?_
      ·refine gX ?_
       exact jx 1 hm O
      ·refine gX ?_
       exact jx r4 hm O
    ·clear hm;rintro v16 base h hm O
     conv=>whnf
     refine jn hm 199 [1,7,8,9,10,11] (fun s=>s) (fun v20 h=>Own vars h0 [((some g2),.cells [((encL 4 encNode) r1.nodes),((encL 1 Value.string) r1.names),((encL 3 encMem) r1.mems),((encL 1 i64) r1.outs)] false),((some g10),.cells [(z64 r8.net),(n8 r8.value)] false),((some g12),.cells [(z64 r9.net),(n8 r9.value)] false)] h) (fun v20=>[(12,(i64 v20))]) (fun hm=>?_) ?_
     ·refine gX ?_
      refine br hm (fun hm=>?_) fun hm=>?_
      ·refine gX ?_
       exact jx r4 hm O
      ·refine gX ?_
       refine br hm (fun hm=>?_) fun hm=>?_
       ·refine gX ?_
        exact jx 1 hm O
       ·refine gX ?_
        refine br hm (fun hm=>?_) fun hm=>?_
        ·refine gX ?_
         exact jx 3 hm O
        ·refine gX ?_
         refine br hm (fun hm=>?_) fun hm=>?_
         ·refine gX ?_
          exact jx 1 hm O
         ·refine gX ?_
          exact jx r4 hm O
     ·clear hm;rintro v20 base h hm O
      refine gX ?_
      refine ldA (O.at (.head _)) ?_;refine gH ?_
      refine ca (learns_StaticZ_walk hm O.has) fun r22 hm=>?_;refine gX ?_
      refine ldA (O.at (.head _)) ?_;refine gH ?_
      first|refine⟨.inr (.inr (loadAggK rfl (O.at (.head _)) rfl rfl (lbE rfl) rfl)),?_⟩|refine⟨.inr (.inl (by kernel_rfl)),?_⟩
      refine gX ?_
      refine ldA (O.at (.tail _ (.tail _ (.head _)))) ?_;refine gH ?_
      first|refine⟨.inr (.inr (loadAggK rfl (O.at (.tail _ (.tail _ (.head _)))) rfl rfl (lbE rfl) rfl)),?_⟩|refine⟨.inr (.inl (by kernel_rfl)),?_⟩
      refine gX ?_
      refine ldA (O.at (.tail _ (.head _))) ?_;refine gH ?_
      first|refine⟨.inr (.inr (loadAggK rfl (O.at (.tail _ (.head _))) rfl rfl (lbE rfl) rfl)),?_⟩|refine⟨.inr (.inl (by kernel_rfl)),?_⟩
      refine gX ?_
      refine O.buildLX (l:=([(⟨r9,r8⟩:LawZ)]:(List LawZ))) (enc:=encLawZ) (s:=4) (z:=(.agg ⟨[(i64 0),(n8 0),(i64 0),(n8 0)]⟩)) rfl rfl (by kernel_rfl) (by kernel_rfl) rfl rfl rfl rfl (fun _=>rfl) fun g23 h O=>?_;refine gH ?_
      refine ca (probecardlaw25_atZ_walk hm O.has) fun r25 hm=>?_;refine gH ?_
      (first|refine⟨.inr (.inr (loadK rfl (O.at (.head _)) rfl rfl)),?_⟩|refine⟨.inr (.inr (loadK rfl (O.at (.tail _ (.head _))) rfl rfl)),?_⟩|refine⟨.inr (.inr (loadK rfl (O.at (.tail _ (.tail _ (.head _)))) rfl rfl)),?_⟩|refine⟨.inr (.inr (loadK rfl (O.at (.tail _ (.tail _ (.tail _ (.head _))))) rfl rfl)),?_⟩|refine⟨.inr (.inr (loadK rfl (O.at (.tail _ (.tail _ (.tail _ (.tail _ (.head _)))))) rfl rfl)),?_⟩|refine⟨.inr (.inr (loadK rfl (O.at (.tail _ (.tail _ (.tail _ (.tail _ (.tail _ (.head _))))))) rfl rfl)),?_⟩|refine⟨.inr (.inr (loadK rfl (O.at (.tail _ (.tail _ (.tail _ (.tail _ (.tail _ (.tail _ (.head _)))))))) rfl rfl)),?_⟩|refine⟨.inl (Ext.refl _),?_⟩|refine⟨.inr (.inr rfl),?_⟩|refine⟨.inr (by kernel_rfl),?_⟩|refine⟨.inl (by kernel_rfl),?_⟩|refine id ?_);refine gH ?_
      refine O.buildLX (l:=([r25]:(List AsgZ))) (enc:=encAsgZ) (s:=2) (z:=(.agg ⟨[(i64 0),(n8 0)]⟩)) rfl rfl (by kernel_rfl) (by kernel_rfl) rfl rfl rfl rfl (fun _=>rfl) fun g26 h O=>?_;refine gH ?_
      obtain⟨hn31,hn32,hm⟩:=hm
      refine O.useXL (.tail _ (.head _)) hn31 (fun _=>rfl) (i:=1) rfl (by kernel_rfl) (fun h2 q=>(LLe.cons (VLe.refl _ _) (LLe.cons (q) (LLe.cons (VLe.refl _ _) (LLe.nil _))))) fun h O=>O.useXL (.head _) hn32 (fun _=>rfl) (i:=2) rfl (by kernel_rfl) (fun h2 q=>(LLe.cons (VLe.refl _ _) (LLe.cons (VLe.refl _ _) (LLe.cons (VLe.toN (by simp) q) (LLe.nil _))))) fun h O=>ca (learns_CloseZ_walk hm O.has) fun r28 hm=>?_;refine gH ?_
      (first|refine⟨.inr (.inr (loadK rfl (O.at (.head _)) rfl rfl)),?_⟩|refine⟨.inr (.inr (loadK rfl (O.at (.tail _ (.head _))) rfl rfl)),?_⟩|refine⟨.inr (.inr (loadK rfl (O.at (.tail _ (.tail _ (.head _)))) rfl rfl)),?_⟩|refine⟨.inr (.inr (loadK rfl (O.at (.tail _ (.tail _ (.tail _ (.head _))))) rfl rfl)),?_⟩|refine⟨.inr (.inr (loadK rfl (O.at (.tail _ (.tail _ (.tail _ (.tail _ (.head _)))))) rfl rfl)),?_⟩|refine⟨.inr (.inr (loadK rfl (O.at (.tail _ (.tail _ (.tail _ (.tail _ (.tail _ (.head _))))))) rfl rfl)),?_⟩|refine⟨.inr (.inr (loadK rfl (O.at (.tail _ (.tail _ (.tail _ (.tail _ (.tail _ (.tail _ (.head _)))))))) rfl rfl)),?_⟩|refine⟨.inl (Ext.refl _),?_⟩|refine⟨.inr (.inr rfl),?_⟩|refine⟨.inr (by kernel_rfl),?_⟩|refine⟨.inl (by kernel_rfl),?_⟩|refine id ?_);refine gH ?_
      refine gX ?_
      refine ldA (O.at (.tail _ (.tail _ (.head _)))) ?_;refine gH ?_
      refine ldA (O.at (.tail _ (.tail _ (.tail _ (.head _))))) ?_;refine gH ?_
      refine fz ?_;refine gH ?_
      refine ca (learns_SaturateZ_walk hm O.has) fun r33 hm=>?_;refine gH ?_
      apply Cs;conv=>whnf
      refine jn hm 199 [8,11,12,14,15,16,17,18,19,20,21] (fun s=>s) (fun v34 h=>Own vars h0 [] h) (fun v34=>[(147,(.bool v34))]) (fun hm=>?_) ?_
      ·refine gX ?_
       refine br hm (fun hm=>?_) fun hm=>?_
       ·refine gX ?_
        refine ldA (O.at (.tail _ (.tail _ (.head _)))) ?_;refine gH ?_
        refine ca (netlists_Inputs_walk hm O.has) fun r36 hm=>?_;refine gH ?_
        exact jx (eqN r36.length 0) hm (O.sel [] (by decide))
       ·refine gX ?_
        exact jx false hm (O.sel [] (by decide))
      ·clear hm;rintro v34 base h hm O
       refine gX ?_
       refine br hm (fun hm=>?_) fun hm=>?_
       ·refine gX ?_
        exact fe hm O
       ·refine gX ?_
        refine br hm (fun hm=>?_) fun hm=>?_
        ·refine gX ?_
         refine br hm (fun hm=>?_) fun hm=>?_
         ·refine gX ?_
          refine br hm (fun hm=>?_) fun hm=>?_
          ·refine gX ?_
           refine br hm (fun hm=>?_) fun hm=>?_
           ·refine gX ?_
            refine bt ?_;refine gH ?_
            refine br hm (fun hm=>?_) fun hm=>?_
            ·refine gX ?_
             refine bt ?_;refine gH ?_
             refine br hm (fun hm=>?_) fun hm=>?_
             ·refine gX ?_
              refine bt ?_;refine gH ?_
              refine ca (law25_lives_walk hm O.has) fun r37 hm=>?_;refine gX ?_
              exact fe hm O
             ·refine gX ?_
              refine br hm (fun hm=>?_) fun hm=>?_
              ·refine gX ?_
               refine lmN ?_;refine gH ?_
               refine br hm (fun hm=>?_) fun hm=>?_
               ·refine gX ?_
                refine ca (law25_lives_walk hm O.has) fun r38 hm=>?_;refine gX ?_
                exact fe hm O
               ·refine gX ?_
                exact fe hm O
              ·refine gX ?_
               refine bf ?_;refine gX ?_
               exact fe hm O
            ·refine gX ?_
             refine br hm (fun hm=>?_) fun hm=>?_
             ·refine gX ?_
              refine br hm (fun hm=>?_) fun hm=>?_
              ·refine gX ?_
               refine br hm (fun hm=>?_) fun hm=>?_
               ·refine gX ?_
                refine bt ?_;refine gH ?_
                refine ca (law25_lives_walk hm O.has) fun r39 hm=>?_;refine gX ?_
                exact fe hm O
               ·refine gX ?_
                refine br hm (fun hm=>?_) fun hm=>?_
                ·refine gX ?_
                 refine lmN ?_;refine gH ?_
                 refine br hm (fun hm=>?_) fun hm=>?_
                 ·refine gX ?_
                  refine ca (law25_lives_walk hm O.has) fun r40 hm=>?_;refine gX ?_
                  exact fe hm O
                 ·refine gX ?_
                  exact fe hm O
                ·refine gX ?_
                 refine bf ?_;refine gX ?_
                 exact fe hm O
              ·refine gX ?_
               refine bf ?_;refine gX ?_
               exact fe hm O
             ·refine gX ?_
              refine bf ?_;refine gH ?_
              refine bf ?_;refine gX ?_
              exact fe hm O
           ·refine gX ?_
            refine br hm (fun hm=>?_) fun hm=>?_
            ·refine gX ?_
             refine br hm (fun hm=>?_) fun hm=>?_
             ·refine gX ?_
              refine bt ?_;refine gH ?_
              refine br hm (fun hm=>?_) fun hm=>?_
              ·refine gX ?_
               refine bt ?_;refine gH ?_
               refine ca (law25_lives_walk hm O.has) fun r41 hm=>?_;refine gX ?_
               exact fe hm O
              ·refine gX ?_
               refine br hm (fun hm=>?_) fun hm=>?_
               ·refine gX ?_
                refine lmN ?_;refine gH ?_
                refine br hm (fun hm=>?_) fun hm=>?_
                ·refine gX ?_
                 refine ca (law25_lives_walk hm O.has) fun r42 hm=>?_;refine gX ?_
                 exact fe hm O
                ·refine gX ?_
                 exact fe hm O
               ·refine gX ?_
                refine bf ?_;refine gX ?_
                exact fe hm O
             ·refine gX ?_
              refine br hm (fun hm=>?_) fun hm=>?_
              ·refine gX ?_
               refine br hm (fun hm=>?_) fun hm=>?_
               ·refine gX ?_
                refine br hm (fun hm=>?_) fun hm=>?_
                ·refine gX ?_
                 refine bt ?_;refine gH ?_
                 refine ca (law25_lives_walk hm O.has) fun r43 hm=>?_;refine gX ?_
                 exact fe hm O
                ·refine gX ?_
                 refine br hm (fun hm=>?_) fun hm=>?_
                 ·refine gX ?_
                  refine lmN ?_;refine gH ?_
                  refine br hm (fun hm=>?_) fun hm=>?_
                  ·refine gX ?_
                   refine ca (law25_lives_walk hm O.has) fun r44 hm=>?_;refine gX ?_
                   exact fe hm O
                  ·refine gX ?_
                   exact fe hm O
                 ·refine gX ?_
                  refine bf ?_;refine gX ?_
                  exact fe hm O
               ·refine gX ?_
                refine bf ?_;refine gX ?_
                exact fe hm O
              ·refine gX ?_
               refine bf ?_;refine gH ?_
               refine bf ?_;refine gX ?_
               exact fe hm O
            ·refine gX ?_
             refine bf ?_;refine gH ?_
             refine bf ?_;refine gX ?_
             exact fe hm O
          ·refine gX ?_
           refine bf ?_;refine gH ?_
           refine bf ?_;refine gH ?_
           refine bf ?_;refine gX ?_
           exact fe hm O
         ·refine gX ?_
          refine bf ?_;refine gH ?_
          refine bf ?_;refine gH ?_
          refine bf ?_;refine gH ?_
          refine bf ?_;refine gX ?_
          exact fe hm O
        ·refine gX ?_
         refine bf ?_;refine gH ?_
         refine bf ?_;refine gH ?_
         refine bf ?_;refine gH ?_
         refine bf ?_;refine gH ?_
         refine bf ?_;refine gX ?_
         exact fe hm O
theorem joinP {α:Type}{first:(α→Prop)→Prop}{rest:α→Prop} (P:α→Prop) (h1:∀ k,(∀ a,P a→k a)→first k) (h2:∀ a,P a→rest a):joinW first rest:=h1 rest h2
def OkZ (c:Circ) (a:AsgZ):Prop:=0≤a.net∧a.net<Int.ofNat c.nodes.length∧a.value≤1
theorem knownZ_vc {c:Circ}{l:List AsgZ} (hl:l.length<2 ^ 60) {K:Bool→Prop} (h1:(∀ a∈l,OkZ c a)→K true) (h2:¬ (∀ a∈l,OkZ c a)→K false):learns_knownZ_wp c l K:=by
 unfold learns_knownZ_wp
 refine joinLoop (fun i=>i≤l.length∧∀ a∈l.take i,OkZ c a) (fun i=>l.length-i) (fun _=>∀ a∈l,OkZ c a) ?_ ⟨Nat.zero_le _,fun a m=>by simp at m⟩ (fun _ e=>h1 e)
 rintro kk i nx ⟨hi,hI⟩ hnx hk
 refine⟨fun q=>?_,fun q=>?_⟩
 ·have q:=lt_t.1 q
  obtain⟨a,ha⟩:=get_lt q
  obtain⟨l1,l2⟩:=List.getElem?_eq_some_iff.1 ha
  have hm:=List.mem_of_getElem? ha
  refine⟨a,ha,joinP (fun b=>(b=true→¬ OkZ c a)∧(b=false→OkZ c a)) (fun k2 hk2=>⟨fun q1=>hk2 _ ⟨fun _ O=>?_,(fun e=>by cases e)⟩,fun q1=>⟨fun q2=>hk2 _ ⟨fun _ O=>?_,(fun e=>by cases e)⟩,fun q2=>known_vc (hk2 _ ⟨fun e O=>?_,fun e=>⟨?_,?_,?_⟩⟩)⟩⟩) (fun b hb=>⟨fun e=>h2 fun A=>hb.1 e (A a hm),fun e=>⟨by omega,hnx _ ⟨q,fun y m=>?_⟩ (by omega)⟩⟩)⟩
  ·have q1:=ltZ_t.1 q1;have:=O.1;simp only[Int.ofNat_eq_natCast] at q1;omega
  ·have q2:ltI a.net (Int.ofNat c.nodes.length)=false:=by simpa using q2
   have q2:=ltZ_f.1 q2;have:=O.2.1;omega
  ·rw[Bool.not_eq_true',decide_eq_false_iff_not] at e;exact e O.2.2
  ·have q1:=ltZ_f.1 q1;simp only[Int.ofNat_eq_natCast] at q1;omega
  ·have q2:ltI a.net (Int.ofNat c.nodes.length)=true:=by simpa using q2
   exact ltZ_t.1 q2
  ·rw[Bool.not_eq_false',decide_eq_true_eq] at e;exact e
  ·rw[List.take_succ_eq_append_getElem l1,l2] at m
   rcases List.mem_append.1 m with m|m
   ·exact hI y m
   ·rw[List.mem_singleton.1 m];exact hb.2 e
 ·have q:=lt_f.1 q
  exact hk () (by rw[List.take_of_length_le q] at hI;exact hI)
theorem toZ_of {c:Circ}{a:AsgZ} (h:OkZ c a):∃ b:Asg,a=b.toZ∧b.net<c.nodes.length∧b.value≤1:=by
 obtain⟨n,v⟩:=a
 obtain⟨h1,h2,h3⟩:=h
 dsimp only at h1 h2 h3
 refine⟨⟨n.toNat,v⟩,?_,?_,h3⟩
 ·unfold Asg.toZ
  congr 1
  simp only[Int.ofNat_eq_natCast];omega
 ·simp only[Int.ofNat_eq_natCast] at h2
  show n.toNat<_
  omega
open Classical in
noncomputable def firstE (c:Circ) (one two:AsgZ):Nat:=if wantN c=0∧¬ (OkZ c two∧OkZ c one) then 1 else wantN c
open Classical in
noncomputable def secondE (c:Circ) (d:Int) (one:AsgZ):Nat:=if wantN c=0 then (if d<0 then 1 else if 4<d then 3 else if OkZ c one then 0 else 1) else wantN c
theorem closeE_vc {c:Circ} (G:Good c) (f3:Few3 c) {one two:AsgZ}{K:List Nat×Bool×Nat→Prop} (k:∀ r,r.2.2=firstE c one two→(firstE c one two≠0→r.1=[]∧r.2.1=false)→K r):learns_CloseZ_wp c [⟨two,one⟩] [⟨0,1⟩] K:=by
 by_cases hw:wantN c=0
 ·have C:CC c:=⟨want_pln G hw,f3⟩
  have hpos:=C.p.good.pos
  have h01:OkZ c ⟨0,1⟩:=⟨Int.le_refl _,by simp only[Int.ofNat_eq_natCast];omega,Nat.le_refl _⟩
  by_cases hb:OkZ c two∧OkZ c one
  ·obtain⟨a,rfl,a1,a2⟩:=toZ_of hb.1
   obtain⟨b,rfl,b1,b2⟩:=toZ_of hb.2
   refine .inl ⟨[⟨a,b⟩],[⟨0,1⟩],rfl,rfl,lClose_vc C ⟨fun l m=>?_,by simp⟩ ⟨fun x m=>?_,by simp⟩ (by simp) (k _ ?_ fun h=>?_)⟩
   ·rw[List.mem_singleton.1 m];exact⟨⟨a1,a2⟩,b1,b2⟩
   ·rw[List.mem_singleton.1 m];exact⟨hpos,Nat.le_refl _⟩
   ·rw[cloR_err];unfold firstE;rw[if_neg fun h=>h.2 hb,hw]
   ·exfalso;apply h;unfold firstE;rw[if_neg fun h=>h.2 hb,hw]
  ·have hf:firstE c one two=1:=if_pos ⟨hw,hb⟩
   have hk:K ([],false,1):=k _ hf.symm fun _=>⟨rfl,rfl⟩
   refine .inr ?_
   unfold learns_CloseN_wp
   refine plainW_vc G ?_
   rw[hw]
   refine⟨fun q=>absurd rfl (ne_t.1 q),fun _=>knownZ_vc (by simp) (fun _=>⟨(fun e=>by cases e),fun _=>?_⟩) (fun h=>absurd (fun a m=>by rw[List.mem_singleton.1 m];exact h01) h)⟩
   refine joinLoop (fun i=>i=0) (fun _=>0) (fun _=>False) ?_ rfl (fun _ e=>e.elim)
   rintro k2 i nx rfl _ _
   refine⟨fun _=>⟨_,rfl,knownZ_vc (by simp) (fun h=>absurd ⟨h two (by simp),h one (by simp)⟩ hb) (fun _=>⟨fun _=>hk,(fun e=>by cases e)⟩)⟩,fun q=>absurd (lt_f.1 q) (by simp)⟩
 ·have hf:firstE c one two=wantN c:=if_neg fun q=>hw q.1
  refine .inr ?_
  unfold learns_CloseN_wp
  exact plainW_vc G ⟨fun _=>k _ hf.symm fun _=>⟨rfl,rfl⟩,fun q=>absurd (ne_f.1 q) hw⟩
theorem satE_vc {c:Circ} (G:Good c) (f3:Few3 c) {d:Int}{one:AsgZ}{K:List Nat×Bool×Nat→Prop} (k:∀ r,r.2.2=secondE c d one→(secondE c d one≠0→r.1=[]∧r.2.1=false)→K r):learns_SaturateZ_wp c d [one] K:=by
 by_cases hw:wantN c=0
 ·have C:CC c:=⟨want_pln G hw,f3⟩
  by_cases hb:0≤d∧d≤4∧OkZ c one
  ·obtain⟨d0,d4,ho⟩:=hb
   obtain⟨n,rfl⟩:∃ n:Nat,d=Int.ofNat n:=⟨d.toNat,by simp only[Int.ofNat_eq_natCast];omega⟩
   have e:secondE c (Int.ofNat n) one=0:=by
    unfold secondE
    rw[if_pos hw,if_neg (by omega),if_neg (by omega),if_pos ho]
   obtain⟨b,rfl,b1,b2⟩:=toZ_of ho
   refine .inl ⟨n,[b],rfl,rfl,lSaturate_vc C (by simp only[Int.ofNat_eq_natCast] at d4;omega) ⟨fun x m=>?_,by simp⟩ (k _ (by rw[cloR_err,e]) fun h=>absurd e h)⟩
   rw[List.mem_singleton.1 m];exact⟨b1,b2⟩
  ·refine .inr ?_
   unfold learns_SaturateN_wp
   refine plainW_vc G ?_
   rw[hw]
   refine⟨fun q=>absurd rfl (ne_t.1 q),fun _=>⟨fun q=>?_,fun q=>⟨fun q2=>?_,fun q2=>knownZ_vc (by simp) (fun h=>?_) (fun h=>⟨fun _=>?_,(fun e=>by cases e)⟩)⟩⟩⟩
   ·have q:=ltZ_t.1 q
    simp only[Int.ofNat_eq_natCast] at q
    refine k _ ?_ fun _=>⟨rfl,rfl⟩
    unfold secondE;rw[if_pos hw,if_pos (by omega)]
   ·have q:=ltZ_f.1 q
    have q2:=ltZ_t.1 q2
    simp only[Int.ofNat_eq_natCast] at q q2
    refine k _ ?_ fun _=>⟨rfl,rfl⟩
    unfold secondE;rw[if_pos hw,if_neg (by omega),if_pos (by omega)]
   ·have q:=ltZ_f.1 q
    have q2:=ltZ_f.1 q2
    simp only[Int.ofNat_eq_natCast] at q q2
    exact absurd ⟨by omega,by omega,h one (by simp)⟩ hb
   ·have q:=ltZ_f.1 q
    have q2:=ltZ_f.1 q2
    simp only[Int.ofNat_eq_natCast] at q q2
    refine k _ ?_ fun _=>⟨rfl,rfl⟩
    unfold secondE
    rw[if_pos hw,if_neg (by omega),if_neg (by omega),if_neg fun ho=>h fun a m=>by rw[List.mem_singleton.1 m];exact ho]
 ·refine .inr ?_
  unfold learns_SaturateN_wp
  refine plainW_vc G ⟨fun _=>k _ ?_ fun _=>⟨rfl,rfl⟩,fun q=>absurd (ne_f.1 q) hw⟩
  unfold secondE;rw[if_neg hw]
theorem staticE_vc {c:Circ} (G:Good c) (f3:Few3 c) {K:List LawZ×Nat→Prop} (k:∀ r,r.2=wantN c→(wantN c≠0→r.1=[])→K r):learns_StaticZ_wp c K:=by
 unfold learns_StaticZ_wp
 by_cases hw:wantN c=0
 ·exact static_vc ⟨want_pln G hw,f3⟩ fun l _ _=>k _ hw.symm fun h=>absurd hw h
 ·unfold learns_Static_wp
  exact plainW_vc G ⟨fun _=>k _ rfl fun _=>rfl,fun q=>absurd (ne_f.1 q) hw⟩
theorem circ_zero (x:CData):(circN x).nodes[0]?=some inputN:=by
 have hbl:=baseN_length x.inp x.dffs x.mem
 show (updN (x.inp%4+1) (dataN x (rawN x).length) (x.dffs%3) (rawN x))[0]?=_
 rw[updN_low (by omega)]
 unfold rawN
 rw[gatesN_get _ _ _ (by omega) _ (Nat.min_le_left _ _)]
 unfold baseN
 rw[List.append_assoc,List.getElem?_append_left (by rw[List.length_replicate];omega),List.getElem?_replicate,if_pos (by omega)]
theorem circ_input (x:CData):0<(ofN (circN x) [0]).length:=by
 have hy:=circ_zero x
 refine List.length_pos_of_mem (a:=0) ?_
 unfold ofN
 rw[List.mem_filter,List.mem_range]
 refine⟨lt_of_get hy,?_⟩
 rw[List.getD,List.getElem?_map,hy]
 rfl
theorem atZ_vc {a:Int}{b:Nat}{K:AsgZ→Prop} (h:∀ x,x=⟨a,b⟩→K x):probecardlaw25_atZ_wp a b K:=h _ rfl
theorem learnsErrors_vc {x:CData} (hx:CB x) (d:Int) (n:Z2):probecardlaw25_LearnsErrors_wp x d n (· = true):=by
 unfold probecardlaw25_LearnsErrors_wp
 refine of_circ_vc hx ?_
 have G:=good_circ' x
 have f3:=circ_few3' x
 have hin:=circ_input x
 generalize circN x=c at G f3 hin ⊢
 have hlen:=G.len
 have hw:=want_or c
 refine plainW_vc G ?_
 refine joinP (fun _=>True) (fun k hk=>⟨fun _=>⟨fun _=>⟨fun _=>⟨fun _=>hk _ trivial,fun _=>⟨fun _=>hk _ trivial,fun _=>hk _ trivial⟩⟩,fun _=>hk _ trivial⟩,fun _=>hk _ trivial⟩,fun _=>hk _ trivial⟩) fun b _=>⟨fun _=>rfl,fun _=>?_⟩
 refine atZ_vc fun one hone=>atZ_vc fun two htwo=>?_
 have ht2:two.value≤1:=by
  rw[htwo]
  show ((n.a%(2 ^ 1:Nat)).toNat)%256≤1
  have:=Int.emod_lt_of_pos n.a (b:=(2 ^ 1:Nat)) (by decide)
  omega
 clear hone htwo
 refine joinP (fun b=>(b=true→¬ OkZ c one)∧(b=false→OkZ c one)) (fun k hk=>⟨fun q1=>hk _ ⟨fun _ O=>?_,(fun e=>by cases e)⟩,fun q1=>⟨fun q2=>hk _ ⟨fun _ O=>?_,(fun e=>by cases e)⟩,fun q2=>hk _ ⟨fun e O=>?_,fun e=>⟨?_,?_,?_⟩⟩⟩⟩) ?_
 ·have q1:=ltZ_t.1 q1;have:=O.1;simp only[Int.ofNat_eq_natCast] at q1;omega
 ·have q2:ltI one.net (Int.ofNat c.nodes.length)=false:=by simpa using q2
  have q2:=ltZ_f.1 q2;have:=O.2.1;omega
 ·have:=lt_t.1 e;have:=O.2.2;omega
 ·have q1:=ltZ_f.1 q1;simp only[Int.ofNat_eq_natCast] at q1;omega
 ·have q2:ltI one.net (Int.ofNat c.nodes.length)=true:=by simpa using q2
  exact ltZ_t.1 q2
 ·exact lt_f.1 e
 intro bad ⟨hb1,hb2⟩
 refine joinP (fun v=>v=firstE c one two) (fun k hk=>joinP (fun z=>(z=true→wantN c=0∧¬ (OkZ c two∧OkZ c one))∧(z=false→¬ (wantN c=0∧¬ (OkZ c two∧OkZ c one)))) (fun k2 hk2=>⟨fun q=>?_,fun q=>hk2 _ ⟨(fun e=>by cases e),fun _ h=>eq_f.1 q h.1⟩⟩) fun z hz=>⟨fun e=>hk _ (if_pos (hz.1 e)).symm,fun e=>hk _ (if_neg (hz.2 e)).symm⟩) ?_
 ·have q:=eq_t.1 q
  refine⟨fun e=>hk2 _ ⟨fun _=>⟨q,fun h=>hb1 e h.2⟩,(fun e=>by cases e)⟩,fun e=>⟨fun q1=>hk2 _ ⟨fun _=>⟨q,fun h=>?_⟩,(fun e=>by cases e)⟩,fun q1=>hk2 _ ⟨fun q2=>⟨q,fun h=>?_⟩,fun q2 h=>h.2 ⟨⟨?_,?_,ht2⟩,hb2 e⟩⟩⟩⟩
  ·have q1:=ltZ_t.1 q1;have:=h.1.1;simp only[Int.ofNat_eq_natCast] at q1;omega
  ·have q2:ltI two.net (Int.ofNat c.nodes.length)=false:=by simpa using q2
   have q2:=ltZ_f.1 q2;have:=h.1.2.1;omega
  ·have q1:=ltZ_f.1 q1;simp only[Int.ofNat_eq_natCast] at q1;omega
  ·have q2:ltI two.net (Int.ofNat c.nodes.length)=true:=by simpa using q2
   exact ltZ_t.1 q2
 rintro _ rfl
 refine joinP (fun v=>v=secondE c d one) (fun k hk=>⟨fun q=>hk _ ?_,fun q=>?_⟩) ?_
 ·unfold secondE;rw[if_neg (ne_t.1 q)]
 ·have q:=ne_f.1 q
  unfold secondE at hk
  rw[if_pos q] at hk
  refine⟨fun q1=>?_,fun q1=>⟨fun q2=>?_,fun q2=>⟨fun e=>?_,fun e=>?_⟩⟩⟩
  ·have q1:=ltZ_t.1 q1
   simp only[Int.ofNat_eq_natCast] at q1
   rw[if_pos (by omega)] at hk;exact hk _ rfl
  ·have q1:=ltZ_f.1 q1
   have q2:=ltZ_t.1 q2
   simp only[Int.ofNat_eq_natCast] at q1 q2
   rw[if_neg (by omega),if_pos (by omega)] at hk;exact hk _ rfl
  ·have q1:=ltZ_f.1 q1
   have q2:=ltZ_f.1 q2
   simp only[Int.ofNat_eq_natCast] at q1 q2
   rw[if_neg (by omega),if_neg (by omega),if_neg (hb1 e)] at hk;exact hk _ rfl
  ·have q1:=ltZ_f.1 q1
   have q2:=ltZ_f.1 q2
   simp only[Int.ofNat_eq_natCast] at q1 q2
   rw[if_neg (by omega),if_neg (by omega),if_pos (hb2 e)] at hk
   rw[q];exact hk _ rfl
 rintro _ rfl
 refine staticE_vc G f3 fun r hr hr0=>⟨rfl,rfl,closeE_vc G f3 fun s hs hs0=>satE_vc G f3 fun t ht ht0=>?_⟩
 refine joinB (a:=false) (fun F=>⟨fun _=>inputs_vc (by omega) ?_,fun _=>F⟩) ⟨(fun e=>by cases e),fun _=>⟨fun _=>⟨fun _=>⟨fun _=>?_,fun q=>absurd ht (eq_f.1 q)⟩,fun q=>absurd hs (eq_f.1 q)⟩,fun q=>absurd hr (eq_f.1 q)⟩⟩
 ·rw[eq_f.2 (show ¬ (ofN c [0]).length=0 by omega)];exact F
 have tt:((eqN t.2.2 0)=true→law25_lives_wp (fun r=>r=true))∧((eqN t.2.2 0)=false→((!t.2.1)=true→((eqN t.1.length 0)=true→law25_lives_wp (fun r=>r=true))∧((eqN t.1.length 0)=false→false=true))∧((!t.2.1)=false→false=true)):=by
  refine⟨fun _=>rfl,fun q=>?_⟩
  obtain⟨t1,t2⟩:=ht0 (fun h=>eq_f.1 q (ht.trans h))
  rw[t1,t2]
  exact⟨fun _=>⟨fun _=>rfl,(fun e=>by cases e)⟩,(fun e=>by cases e)⟩
 have ss:((eqN s.2.2 0)=true→((eqN t.2.2 0)=true→law25_lives_wp (fun r=>r=true))∧((eqN t.2.2 0)=false→((!t.2.1)=true→((eqN t.1.length 0)=true→law25_lives_wp (fun r=>r=true))∧((eqN t.1.length 0)=false→false=true))∧((!t.2.1)=false→false=true)))∧((eqN s.2.2 0)=false→((!s.2.1)=true→((eqN s.1.length 0)=true→((eqN t.2.2 0)=true→law25_lives_wp (fun r=>r=true))∧((eqN t.2.2 0)=false→((!t.2.1)=true→((eqN t.1.length 0)=true→law25_lives_wp (fun r=>r=true))∧((eqN t.1.length 0)=false→false=true))∧((!t.2.1)=false→false=true)))∧((eqN s.1.length 0)=false→false=true))∧((!s.2.1)=false→false=true)):=by
  refine⟨fun _=>tt,fun q=>?_⟩
  obtain⟨s1,s2⟩:=hs0 (fun h=>eq_f.1 q (hs.trans h))
  rw[s1,s2]
  exact⟨fun _=>⟨fun _=>tt,(fun e=>by cases e)⟩,(fun e=>by cases e)⟩
 refine⟨fun _=>ss,fun q=>?_⟩
 rw[hr0 (fun h=>eq_f.1 q (hr.trans h))]
 exact⟨fun _=>ss,(fun e=>by cases e)⟩
def shJ:Sh:=.int .i64
def shZ2:Sh:=.pair shJ (.pair shJ .unit)
def learnsErrors_sh:List (Sh×Bool):=[(shC,true),(shJ,false),(shZ2,true)]
theorem learnsErrors_call (x:DenL learnsErrors_sh) (w:wfL learnsErrors_sh x):FnV Tryz.prog NG vars 8 ⟨argL learnsErrors_sh x⟩ (.bool true):=by
 obtain⟨c,d,⟨a,b,u1⟩,u⟩:=x
 obtain⟨wc,_⟩:=w
 obtain⟨y,hy,e1⟩:=c_arg wc
 have e:argL learnsErrors_sh (c,d,(a,b,u1),u)=[encC y,z64 d,encZ2 ⟨a,b⟩]:=by
  show [elV (!true) (shC.cellsF c),elV (!false) (shJ.cellsF d),elV (!true) (shZ2.cellsF (a,b,u1))]=_
  rw[e1];rfl
 rw[e]
 exact FnV.of_walk (enc:=Value.bool) (r:=true) (PureV.flat rfl) fun h hB=>probecardlaw25_LearnsErrors_walk (learnsErrors_vc hy d ⟨a,b⟩) hB
end Go.Proofs.YtfhldkgelipnaaaGreatDoor
