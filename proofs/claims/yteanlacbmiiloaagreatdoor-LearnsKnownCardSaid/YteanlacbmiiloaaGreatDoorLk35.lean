/-
  Gate1, Gate2, Gate3, Gate4, Gate5, Gate6, Fl1, Circ1, Man1, Circ4, Man2: parts of the proof.
-/
import Derived.Test.YteanlacbmiiloaaGreatDoorLk34
namespace Go.Proofs.YteanlacbmiiloaaGreatDoor
open Go.Abs
set_option maxRecDepth 100000
theorem splice_set {cs:List Value}{off:Nat}{v:Value} (h:off<cs.length):splice cs off [v]=cs.set off v:=by
 unfold splice
 rw[List.set_eq_take_append_cons_drop,if_pos h]
 simp
theorem Upd.same {h:Heap}{g:Nat}{o:AObj} (e:h.get g=some o):Upd h g o h:=⟨e,fun _ _=>rfl,rfl⟩
def setB (x y:Int):Bool:=if x==2 then true else x==y
def setV (x y:Int):Int:=if x==2 then y else x
def hiddenL (k o:Int):Int:=if invertsL k then notL o else o
def putL (k v:Int):Int:=if invertsL k then notL v else v
section
variable {h:Heap} {gg gi:Nat} {k o:Int} {l:List Int}
theorem set_ok {g off:Nat}{cs:List Value}{x y:Int} (hg:h.get g=some (.cells cs false)) (hx:cs[off]?=some (u8 x)) :
   ∃ h',CallD Tryz.prog NG 75 #[.pointer (some ⟨g,off,none⟩),u8 y] h (.bool (setB x y)) h'∧Upd h g (.cells (cs.set off (u8 (setV x y))) false) h':=by
 have hlt:off<cs.length:=(List.getElem?_eq_some_iff.1 hx).1
 suffices q:∃ v h',CallD Tryz.prog NG 75 #[.pointer (some ⟨g,off,none⟩),u8 y] h v h'∧(v=.bool (setB x y)∧Upd h g (.cells (cs.set off (u8 (setV x y))) false) h') by
   obtain⟨v,h',q1,rfl,q2⟩:=q
   exact⟨h',q1,q2⟩
 unfold setB setV
 refine fnG hM Tryz.func75 rfl (hP _ _ rfl Tryz.func75) (lbE rfl) ?_;(conv=>whnf);repeat(first|apply Cs|apply Rs|apply Rx);conv=>whnf
 refine⟨_,loadK rfl hg rfl hx,?_⟩
 ((conv=>whnf);repeat(first|apply Cs|apply Rs|apply Rx);conv=>whnf)
 refine⟨_,rfl,fun hc=>?_,fun hc=>?_⟩
 · rw[hc]
   ((conv=>whnf);repeat(first|apply Cs|apply Rs|apply Rx);conv=>whnf)
   refine storeK rfl hg rfl rfl rfl (by show off+1≤cs.length;omega) rfl fun h1 u1=>?_
   ((conv=>whnf);repeat(first|apply Cs|apply Rs|apply Rx);conv=>whnf)
   have e1:(splice cs off [u8 y])[off]?=some (u8 y):=by rw[splice_set hlt,List.getElem?_set_self hlt]
   refine⟨_,loadK rfl u1.get rfl e1,?_⟩
   ((conv=>whnf);repeat(first|apply Cs|apply Rs|apply Rx);conv=>whnf)
   refine⟨?_,?_⟩
   · show Value.bool (y==y)=Value.bool true
     rw[beq_self_eq_true]
   · rw[← splice_set hlt]
     exact u1
 · rw[hc]
   ((conv=>whnf);repeat(first|apply Cs|apply Rs|apply Rx);conv=>whnf)
   refine⟨_,loadK rfl hg rfl hx,?_⟩
   ((conv=>whnf);repeat(first|apply Cs|apply Rs|apply Rx);conv=>whnf)
   refine⟨rfl,?_⟩
   have e1:cs.set off (u8 x)=cs:=by
     apply List.ext_getElem?
     intro i
     rw[List.getElem?_set]
     split
     ·rename_i q;subst q;first|rw[hx] | rw[if_pos hlt,hx]
     ·rfl
   show Upd h g (.cells (cs.set off (u8 x)) false) h
   rw[e1]
   exact Upd.same hg
theorem flatC_vals:∀ l:List Int,flatC (vals l)=vals l
 |[]=>rfl
 |x::l=>by
  have:=flatC_vals l
  unfold flatC vals at this ⊢
  simp only[List.map_cons,List.flatMap_cons,this]
  rfl
structure GateAt (h:Heap) (gg gi:Nat) (k o:Int) (l:List Int):Prop where
 g:h.get gg=some (.cells [u8 k,u8 o,.slice (some ⟨gi,0,none⟩) l.length l.length] false)
 i:h.get gi=some (.cells (vals l) false)
 ne:gg≠gi
structure GStep (h h':Heap) (gg gi:Nat):Prop where
 size:h.size≤h'.size
 other:∀ g,g<h.size→g≠gg→g≠gi→h'.get g=h.get g
theorem GStep.refl (h:Heap) (gg gi:Nat):GStep h h gg gi:=⟨Nat.le_refl _,fun _ _ _ _=>rfl⟩
theorem GStep.trans {h1 h2:Heap} (a:GStep h h1 gg gi) (b:GStep h1 h2 gg gi):GStep h h2 gg gi :=
 ⟨Nat.le_trans a.size b.size,fun g h1 h2 h3=>by rw[b.other g (Nat.lt_of_lt_of_le h1 a.size) h2 h3,a.other g h1 h2 h3]⟩
theorem GStep.of_ext {h1:Heap} (e:Ext h h1):GStep h h1 gg gi:=⟨e.1,fun g hg _ _=>e.2 g hg⟩
theorem GStep.get {h1:Heap} (s:GStep h h1 gg gi) {g:Nat}{ob:AObj} (hg:h.get g=some ob) (h2:g≠gg) (h3:g≠gi):h1.get g=some ob:=by
 rw[s.other g (Heap.lt_of_get hg) h2 h3,hg]
theorem GateAt.ext {h1:Heap} (G:GateAt h gg gi k o l) (e:Ext h h1):GateAt h1 gg gi k o l:=⟨e.get G.g,e.get G.i,G.ne⟩
theorem GateAt.keep {h1:Heap} (G:GateAt h gg gi k o l) {g:Nat}{ob:AObj} (u:Upd h g ob h1) (h2:gg≠g) (h3:gi≠g):GateAt h1 gg gi k o l:=⟨u.keep h2 G.g,u.keep h3 G.i,G.ne⟩
theorem GateAt.out {h1:Heap}{o1:Int} (G:GateAt h gg gi k o l) (u:Upd h gg (.cells [u8 k,u8 o1,.slice (some ⟨gi,0,none⟩) l.length l.length] false) h1):GateAt h1 gg gi k o1 l∧GStep h h1 gg gi :=
 ⟨⟨u.get,u.keep (Ne.symm G.ne) G.i,G.ne⟩,⟨Nat.le_of_eq u.size.symm,fun g _ h2 _=>u.other g h2⟩⟩
theorem GateAt.inp {h1:Heap}{l1:List Int} (G:GateAt h gg gi k o l) (hl:l1.length=l.length) (u:Upd h gi (.cells (vals l1) false) h1):GateAt h1 gg gi k o l1∧GStep h h1 gg gi :=
 ⟨⟨by rw[hl];exact u.keep G.ne G.g,u.get,G.ne⟩,⟨Nat.le_of_eq u.size.symm,fun g _ _ h3=>u.other g h3⟩⟩
theorem GateAt.sl (G:GateAt h gg gi k o l):Sl h 1 (.slice (some ⟨gi,0,none⟩) l.length l.length) (vals l):=by
 have:(vals l).length=l.length:=by simp[vals]
 refine Sl.of_flat G.i (by intro e he;simp only[vals,List.mem_map] at he;obtain⟨x,_,rfl⟩:=he;rfl) this.symm (by omega) (r:=[]) ?_
 rw[List.append_nil,flatC_vals]
theorem hidden_ok (hk:0≤k) (ho:0≤o) (G:GateAt h gg gi k o l) :
  CallD Tryz.prog NG 124 #[.pointer (some ⟨gg,0,none⟩)] h (u8 (hiddenL k o)) h:=by
 unfold hiddenL
 refine fnP hM Tryz.func124 rfl (hP _ _ rfl Tryz.func124) (lbE rfl) (by kernel_rfl) ?_;(conv=>whnf);repeat(first|apply Cs|apply Rs|apply Rx);conv=>whnf
 refine⟨_,loadK rfl G.g rfl rfl,?_⟩;(conv=>whnf);repeat(first|apply Cs|apply Rs|apply Rx);conv=>whnf
 refine⟨_,_,inverts_ok hk,?_⟩;(conv=>whnf);repeat(first|apply Cs|apply Rs|apply Rx);conv=>whnf
 refine⟨_,rfl,fun hc=>?_,fun hc=>?_⟩
 ·rw[hc]
  ((conv=>whnf);repeat(first|apply Cs|apply Rs|apply Rx);conv=>whnf)
  refine⟨_,loadK rfl G.g rfl rfl,?_⟩;(conv=>whnf);repeat(first|apply Cs|apply Rs|apply Rx);conv=>whnf
  refine⟨_,_,not_ok ho,?_⟩;(conv=>whnf);repeat(first|apply Cs|apply Rs|apply Rx);conv=>whnf
  exact⟨rfl,Ext.refl _⟩
 ·rw[hc]
  ((conv=>whnf);repeat(first|apply Cs|apply Rs|apply Rx);conv=>whnf)
  refine⟨_,loadK rfl G.g rfl rfl,?_⟩;(conv=>whnf);repeat(first|apply Cs|apply Rs|apply Rx);conv=>whnf
  exact⟨rfl,Ext.refl _⟩
theorem put_ok {v:Int} (hk:0≤k) (hv:0≤v) (G:GateAt h gg gi k o l) :
  ∃ h',CallD Tryz.prog NG 126 #[.pointer (some ⟨gg,0,none⟩),u8 v] h (.bool (setB o (putL k v))) h'∧GateAt h' gg gi k (setV o (putL k v)) l∧GStep h h' gg gi:=by
 suffices q:∃ r h',CallD Tryz.prog NG 126 #[.pointer (some ⟨gg,0,none⟩),u8 v] h r h'∧(r=.bool (setB o (putL k v))∧GateAt h' gg gi k (setV o (putL k v)) l∧GStep h h' gg gi) by
  obtain⟨r,h',q1,rfl,q2⟩:=q
  exact⟨h',q1,q2⟩
 unfold putL
 refine fnG hM Tryz.func126 rfl (hP _ _ rfl Tryz.func126) (lbE rfl) ?_;(conv=>whnf);repeat(first|apply Cs|apply Rs|apply Rx);conv=>whnf
 refine⟨_,loadK rfl G.g rfl rfl,?_⟩;(conv=>whnf);repeat(first|apply Cs|apply Rs|apply Rx);conv=>whnf
 refine⟨_,_,inverts_ok hk,?_⟩;(conv=>whnf);repeat(first|apply Cs|apply Rs|apply Rx);conv=>whnf
 refine⟨_,rfl,fun hc=>?_,fun hc=>?_⟩
 ·rw[hc]
  ((conv=>whnf);repeat(first|apply Cs|apply Rs|apply Rx);conv=>whnf)
  refine⟨_,_,not_ok hv,?_⟩;(conv=>whnf);repeat(first|apply Cs|apply Rs|apply Rx);conv=>whnf
  obtain⟨h1,c1,u1⟩:=set_ok (off:=1) (y:=notL v) G.g rfl
  refine⟨_,h1,c1,?_⟩
  ((conv=>whnf);repeat(first|apply Cs|apply Rs|apply Rx);conv=>whnf)
  exact⟨rfl,(G.out u1).1,(G.out u1).2⟩
 ·rw[hc]
  ((conv=>whnf);repeat(first|apply Cs|apply Rs|apply Rx);conv=>whnf)
  obtain⟨h1,c1,u1⟩:=set_ok (off:=1) (y:=v) G.g rfl
  refine⟨_,h1,c1,?_⟩
  ((conv=>whnf);repeat(first|apply Cs|apply Rs|apply Rx);conv=>whnf)
  exact⟨rfl,(G.out u1).1,(G.out u1).2⟩
end
def setGo (y:Int):List Int→List Int→Bool×List Int
 |d,[]=>(true,d)
 |d,x::r=>if setB x y=true then setGo y (d++[setV x y]) r else (false,d++setV x y::r)
def countU:List Int→Nat
 |[]=>0
 |x::r=>(if x==2 then 1 else 0)+countU r
def controlledL (k o:Int) (l:List Int):Bool×Int×List Int :=
 let c:=controlL k
 let y:=notL c
 if (hiddenL k o==y)=true then ((setGo y [] l).1,o,(setGo y [] l).2)
 else if (l.any fun y=>c==y)=true then (setB o (putL k c),setV o (putL k c),l)
 else if countU l=0 then (setB o (putL k y),setV o (putL k y),l)
 else if countU l=1∧(hiddenL k o==c)=true then
  match l.findIdx? fun y=>2==y with
  |some i=>(true,o,l.set i c)
  |none=>(true,o,l)
 else (true,o,l)
theorem vals_at (d r:List Int) (x:Int):(vals (d++x::r))[0+d.length*1]?=some (u8 x):=by
 unfold vals
 rw[Nat.zero_add,Nat.mul_one,List.getElem?_map,List.getElem?_append_right (Nat.le_refl _),Nat.sub_self]
 rfl
theorem vals_set (d r:List Int) (x y:Int):(vals (d++x::r)).set (0+d.length*1) (u8 y)=vals (d++y::r):=by
 unfold vals
 rw[Nat.zero_add,Nat.mul_one,← List.map_set,List.set_append_right _ _ (Nat.le_refl _),Nat.sub_self]
 rfl
theorem countU_le:∀ l:List Int,countU l≤l.length
 |[]=>Nat.le_refl _
 |x::r=>by have:=countU_le r;simp only[countU,List.length_cons];split <;> omega
theorem countU_snoc (x:Int):∀ d:List Int,countU (d++[x])=countU d+(if x==2 then 1 else 0)
 |[]=>by simp[countU]
 |z::r=>by rw[List.cons_append,countU,countU,countU_snoc x r];omega
theorem find_count:∀ l:List Int,countU l≠0→∃ i,(l.findIdx? fun y=>2==y)=some i∧l[i]?=some 2
 |[],h=>absurd rfl h
 |x::r,h=>by
  by_cases q:x=2
  ·subst q
   exact⟨0,by simp[List.findIdx?_cons],rfl⟩
  ·have q1:(x==2)=false:=by simpa using q
   have q2:(2==x)=false:=by simp;omega
   simp only[countU,q1] at h
   obtain⟨i,e1,e2⟩:=find_count r (by simpa using h)
   exact⟨i+1,by rw[List.findIdx?_cons,q2,e1];rfl,by simpa using e2⟩
theorem controlL_nonneg {k:Int}:0≤controlL k:=by unfold controlL;repeat(first | (split) | omega)
section
variable {h:Heap} {gg gi:Nat} {k o:Int} {l:List Int}
theorem controlled_ok (hk:0≤k) (ho:0≤o) (hl:∀ x∈l,0≤x) (hn:l.length<2 ^ 62) (G:GateAt h gg gi k o l) :
   ∃ h',CallD Tryz.prog NG 98 #[.pointer (some ⟨gg,0,none⟩)] h (.bool (controlledL k o l).1) h'∧GateAt h' gg gi k (controlledL k o l).2.1 (controlledL k o l).2.2∧GStep h h' gg gi:=by
 suffices q:∃ r h',CallD Tryz.prog NG 98 #[.pointer (some ⟨gg,0,none⟩)] h r h'∧(r=.bool (controlledL k o l).1∧GateAt h' gg gi k (controlledL k o l).2.1 (controlledL k o l).2.2∧GStep h h' gg gi) by
   obtain⟨r,h',q1,rfl,q2⟩:=q
   exact⟨h',q1,q2⟩
 generalize hR:controlledL k o l=R
 unfold controlledL at hR
 simp only at hR
 have hc0:0≤controlL k:=controlL_nonneg
 have hy0:0≤notL (controlL k):=notL_nonneg
 refine fnG hM Tryz.func98 rfl (hP _ _ rfl Tryz.func98) (lbE rfl) ?_;(conv=>whnf);repeat(first|apply Cs|apply Rs|apply Rx);conv=>whnf
 refine⟨_,loadK rfl G.g rfl rfl,?_⟩;(conv=>whnf);repeat(first|apply Cs|apply Rs|apply Rx);conv=>whnf
 refine⟨_,_,control_ok hk,?_⟩;(conv=>whnf);repeat(first|apply Cs|apply Rs|apply Rx);conv=>whnf
 refine⟨_,_,not_ok hc0,?_⟩;(conv=>whnf);repeat(first|apply Cs|apply Rs|apply Rx);conv=>whnf
 refine⟨_,_,hidden_ok hk ho G,?_⟩;(conv=>whnf);repeat(first|apply Cs|apply Rs|apply Rx);conv=>whnf
 generalize hy:notL (controlL k)=y at hR hy0
 refine⟨_,rfl,fun hc=>?_,fun hc=>?_⟩
 · rw[if_pos hc] at hR
   ((conv=>whnf);repeat(first|apply Cs|apply Rs|apply Rx);conv=>whnf)
   refine⟨_,loadK rfl G.g rfl rfl,?_⟩;(conv=>whnf);repeat(first|apply Cs|apply Rs|apply Rx);conv=>whnf
   refine loopG (σ:=List Int×List Int) (nn:=92) hM (by kernel_rfl)
     (fun (d,r) h2=>GateAt h2 gg gi k o (d++r)∧GStep h h2 gg gi∧(d++r).length=l.length∧setGo y d r=setGo y [] l)
     (fun (d,_)=>[(0,.pointer (some ⟨gg,0,none⟩)),(5,u8 y),(28,.int .i64 (Int.ofNat l.length)),(29,.int .i64 (Int.ofNat d.length))]) (fun (_,r)=>r.length) rfl
     ⟨([],l),⟨G,GStep.refl _ _ _,rfl,rfl⟩,rfl,rfl,rfl,rfl,trivial⟩ ?_
   rintro⟨d,r⟩ base h2 ⟨G2,S2,L2,I2⟩
   ((conv=>whnf);repeat(first|apply Cs|apply Rs|apply Rx);conv=>whnf)
   refine⟨_,rfl,fun hc=>?_,fun hc=>?_⟩
   · replace hc:=lt_of_ltI hc
     cases r with
     | nil=>simp at L2;omega
     | cons x r =>
       ((conv=>whnf);repeat(first|apply Cs|apply Rs|apply Rx);conv=>whnf)
       refine⟨_,loadK rfl G2.g rfl rfl,?_⟩;(conv=>whnf);repeat(first|apply Cs|apply Rs|apply Rx);conv=>whnf
       refine indexK rfl rfl rfl rfl (by rw[L2];exact hc) ?_
       ((conv=>whnf);repeat(first|apply Cs|apply Rs|apply Rx);conv=>whnf)
       obtain⟨h3,c3,u3⟩:=set_ok (y:=y) G2.i (vals_at d r x)
       rw[vals_set] at u3
       obtain⟨G3,S3⟩:=G2.inp (l1:=d++setV x y::r) (by simp) u3
       refine⟨_,h3,c3,?_⟩
       ((conv=>whnf);repeat(first|apply Cs|apply Rs|apply Rx);conv=>whnf)
       rw[setGo] at I2
       cases hb:setB x y with
       | false =>
         rw[hb,if_neg (by simp)] at I2
         ((conv=>whnf);repeat(first|apply Cs|apply Rs|apply Rx);conv=>whnf)
         refine⟨true,rfl,fun _=>?_,(fun hc=>nomatch hc)⟩;(conv=>whnf);repeat(first|apply Cs|apply Rs|apply Rx);conv=>whnf
         subst hR
         rw[← I2]
         exact⟨rfl,G3,S2.trans S3⟩
       | true =>
         rw[hb,if_pos rfl] at I2
         ((conv=>whnf);repeat(first|apply Cs|apply Rs|apply Rx);conv=>whnf)
         refine⟨false,rfl,(fun hc=>nomatch hc),fun _=>?_⟩;(conv=>whnf);repeat(first|apply Cs|apply Rs|apply Rx);conv=>whnf
         refine⟨_,addK (b:=1) rfl rfl (by omega),?_⟩;(conv=>whnf);repeat(first|apply Cs|apply Rs|apply Rx);conv=>whnf
         exact⟨(d++[setV x y],r),by simp,⟨by rw[List.append_assoc];exact G3,S2.trans S3,by simpa using L2,I2⟩,rfl,rfl,rfl,by simp;rfl,trivial⟩
   · replace hc:=ge_of_ltI hc
     cases r with
     | cons x r=>simp at L2;omega
     | nil =>
       ((conv=>whnf);repeat(first|apply Cs|apply Rs|apply Rx);conv=>whnf)
       rw[setGo] at I2
       subst hR
       rw[← I2]
       rw[List.append_nil] at G2
       exact⟨rfl,G2,S2⟩
 rw[if_neg (by rw[hc];simp)] at hR
 ((conv=>whnf);repeat(first|apply Cs|apply Rs|apply Rx);conv=>whnf)
 refine⟨_,loadK rfl G.g rfl rfl,?_⟩;(conv=>whnf);repeat(first|apply Cs|apply Rs|apply Rx);conv=>whnf
 refine⟨_,_,contains_ok G.sl hn (controlL k),?_⟩;(conv=>whnf);repeat(first|apply Cs|apply Rs|apply Rx);conv=>whnf
 refine⟨_,rfl,fun hc=>?_,fun hc=>?_⟩
 · rw[if_pos hc] at hR
   ((conv=>whnf);repeat(first|apply Cs|apply Rs|apply Rx);conv=>whnf)
   obtain⟨h3,c3,G3,S3⟩:=put_ok hk hc0 G
   refine⟨_,h3,c3,?_⟩
   ((conv=>whnf);repeat(first|apply Cs|apply Rs|apply Rx);conv=>whnf)
   subst hR
   exact⟨rfl,G3,S3⟩
 rw[if_neg (by rw[hc];simp)] at hR
 ((conv=>whnf);repeat(first|apply Cs|apply Rs|apply Rx);conv=>whnf)
 refine⟨_,loadK rfl G.g rfl rfl,?_⟩;(conv=>whnf);repeat(first|apply Cs|apply Rs|apply Rx);conv=>whnf
 refine loopG (σ:=List Int×List Int) (nn:=92) hM (by kernel_rfl)
   (fun (d,r) h2=>h2=h∧d++r=l∧countU d+countU r=countU l)
   (fun (d,_)=>[(0,.pointer (some ⟨gg,0,none⟩)),(3,u8 (controlL k)),(5,u8 y),(7,.int .i64 (Int.ofNat (countU d))),(54,.slice (some ⟨gi,0,none⟩) l.length l.length),(55,.int .i64 (Int.ofNat l.length)),(56,.int .i64 (Int.ofNat d.length))]) (fun (_,r)=>r.length) rfl
   ⟨([],l),⟨rfl,rfl,by simp[countU]⟩,rfl,rfl,rfl,rfl,rfl,rfl,rfl,trivial⟩ ?_
 rintro⟨d,r⟩ base h2 ⟨rfl,L2,I2⟩
 ((conv=>whnf);repeat(first|apply Cs|apply Rs|apply Rx);conv=>whnf)
 refine⟨_,rfl,fun hc=>?_,fun hc=>?_⟩
 · replace hc:=lt_of_ltI hc
   cases r with
   | nil=>simp at L2;subst L2;omega
   | cons x r =>
     have Gi:h2.get gi=some (.cells (vals (d++x::r)) false):=by rw[L2];exact G.i
     ((conv=>whnf);repeat(first|apply Cs|apply Rs|apply Rx);conv=>whnf)
     refine indexK rfl rfl rfl rfl hc ?_
     ((conv=>whnf);repeat(first|apply Cs|apply Rs|apply Rx);conv=>whnf)
     refine⟨_,loadK rfl Gi rfl (vals_at d r x),?_⟩
     ((conv=>whnf);repeat(first|apply Cs|apply Rs|apply Rx);conv=>whnf)
     have hd:countU d≤d.length:=countU_le d
     have hll:d.length+1≤l.length:=hc
     have hsn:=countU_snoc x d
     rw[countU] at I2
     refine⟨_,rfl,fun hc=>?_,fun hc=>?_⟩
     · rw[hc,if_pos rfl] at hsn
       rw[hc,if_pos rfl] at I2
       ((conv=>whnf);repeat(first|apply Cs|apply Rs|apply Rx);conv=>whnf)
       refine⟨_,addK (b:=1) rfl rfl (by omega),?_⟩;(conv=>whnf);repeat(first|apply Cs|apply Rs|apply Rx);conv=>whnf
       refine⟨_,addK (b:=1) rfl rfl (by omega),?_⟩;(conv=>whnf);repeat(first|apply Cs|apply Rs|apply Rx);conv=>whnf
       exact⟨(d++[x],r),by simp,⟨rfl,by simpa using L2,by rw[hsn];omega⟩,rfl,rfl,rfl,by rw[hsn];rfl,rfl,rfl,by simp;rfl,trivial⟩
     · rw[hc,if_neg (by simp)] at hsn
       rw[hc,if_neg (by simp)] at I2
       ((conv=>whnf);repeat(first|apply Cs|apply Rs|apply Rx);conv=>whnf)
       refine⟨_,addK (b:=1) rfl rfl (by omega),?_⟩;(conv=>whnf);repeat(first|apply Cs|apply Rs|apply Rx);conv=>whnf
       exact⟨(d++[x],r),by simp,⟨rfl,by simpa using L2,by rw[hsn];omega⟩,rfl,rfl,rfl,by rw[hsn];rfl,rfl,rfl,by simp;rfl,trivial⟩
 · replace hc:=ge_of_ltI hc
   cases r with
   | cons x r=>have:=congrArg List.length L2;simp at this;omega
   | nil =>
     have I3:countU d=countU l:=by rw[← I2];rfl
     rw[I3]
     ((conv=>whnf);repeat(first|apply Cs|apply Rs|apply Rx);conv=>whnf)
     refine⟨_,rfl,fun hc=>?_,fun hc=>?_⟩
     · rw[if_pos (by simpa using hc)] at hR
       ((conv=>whnf);repeat(first|apply Cs|apply Rs|apply Rx);conv=>whnf)
       obtain⟨h3,c3,G3,S3⟩:=put_ok hk hy0 G
       refine⟨_,h3,c3,?_⟩
       ((conv=>whnf);repeat(first|apply Cs|apply Rs|apply Rx);conv=>whnf)
       subst hR
       exact⟨rfl,G3,S3⟩
     rw[if_neg (by simpa using hc)] at hR
     ((conv=>whnf);repeat(first|apply Cs|apply Rs|apply Rx);conv=>whnf)
     refine⟨_,rfl,fun hc=>?_,fun hc=>?_⟩
     · have h1:countU l=1:=by have:=eq_of_beq hc;simp only[Int.ofNat_eq_natCast] at this;omega
       rw[hc]
       ((conv=>whnf);repeat(first|apply Cs|apply Rs|apply Rx);conv=>whnf)
       refine⟨_,_,hidden_ok hk ho G,?_⟩;(conv=>whnf);repeat(first|apply Cs|apply Rs|apply Rx);conv=>whnf
       refine⟨_,rfl,fun hc=>?_,fun hc=>?_⟩
       · rw[if_pos ⟨h1,hc⟩] at hR
         obtain⟨i,e1,e2⟩:=find_count l (by omega)
         rw[e1] at hR
         have hi:i<l.length:=(List.getElem?_eq_some_iff.1 e2).1
         have hv:(vals l)[0+i*1]?=some (u8 2):=by
           unfold vals
           rw[Nat.zero_add,Nat.mul_one,List.getElem?_map,e2];rfl
         ((conv=>whnf);repeat(first|apply Cs|apply Rs|apply Rx);conv=>whnf)
         refine⟨_,loadK rfl G.g rfl rfl,?_⟩;(conv=>whnf);repeat(first|apply Cs|apply Rs|apply Rx);conv=>whnf
         refine⟨.inr (.inr (loadK rfl G.g rfl rfl)),?_⟩
         ((conv=>whnf);repeat(first|apply Cs|apply Rs|apply Rx);conv=>whnf)
         refine⟨_,loadK rfl G.g rfl rfl,?_⟩;(conv=>whnf);repeat(first|apply Cs|apply Rs|apply Rx);conv=>whnf
         refine⟨.inr (.inr (loadK rfl G.g rfl rfl)),?_⟩
         ((conv=>whnf);repeat(first|apply Cs|apply Rs|apply Rx);conv=>whnf)
         refine⟨_,_,index_ok G.sl hn 2,?_⟩;(conv=>whnf);repeat(first|apply Cs|apply Rs|apply Rx);conv=>whnf
         refine⟨.inl (Ext.refl _),?_⟩;(conv=>whnf);repeat(first|apply Cs|apply Rs|apply Rx);conv=>whnf
         rw[e1]
         ((conv=>whnf);repeat(first|apply Cs|apply Rs|apply Rx);conv=>whnf)
         refine indexK rfl rfl rfl rfl hi ?_
         ((conv=>whnf);repeat(first|apply Cs|apply Rs|apply Rx);conv=>whnf)
         obtain⟨h3,c3,u3⟩:=set_ok (y:=controlL k) G.i hv
         have hs:(vals l).set (0+i*1) (u8 (controlL k))=vals (l.set i (controlL k)):=by
           unfold vals
           rw[Nat.zero_add,Nat.mul_one,List.map_set]
         have u4:Upd h2 gi (.cells (vals (l.set i (controlL k))) false) h3:=by rw[← hs];exact u3
         obtain⟨G3,S3⟩:=G.inp (l1:=l.set i (controlL k)) (by simp) u4
         refine⟨_,h3,c3,?_⟩
         ((conv=>whnf);repeat(first|apply Cs|apply Rs|apply Rx);conv=>whnf)
         refine⟨.inr (by kernel_rfl),?_⟩
         ((conv=>whnf);repeat(first|apply Cs|apply Rs|apply Rx);conv=>whnf)
         subst hR
         exact⟨rfl,G3,S3⟩
       · rw[if_neg (by rw[hc];simp)] at hR
         ((conv=>whnf);repeat(first|apply Cs|apply Rs|apply Rx);conv=>whnf)
         subst hR
         exact⟨rfl,G,GStep.refl _ _ _⟩
     · have h1:countU l≠1:=by have:=(beq_eq_false_iff_ne.1 hc);simp only[Int.ofNat_eq_natCast] at this;omega
       rw[if_neg (fun q=>h1 q.1)] at hR
       rw[hc]
       ((conv=>whnf);repeat(first|apply Cs|apply Rs|apply Rx);conv=>whnf)
       refine⟨false,rfl,(fun hc=>nomatch hc),fun _=>?_⟩;(conv=>whnf);repeat(first|apply Cs|apply Rs|apply Rx);conv=>whnf
       subst hR
       exact⟨rfl,G,GStep.refl _ _ _⟩
end
def parGo:Nat→Int→Nat→Option Nat→List Int→Int×Nat×Option Nat
 |_,v,n,w,[]=>(v,n,w)
 |i,v,n,w,x::r=>if (x==2)=true then parGo (i+1) v (n+1) (some i) r else parGo (i+1) (xorL [v,x]) n w r
def parOf (k o:Int) (l:List Int):Int×Nat×Option Nat :=
 if (hiddenL k o==2)=true then parGo 0 0 1 none l else parGo 0 (hiddenL k o) 0 none l
def parityL (k o:Int) (l:List Int):Bool×Int×List Int :=
 let (v,n,w):=parOf k o l
 if n=0 then (v==0,o,l)
 else if 1<n then (true,o,l)
 else match w with
  |none=>(setB o (putL k v),setV o (putL k v),l)
  |some i=>(setB (l.getD i 0) v,o,l.set i (setV (l.getD i 0) v))
def whereV (gg gi:Nat):Option Nat→Value
 |none=>.pointer (some ⟨gg,1,none⟩)
 |some i=>.pointer (some ⟨gi,0+i*1,none⟩)
theorem zeroVal:zeroOf Tryz.prog 46=some (u8 0):=by kernel_rfl
theorem plainsVal:(u8 0).cells.all plain0=true:=by kernel_rfl
theorem two_mem {a b:Int}:∀ v∈[u8 a,u8 b],(cl v).length=1:=by
 intro v hv
 simp only[List.mem_cons,List.not_mem_nil,or_false] at hv
 rcases hv with rfl|rfl <;> rfl
theorem ptrEqK {P:Program}{ρ:Operand→Value}{h:Heap}{d:Option Tmp}{ty:TypeId}{pos:String}{af:Array Edge}{gd:Option (Nat×Bool)}{t e yt:TypeId}{x y:Operand}{g off g' off' s:Nat}{b:Bool}
  (hu:P.underlying t=some (.pointer e)) (hs:szOf P e=some (s+1)) (hx:ρ x=.pointer (some ⟨g,off,none⟩)) (hy:ρ y=.pointer (some ⟨g',off',none⟩)) (hb:ptrSame h g off g' off'=some b) :
  aptrEq P ρ { dst:=d,op:=.binOp .eql t x y yt,type:=ty,pos:=pos,after:=af,guard:=gd } h=some (.bool b):=by
 unfold aptrEq
 simp only[hu,hx,hy,hs,hb]
theorem ptrSame_self {h:Heap}{g off:Nat}:ptrSame h g off g off=some true:=by simp[ptrSame]
theorem ptrSame_apart {h:Heap}{g g' off off':Nat}{cs cs':List Value} (hne:g≠g') (h1:h.get g=some (.cells cs false)) (h2:h.get g'=some (.cells cs' false)):ptrSame h g off g' off'=some false:=by
 simp[ptrSame,hne,h1,h2]
section
variable {h:Heap} {gg gi:Nat} {k o:Int} {l:List Int}
theorem parity_ok (hk:0≤k) (ho:0≤o) (hl:∀ x∈l,0≤x) (hn:l.length<2 ^ 62) (G:GateAt h gg gi k o l) :
   ∃ h',CallD Tryz.prog NG 99 #[.pointer (some ⟨gg,0,none⟩)] h (.bool (parityL k o l).1) h'∧GateAt h' gg gi k (parityL k o l).2.1 (parityL k o l).2.2∧GStep h h' gg gi:=by
 suffices q:∃ r h',CallD Tryz.prog NG 99 #[.pointer (some ⟨gg,0,none⟩)] h r h'∧(r=.bool (parityL k o l).1∧GateAt h' gg gi k (parityL k o l).2.1 (parityL k o l).2.2∧GStep h h' gg gi) by
   obtain⟨r,h',q1,rfl,q2⟩:=q
   exact⟨h',q1,q2⟩
 generalize hR:parityL k o l=R
 have hh0:0≤hiddenL k o:=by
   unfold hiddenL
   split
   · exact notL_nonneg
   · exact ho
 refine fnG hM Tryz.func99 rfl (hP _ _ rfl Tryz.func99) (lbE rfl) ?_;(conv=>whnf);repeat(first|apply Cs|apply Rs|apply Rx);conv=>whnf
 refine⟨_,_,hidden_ok hk ho G,?_⟩;(conv=>whnf);repeat(first|apply Cs|apply Rs|apply Rx);conv=>whnf
 refine⟨.inl (Ext.refl _),?_⟩;(conv=>whnf);repeat(first|apply Rs|apply Rx);conv=>whnf
 refine CodeS.join (nn:=60) (fun h'=>h'=h)
   [(0,.pointer (some ⟨gg,0,none⟩)),(3,u8 (if (hiddenL k o==2)=true then 0 else hiddenL k o)),(4,.int .i64 (Int.ofNat (if (hiddenL k o==2)=true then 1 else 0))),(5,.pointer (some ⟨gg,1,none⟩))] rfl ?_ ?_
 · ((conv=>whnf);repeat(first|apply Cs|apply Rs|apply Rx);conv=>whnf)
   refine⟨_,rfl,fun hc=>?_,fun hc=>?_⟩
   · ((conv=>whnf);repeat(first|apply Cs|apply Rs|apply Rx);conv=>whnf)
     exact⟨rfl,rfl,by rw[if_pos hc];rfl,by rw[if_pos hc];rfl,rfl,trivial⟩
   · have hc':¬ (hiddenL k o==2)=true:=by rw[hc];simp
     ((conv=>whnf);repeat(first|apply Cs|apply Rs|apply Rx);conv=>whnf)
     exact⟨rfl,rfl,by rw[if_neg hc'];rfl,by rw[if_neg hc'];rfl,rfl,trivial⟩
 have hP:∃ v0 n0,(if (hiddenL k o==2)=true then 0 else hiddenL k o)=v0∧(if (hiddenL k o==2)=true then 1 else 0)=n0∧parOf k o l=parGo 0 v0 n0 none l∧0≤v0∧n0≤1:=by
   refine⟨_,_,rfl,rfl,?_,?_,?_⟩
   · unfold parOf;split <;> rfl
   · split <;> omega
   · split <;> omega
 obtain⟨v0,n0,e1,e2,hP,hv0,hn0⟩:=hP
 rw[e1,e2]
 clear e1 e2
 unfold parityL at hR
 rw[hP] at hR
 clear hP
 rintro base h1 rfl
 ((conv=>whnf);repeat(first|apply Cs|apply Rs|apply Rx);conv=>whnf)
 refine⟨_,loadK rfl G.g rfl rfl,?_⟩;(conv=>whnf);repeat(first|apply Cs|apply Rs|apply Rx);conv=>whnf
 refine loopG (σ:=List Int×List Int×Int×Nat×Option Nat) (nn:=60) hM (by kernel_rfl)
   (fun (d,r,v,n,w) h2=>Ext h1 h2∧d++r=l∧parGo d.length v n w r=parGo 0 v0 n0 none l∧0≤v∧n≤d.length+1∧∀ i,w=some i→i<l.length)
   (fun (d,_,v,n,w)=>[(0,.pointer (some ⟨gg,0,none⟩)),(3,u8 v),(4,.int .i64 (Int.ofNat n)),(5,whereV gg gi w),(18,.slice (some ⟨gi,0,none⟩) l.length l.length),(19,.int .i64 (Int.ofNat l.length)),(20,.int .i64 (Int.ofNat d.length))]) (fun (_,r,_)=>r.length) rfl
   ⟨([],l,v0,n0,none),⟨Ext.refl _,rfl,rfl,hv0,by simpa using hn0,by simp⟩,rfl,rfl,rfl,rfl,rfl,rfl,rfl,trivial⟩ ?_
 rintro⟨d,r,v,n,w⟩ base h2 ⟨E,L2,I2,hv,hnd,hw⟩
 have G2:=G.ext E
 ((conv=>whnf);repeat(first|apply Cs|apply Rs|apply Rx);conv=>whnf)
 refine⟨_,rfl,fun hc=>?_,fun hc=>?_⟩
 · replace hc:=lt_of_ltI hc
   cases r with
   | nil=>simp at L2;subst L2;omega
   | cons x r =>
     have hll:d.length+1≤l.length:=hc
     have Gi:h2.get gi=some (.cells (vals (d++x::r)) false):=by rw[L2];exact G2.i
     have hx0:0≤x:=hl x (by rw[← L2];simp)
     ((conv=>whnf);repeat(first|apply Cs|apply Rs|apply Rx);conv=>whnf)
     refine indexK rfl rfl rfl rfl hc ?_
     ((conv=>whnf);repeat(first|apply Cs|apply Rs|apply Rx);conv=>whnf)
     refine⟨_,loadK rfl Gi rfl (vals_at d r x),?_⟩
     ((conv=>whnf);repeat(first|apply Cs|apply Rs|apply Rx);conv=>whnf)
     rw[parGo] at I2
     refine⟨_,rfl,fun hc=>?_,fun hc=>?_⟩
     · rw[if_pos hc] at I2
       ((conv=>whnf);repeat(first|apply Cs|apply Rs|apply Rx);conv=>whnf)
       refine⟨_,addK (b:=1) rfl rfl (by omega),?_⟩;(conv=>whnf);repeat(first|apply Cs|apply Rs|apply Rx);conv=>whnf
       refine⟨_,loadK rfl G2.g rfl rfl,?_⟩;(conv=>whnf);repeat(first|apply Cs|apply Rs|apply Rx);conv=>whnf
       refine indexK rfl rfl rfl rfl (by omega) ?_
       ((conv=>whnf);repeat(first|apply Cs|apply Rs|apply Rx);conv=>whnf)
       refine⟨_,addK (b:=1) rfl rfl (by omega),?_⟩;(conv=>whnf);repeat(first|apply Cs|apply Rs|apply Rx);conv=>whnf
       exact⟨(d++[x],r,v,n+1,some d.length),by simp,⟨E,by simpa using L2,by simpa using I2,hv,by simp;omega,by intro i hi;cases hi;omega⟩,rfl,rfl,rfl,rfl,rfl,rfl,by simp;rfl,trivial⟩
     · rw[if_neg (by rw[hc];simp)] at I2
       ((conv=>whnf);repeat(first|apply Cs|apply Rs|apply Rx);conv=>whnf)
       (first|refine⟨_,_,buildK (vs:=[u8 v,u8 x]) (s:=1) rfl rfl zeroVal plainsVal rfl rfl rfl rfl two_mem,fun h3 n3=>?_⟩|refine NewG.obj (buildK (vs:=[u8 v,u8 x]) (s:=1) rfl rfl zeroVal plainsVal rfl rfl rfl rfl two_mem) fun h3 n3=>?_);(conv=>whnf);repeat(first|apply Cs|apply Rs|apply Rx);conv=>whnf
       have hs3:Sl h3 1 (.slice (some ⟨h2.size,0,none⟩) 2 2) (vals [v,x]):=Sl.of_flat n3.get two_mem rfl (Nat.le_refl _) (r:=[]) rfl
       refine⟨_,_,xor_ok hs3 (by intro z hz;simp only[List.mem_cons,List.not_mem_nil,or_false] at hz;rcases hz with rfl|rfl <;> assumption) (by show 2<2 ^ 62;decide),?_⟩;(conv=>whnf);repeat(first|apply Cs|apply Rs|apply Rx);conv=>whnf
       refine⟨_,addK (b:=1) rfl rfl (by omega),?_⟩;(conv=>whnf);repeat(first|apply Cs|apply Rs|apply Rx);conv=>whnf
       exact⟨(d++[x],r,xorL [v,x],n,w),by simp,⟨n3.exts E,by simpa using L2,by simpa using I2,xorL_nonneg _,by simp;omega,hw⟩,rfl,rfl,rfl,rfl,rfl,rfl,by simp;rfl,trivial⟩
 · replace hc:=ge_of_ltI hc
   cases r with
   | cons x r=>have:=congrArg List.length L2;simp at this;omega
   | nil =>
     rw[parGo] at I2
     rw[← I2] at hR
     simp only at hR
     ((conv=>whnf);repeat(first|apply Cs|apply Rs|apply Rx);conv=>whnf)
     refine⟨_,rfl,fun hc=>?_,fun hc=>?_⟩
     · have h0:n=0:=by have:=eq_of_beq hc;simp only[Int.ofNat_eq_natCast] at this;omega
       rw[if_pos h0] at hR
       ((conv=>whnf);repeat(first|apply Cs|apply Rs|apply Rx);conv=>whnf)
       subst hR
       exact⟨rfl,G2,GStep.of_ext E⟩
     have h0:n≠0:=by have:=beq_eq_false_iff_ne.1 hc;simp only[Int.ofNat_eq_natCast] at this;omega
     rw[if_neg h0] at hR
     ((conv=>whnf);repeat(first|apply Cs|apply Rs|apply Rx);conv=>whnf)
     refine⟨_,rfl,fun hc=>?_,fun hc=>?_⟩
     · have h1:1<n:=by have:=lt_of_ltI' hc;simp only[Int.ofNat_eq_natCast] at this;omega
       rw[if_pos h1] at hR
       ((conv=>whnf);repeat(first|apply Cs|apply Rs|apply Rx);conv=>whnf)
       subst hR
       exact⟨rfl,G2,GStep.of_ext E⟩
     have h1:¬ 1<n:=by have:=ge_of_ltI' hc;simp only[Int.ofNat_eq_natCast] at this;omega
     rw[if_neg h1] at hR
     cases w with
     | none =>
       ((conv=>whnf);repeat(first|apply Cs|apply Rs|apply Rx);conv=>whnf)
       refine⟨_,.inr (ptrEqK rfl rfl rfl rfl ptrSame_self),?_⟩
       ((conv=>whnf);repeat(first|apply Cs|apply Rs|apply Rx);conv=>whnf)
       refine⟨true,rfl,fun _=>?_,(fun hc=>nomatch hc)⟩;(conv=>whnf);repeat(first|apply Cs|apply Rs|apply Rx);conv=>whnf
       obtain⟨h3,c3,G3,S3⟩:=put_ok hk hv G2
       refine⟨_,h3,c3,?_⟩
       ((conv=>whnf);repeat(first|apply Cs|apply Rs|apply Rx);conv=>whnf)
       subst hR
       exact⟨rfl,G3,(GStep.of_ext E).trans S3⟩
     | some i =>
       have hi:=hw i rfl
       ((conv=>whnf);repeat(first|apply Cs|apply Rs|apply Rx);conv=>whnf)
       refine⟨_,.inr (ptrEqK rfl rfl rfl rfl (ptrSame_apart (Ne.symm G2.ne) G2.i G2.g)),?_⟩
       ((conv=>whnf);repeat(first|apply Cs|apply Rs|apply Rx);conv=>whnf)
       refine⟨false,rfl,(fun hc=>nomatch hc),fun _=>?_⟩;(conv=>whnf);repeat(first|apply Cs|apply Rs|apply Rx);conv=>whnf
       have hx:(vals l)[0+i*1]?=some (u8 (l.getD i 0)):=by
         rw[Nat.zero_add,Nat.mul_one]
         exact vals_getD hi
       obtain⟨h3,c3,u3⟩:=set_ok (y:=v) G2.i hx
       have hs:(vals l).set (0+i*1) (u8 (setV (l.getD i 0) v))=vals (l.set i (setV (l.getD i 0) v)):=by
         unfold vals
         rw[Nat.zero_add,Nat.mul_one,List.map_set]
       rw[hs] at u3
       obtain⟨G3,S3⟩:=G2.inp (l1:=l.set i (setV (l.getD i 0) v)) (by simp) u3
       refine⟨_,h3,c3,?_⟩
       ((conv=>whnf);repeat(first|apply Cs|apply Rs|apply Rx);conv=>whnf)
       subst hR
       exact⟨rfl,G3,(GStep.of_ext E).trans S3⟩
end
def bitL (m j:Nat):Int:=Int.ofNat (m/2 ^ j%2)
def vecL (m n:Nat):List Int:=(List.range n).map (bitL m)
def okL (m:Nat):Nat→List Int→Bool→Bool
 |_,[],a=>a
 |j,x::r,a=>okL m (j+1) r (a&&(x==2||x==bitL m j))
abbrev Seen:=List Bool×List Bool
def mark (S:Seen) (v:Int) (j:Nat):Seen:=if v=0 then (S.1.set j true,S.2) else (S.1,S.2.set j true)
def markAll:Nat→List Int→Seen→Seen
 |_,[],S=>S
 |j,v::r,S=>markAll (j+1) r (mark S v j)
def rowL (k o:Int) (l:List Int) (m:Nat) (A:Bool×Seen):Bool×Seen :=
 if (!okL m 0 l true||(o != 2&&o != evalL k (vecL m l.length)))=true then A
 else (true,markAll 0 (vecL m l.length) (mark A.2 (evalL k (vecL m l.length)) l.length))
def rowsGo (k o:Int) (l:List Int):Nat→Nat→Bool×Seen→Bool×Seen
 |0,_,A=>A
 |c+1,m,A=>rowsGo k o l c (m+1) (rowL k o l m A)
def rowsL (k o:Int) (l:List Int):Bool×Seen:=rowsGo k o l (2 ^ l.length) 0 (false,List.replicate (l.length+1) false,List.replicate (l.length+1) false)
def finL (A:Bool×Seen) (j:Nat) (x:Int):Int:=if (A.1&&(A.2.1.getD j false != A.2.2.getD j false))=true then (if A.2.2.getD j false=true then 1 else 0) else x
def finGo (A:Bool×Seen):Nat→List Int→List Int
 |_,[]=>[]
 |j,x::r=>finL A j x::finGo A (j+1) r
def triedL (k o:Int) (l:List Int):Bool×Int×List Int :=
 ((rowsL k o l).1,finL (rowsL k o l) l.length o,finGo (rowsL k o l) 0 l)
def vecTo (m j n:Nat):List Int:=(List.range n).map fun i=>if i<j then bitL m i else 0
theorem vecTo_zero (m n:Nat):vals (vecTo m 0 n)=List.replicate n (u8 0):=by
 unfold vals vecTo
 apply List.ext_getElem (by simp)
 intro i h1 h2
 simp
theorem vecTo_all (m n:Nat):vecTo m n n=vecL m n:=by
 unfold vecTo vecL
 apply List.ext_getElem (by simp)
 intro i h1 h2
 simp at h1
 simp[h1]
theorem vecTo_set (m j n:Nat) (_:j<n):(vals (vecTo m j n)).set (0+j*1) (u8 (bitL m j))=vals (vecTo m (j+1) n):=by
 unfold vals vecTo
 rw[Nat.zero_add,Nat.mul_one]
 apply List.ext_getElem (by simp)
 intro i h1 h2
 simp only[List.getElem_set,List.getElem_map,List.getElem_range]
 by_cases e:j=i
 ·subst e;simp
 ·rw[if_neg e]
  by_cases e2:i<j
  ·rw[if_pos e2,if_pos (by omega)]
  ·rw[if_neg e2,if_neg (by omega)]
theorem vecTo_length (m j n:Nat):(vals (vecTo m j n)).length=n:=by simp[vals,vecTo]
theorem vals_at' {l:List Int}{j:Nat} (hj:j<l.length):(vals l)[0+j*1]?=some (u8 l[j]):=by
 rw[Nat.zero_add,Nat.mul_one];exact vals_get hj
theorem vecL_length (m n:Nat):(vecL m n).length=n:=by simp[vecL]
theorem bitL_wrap (m j:Nat):IntKind.u8.wrap (Int.ofNat (m/2 ^ j%2))=Int.ofNat (m/2 ^ j%2):=by
 rcases Nat.mod_two_eq_zero_or_one (m/2 ^ j) with e|e <;> rw[e] <;> rfl
theorem vecL_nonneg (m n:Nat):∀ x∈vecL m n,0≤x:=by
 intro x hx
 simp only[vecL,List.mem_map] at hx
 obtain⟨j,_,rfl⟩:=hx
 exact Int.natCast_nonneg _
def bools (l:List Bool):List Value:=l.map .bool
def slv (n p:Nat):Value:=.slice (some ⟨p,0,none⟩) n n
def falses (n:Nat):AObj:=.cells (List.replicate n (.bool false)) false
def Rows0 (h h2:Heap) (n:Nat):List Nat→Prop
 |[]=>h2.get h.size=some (.cells [.slice none 0 0,.slice none 0 0] false)
 |[p]=>h.size<p∧h2.get h.size=some (.cells [slv n p,.slice none 0 0] false)∧h2.get p=some (falses n)
 |[p,q]=>h.size<p∧p<q∧h2.get h.size=some (.cells [slv n p,slv n q] false)∧h2.get p=some (falses n)∧h2.get q=some (falses n)
 |_=>False
structure Marked (h h7:Heap) (p q:Nat) (S:Seen):Prop where
 size:h7.size=h.size
 other:∀ g,g≠p→g≠q→h7.get g=h.get g
 p:h7.get p=some (.cells (bools S.1) false)
 q:h7.get q=some (.cells (bools S.2) false)
theorem bools_set {l:List Bool}{j:Nat} (hj:j<l.length):splice (bools l) (0+j*1) [.bool true]=bools (l.set j true):=by
 rw[splice_set (by simp[bools];omega),Nat.zero_add,Nat.mul_one]
 unfold bools
 rw[List.map_set]
theorem Marked.left {h h7 h8:Heap}{p q:Nat}{S:Seen}{j:Nat} (M:Marked h h7 p q S) (hpq:p≠q) (hj:j<S.1.length) (u:Upd h7 p (.cells (splice (bools S.1) (0+j*1) [.bool true]) false) h8):Marked h h8 p q (mark S 0 j) :=
 ⟨by rw[u.size,M.size],fun g h1 h2=>by rw[u.other g h1,M.other g h1 h2],by rw[u.get,bools_set hj];rfl,by rw[u.other q (Ne.symm hpq),M.q];rfl⟩
theorem Marked.right {h h7 h8:Heap}{p q:Nat}{S:Seen}{j:Nat} (M:Marked h h7 p q S) (hpq:p≠q) (hj:j<S.2.length) (u:Upd h7 q (.cells (splice (bools S.2) (0+j*1) [.bool true]) false) h8):Marked h h8 p q (mark S 1 j) :=
 ⟨by rw[u.size,M.size],fun g h1 h2=>by rw[u.other g h2,M.other g h1 h2],by rw[u.other p hpq,M.p];rfl,by rw[u.get,bools_set hj];rfl⟩
theorem mark_length (S:Seen) (v:Int) (j:Nat):(mark S v j).1.length=S.1.length∧(mark S v j).2.length=S.2.length:=by
 unfold mark;split <;> simp
theorem bools_length (l:List Bool):(bools l).length=l.length:=by simp[bools]
theorem set_same {cs:List Value}{off:Nat}{v:Value} (hx:cs[off]?=some v):cs.set off v=cs:=by
 obtain⟨hlt,e⟩:=List.getElem?_eq_some_iff.1 hx
 subst e
 exact List.set_getElem_self hlt
theorem Upd.noop {h:Heap}{g off:Nat}{cs:List Value}{v:Value} (hg:h.get g=some (.cells cs false)) (hx:cs[off]?=some v):Upd h g (.cells (cs.set off v) false) h:=by
 rw[set_same hx];exact Upd.same hg
theorem Upd.once {h h5:Heap}{g off:Nat}{cs:List Value}{v:Value} (hlt:off<cs.length) (u:Upd h g (.cells (splice cs off [v]) false) h5):Upd h g (.cells (cs.set off v) false) h5:=by
 rw[← splice_set hlt];exact u
theorem Upd.twice {h h5 h6:Heap}{g off:Nat}{cs:List Value}{v w:Value} (hlt:off<cs.length) (u:Upd h g (.cells (splice cs off [v]) false) h5) (u':Upd h5 g (.cells (splice (splice cs off [v]) off [w]) false) h6):Upd h g (.cells (cs.set off w) false) h6:=by
 have e:splice (splice cs off [v]) off [w]=cs.set off w:=by
  rw[splice_set (by rw[splice_set hlt,List.length_set];exact hlt),splice_set hlt,List.set_set]
 rw[e] at u'
 exact⟨u'.get,fun g' h1=>by rw[u'.other g' h1,u.other g' h1],by rw[u'.size,u.size]⟩
theorem splice_len {cs:List Value}{off:Nat}{v:Value} (hlt:off<cs.length):(splice cs off [v]).length=cs.length:=by rw[splice_set hlt,List.length_set]
theorem bools_at {l:List Bool}{j:Nat} (hj:j<l.length):(bools l)[0+j*1]?=some (.bool (l.getD j false)):=by
 unfold bools
 rw[Nat.zero_add,Nat.mul_one,List.getElem?_map,List.getD_eq_getElem?_getD,List.getElem?_eq_getElem hj]
 rfl
theorem fin_next {l:List Int}{j:Nat}{y:Int} (hj:j<l.length) (r:List Int):(l.set j y).take (j+1)++r=l.take j++y::r:=by
 rw[List.set_eq_take_append_cons_drop,if_pos hj]
 have:(l.take j).length=j:=by simp;omega
 rw[List.take_append,this,List.take_of_length_le (by omega)]
 simp
section
variable {h:Heap} {gg gi:Nat} {k o:Int} {l:List Int}
set_option maxHeartbeats 4000000 in
theorem tried_ok (hk:0≤k) (hk2:k<256) (hv:Vars h) (hn:l.length≤16) (hb:∀ m,m<2 ^ l.length→evalL k (vecL m l.length)=0∨evalL k (vecL m l.length)=1) (G:GateAt h gg gi k o l) :
   ∃ h',CallD Tryz.prog NG 97 #[.pointer (some ⟨gg,0,none⟩)] h (.bool (triedL k o l).1) h'∧GateAt h' gg gi k (triedL k o l).2.1 (triedL k o l).2.2∧GStep h h' gg gi:=by
 suffices q:∃ r h',CallD Tryz.prog NG 97 #[.pointer (some ⟨gg,0,none⟩)] h r h'∧(r=.bool (triedL k o l).1∧GateAt h' gg gi k (triedL k o l).2.1 (triedL k o l).2.2∧GStep h h' gg gi) by
   obtain⟨r,h',q1,rfl,q2⟩:=q
   exact⟨h',q1,q2⟩
 unfold triedL
 simp only
 generalize hR:rowsL k o l=R
 unfold rowsL at hR
 refine fnG hM Tryz.func97 rfl (hP _ _ rfl Tryz.func97) (lbE rfl) ?_;(conv=>whnf);repeat(first|apply Cs|apply Rs|apply Rx);conv=>whnf
 refine⟨_,loadK rfl G.g rfl rfl,?_⟩;(conv=>whnf);repeat(first|apply Cs|apply Rs|apply Rx);conv=>whnf
 (first|refine⟨_,_,anew_alloc (z:=.agg #[.slice none 0 0,.slice none 0 0]) (by kernel_rfl) rfl rfl,fun h1 n1=>?_⟩|refine NewG.obj (anew_alloc (z:=.agg #[.slice none 0 0,.slice none 0 0]) (by kernel_rfl) rfl rfl) fun h1 n1=>?_)
 ((conv=>whnf);repeat(first|apply Cs|apply Rs|apply Rx);conv=>whnf)
 refine loopG (σ:=List Nat) (nn:=160) hM (by kernel_rfl)
   (fun ps h2=>Ext h h2∧h.size<h2.size∧Rows0 h h2 (l.length+1) ps)
   (fun ps=>[(0,.pointer (some ⟨gg,0,none⟩)),(3,.int .i64 (Int.ofNat l.length)),(4,.pointer (some ⟨h.size,0,none⟩)),(21,.int .i64 (Int.ofNat ps.length))]) (fun ps=>2-ps.length) rfl
   ⟨[],⟨n1.ext,by rw[n1.size];omega,n1.get⟩,rfl,rfl,rfl,rfl,trivial⟩ ?_
 rintro ps base h2 ⟨E,hlt,I⟩
 match ps,I with
 | [],I =>
   ((conv=>whnf);repeat(first|apply Cs|apply Rs|apply Rx);conv=>whnf)
   refine⟨true,rfl,fun _=>?_,(fun hc=>nomatch hc)⟩;(conv=>whnf);repeat(first|apply Cs|apply Rs|apply Rx);conv=>whnf
   refine⟨_,addK (b:=1) rfl rfl (by omega),?_⟩;(conv=>whnf);repeat(first|apply Cs|apply Rs|apply Rx);conv=>whnf
   (first|refine⟨_,_,makeK (b:=1) rfl rfl rfl rfl rfl rfl rfl rfl (by omega) (by omega),fun h3 n3=>?_⟩|refine NewG.obj (makeK (b:=1) rfl rfl rfl rfl rfl rfl rfl rfl (by omega) (by omega)) fun h3 n3=>?_);(conv=>whnf);repeat(first|apply Cs|apply Rs|apply Rx);conv=>whnf
   have hne:h2.size≠h.size:=by omega
   refine indexArrK (j:=0) rfl rfl rfl rfl (by decide) ?_
   ((conv=>whnf);repeat(first|apply Cs|apply Rs|apply Rx);conv=>whnf)
   refine storeK rfl (n3.keep I) rfl rfl rfl (by decide) rfl fun h4 u4=>?_;(conv=>whnf);repeat(first|apply Cs|apply Rs|apply Rx);conv=>whnf
   refine⟨_,addK (b:=1) rfl rfl (by simp),?_⟩;(conv=>whnf);repeat(first|apply Cs|apply Rs|apply Rx);conv=>whnf
   have s3:=n3.size
   have s4:=u4.size
   exact⟨[h2.size],by simp,⟨u4.ext (n3.exts E) (Nat.le_refl _),by omega,by omega,u4.get,u4.keep hne n3.get⟩,rfl,rfl,rfl,rfl,trivial⟩
 | [p],⟨I1,I2,I3⟩ =>
   ((conv=>whnf);repeat(first|apply Cs|apply Rs|apply Rx);conv=>whnf)
   refine⟨true,rfl,fun _=>?_,(fun hc=>nomatch hc)⟩;(conv=>whnf);repeat(first|apply Cs|apply Rs|apply Rx);conv=>whnf
   refine⟨_,addK (b:=1) rfl rfl (by omega),?_⟩;(conv=>whnf);repeat(first|apply Cs|apply Rs|apply Rx);conv=>whnf
   (first|refine⟨_,_,makeK (b:=1) rfl rfl rfl rfl rfl rfl rfl rfl (by omega) (by omega),fun h3 n3=>?_⟩|refine NewG.obj (makeK (b:=1) rfl rfl rfl rfl rfl rfl rfl rfl (by omega) (by omega)) fun h3 n3=>?_);(conv=>whnf);repeat(first|apply Cs|apply Rs|apply Rx);conv=>whnf
   have hne:h2.size≠h.size:=by omega
   have hp2:=Heap.lt_of_get I3
   refine indexArrK (j:=1) rfl rfl rfl rfl (by decide) ?_
   ((conv=>whnf);repeat(first|apply Cs|apply Rs|apply Rx);conv=>whnf)
   refine storeK rfl (n3.keep I2) rfl rfl rfl (lbE rfl) rfl fun h4 u4=>?_;(conv=>whnf);repeat(first|apply Cs|apply Rs|apply Rx);conv=>whnf
   refine⟨_,addK (b:=1) rfl rfl (by simp),?_⟩;(conv=>whnf);repeat(first|apply Cs|apply Rs|apply Rx);conv=>whnf
   have s3:=n3.size
   have s4:=u4.size
   exact⟨[p,h2.size],by simp,⟨u4.ext (n3.exts E) (Nat.le_refl _),by omega,by omega,hp2,u4.get,u4.keep (by omega) (n3.keep I3),u4.keep hne n3.get⟩,rfl,rfl,rfl,rfl,trivial⟩
 | [p,q],⟨I1,I2,I3,I4,I5⟩ =>
   ((conv=>whnf);repeat(first|apply Cs|apply Rs|apply Rx);conv=>whnf)
   refine⟨false,rfl,(fun hc=>nomatch hc),fun _=>?_⟩;(conv=>whnf);repeat(first|apply Cs|apply Rs|apply Rx);conv=>whnf
   refine⟨_,shiftK (.inl rfl) rfl rfl (shl_small l.length hn),?_⟩;(conv=>whnf);repeat(first|apply Cs|apply Rs|apply Rx);conv=>whnf
   have hgs:h.size<h2.size:=hlt
   have hq2:=Heap.lt_of_get I5
   refine loopG (σ:=Nat×(Bool×Seen)) (nn:=160) hM (by kernel_rfl)
     (fun (m,A) h3=>m≤2 ^ l.length∧Ext h h3∧h3.get h.size=some (.cells [slv (l.length+1) p,slv (l.length+1) q] false)∧h3.get p=some (.cells (bools A.2.1) false)∧h3.get q=some (.cells (bools A.2.2) false)∧A.2.1.length=l.length+1∧A.2.2.length=l.length+1∧rowsGo k o l (2 ^ l.length-m) m A=R)
     (fun (m,A)=>[(0,.pointer (some ⟨gg,0,none⟩)),(3,.int .i64 (Int.ofNat l.length)),(4,.pointer (some ⟨h.size,0,none⟩)),(6,.bool A.1),(31,.int .i64 (Int.ofNat (2 ^ l.length))),(32,.int .i64 (Int.ofNat m))]) (fun (m,_)=>2 ^ l.length-m) rfl
     ⟨(0,false,List.replicate (l.length+1) false,List.replicate (l.length+1) false),⟨Nat.zero_le _,E,I3,by simpa[bools,falses] using I4,by simpa[bools,falses] using I5,by simp,by simp,hR⟩,rfl,rfl,rfl,rfl,rfl,rfl,trivial⟩ ?_
   rintro⟨m,A⟩ base h3 ⟨hm,E3,J3,J4,J5,J6,J7,hR⟩
   have G3:=G.ext E3
   have hpow:2 ^ l.length≤2 ^ 16:=Nat.pow_le_pow_right (by decide) hn
   have hsz3:h.size<h3.size:=Heap.lt_of_get J3
   have hp3:=Heap.lt_of_get J4
   have hq3:=Heap.lt_of_get J5
   ((conv=>whnf);repeat(first|apply Cs|apply Rs|apply Rx);conv=>whnf)
   refine⟨_,rfl,fun hc=>?_,fun hc=>?_⟩
   · replace hc:=lt_of_ltI hc
     have e1:2 ^ l.length-m=(2 ^ l.length-(m+1))+1:=by omega
     rw[e1,rowsGo] at hR
     ((conv=>whnf);repeat(first|apply Cs|apply Rs|apply Rx);conv=>whnf)
     (first|refine⟨_,_,makeK (b:=1) rfl rfl rfl rfl rfl rfl rfl rfl (by omega) (by omega),fun h4 n4=>?_⟩|refine NewG.obj (makeK (b:=1) rfl rfl rfl rfl rfl rfl rfl rfl (by omega) (by omega)) fun h4 n4=>?_);(conv=>whnf);repeat(first|apply Cs|apply Rs|apply Rx);conv=>whnf
     have s4:=n4.size
     refine loopG (σ:=Nat×Bool) (nn:=160) hM (by kernel_rfl)
       (fun (j,a) h5=>j≤l.length∧h5.size=h4.size∧(∀ g,g≠h3.size→h5.get g=h4.get g)∧h5.get h3.size=some (.cells (vals (vecTo m j l.length)) false)∧okL m j (l.drop j) a=okL m 0 l true)
       (fun (j,a)=>[(0,.pointer (some ⟨gg,0,none⟩)),(3,.int .i64 (Int.ofNat l.length)),(4,.pointer (some ⟨h.size,0,none⟩)),(6,.bool A.1),(7,.int .i64 (Int.ofNat m)),(8,.slice (some ⟨h3.size,0,none⟩) l.length l.length),(9,.bool a),(31,.int .i64 (Int.ofNat (2 ^ l.length))),(32,.int .i64 (Int.ofNat m)),(38,.int .i64 (Int.ofNat l.length)),(39,.int .i64 (Int.ofNat j))]) (fun (j,_)=>l.length-j) rfl
       ⟨(0,true),⟨Nat.zero_le _,rfl,fun _ _=>rfl,by rw[vecTo_zero];exact n4.get,rfl⟩,rfl,rfl,rfl,rfl,rfl,rfl,rfl,rfl,rfl,rfl,rfl,trivial⟩ ?_
     rintro⟨j,a⟩ base h5 ⟨hj,s5,F5,B5,O5⟩
     have E5:Ext h3 h5:=⟨by omega,fun g hg=>by rw[F5 g (by omega)];exact n4.ext.2 g hg⟩
     have G5:=G3.ext E5
     ((conv=>whnf);repeat(first|apply Cs|apply Rs|apply Rx);conv=>whnf)
     refine⟨_,rfl,fun hc=>?_,fun hc=>?_⟩
     · replace hc:=lt_of_ltI hc
       rw[drop_cons hc,okL] at O5
       have hmj:m/2 ^ j<2 ^ 62:=Nat.lt_of_le_of_lt (Nat.div_le_self _ _) (by omega)
       ((conv=>whnf);repeat(first|apply Cs|apply Rs|apply Rx);conv=>whnf)
       refine⟨_,shiftK (.inr rfl) rfl rfl (shr_small m j (by omega)),?_⟩;(conv=>whnf);repeat(first|apply Cs|apply Rs|apply Rx);conv=>whnf
       refine⟨_,bitsK (.inl rfl) rfl rfl (and_one (m/2 ^ j) hmj),?_⟩;(conv=>whnf);repeat(first|apply Cs|apply Rs|apply Rx);conv=>whnf
       refine⟨_,convIntK rfl rfl rfl (bitL_wrap m j),?_⟩;(conv=>whnf);repeat(first|apply Cs|apply Rs|apply Rx);conv=>whnf
       refine indexK rfl rfl rfl rfl hc ?_
       ((conv=>whnf);repeat(first|apply Cs|apply Rs|apply Rx);conv=>whnf)
       refine storeK rfl B5 rfl rfl rfl (by rw[vecTo_length];show 0+j*1+1≤l.length;omega) rfl fun h6 u6=>?_;(conv=>whnf);repeat(first|apply Cs|apply Rs|apply Rx);conv=>whnf
       have u7:Upd h5 h3.size (.cells (vals (vecTo m (j+1) l.length)) false) h6:=by
         rw[← vecTo_set m j l.length hc,← splice_set (by rw[vecTo_length];omega)]
         exact u6
       have E6:Ext h3 h6:=u7.ext E5 (Nat.le_refl _)
       have G6:=G3.ext E6
       have hbit:(vals (vecTo m (j+1) l.length))[0+j*1]?=some (u8 (bitL m j)):=by
         rw[← vecTo_set m j l.length hc,List.getElem?_set_self (by rw[vecTo_length];omega)]
       have next:∀ a',okL m (j+1) (l.drop (j+1)) a'=okL m 0 l true→j+1≤l.length∧h6.size=h4.size∧(∀ g,g≠h3.size→h6.get g=h4.get g)∧h6.get h3.size=some (.cells (vals (vecTo m (j+1) l.length)) false)∧okL m (j+1) (l.drop (j+1)) a'=okL m 0 l true :=
         fun a' q=>⟨hc,by rw[u7.size,s5],fun g hg=>by rw[u7.other g hg,F5 g hg],u7.get,q⟩
       have hj':=hc
       refine⟨_,rfl,fun hc=>?_,fun hc=>?_⟩
       · rw[hc] at O5
         ((conv=>whnf);repeat(first|apply Cs|apply Rs|apply Rx);conv=>whnf)
         refine⟨_,loadK rfl G6.g rfl rfl,?_⟩;(conv=>whnf);repeat(first|apply Cs|apply Rs|apply Rx);conv=>whnf
         refine⟨.inr (.inr (loadK rfl G6.g rfl rfl)),?_⟩;(conv=>whnf);repeat(first|apply Cs|apply Rs|apply Rx);conv=>whnf
         refine indexK rfl rfl rfl rfl hj' ?_
         ((conv=>whnf);repeat(first|apply Cs|apply Rs|apply Rx);conv=>whnf)
         refine⟨_,loadK rfl G6.i rfl (vals_at' hj'),?_⟩;(conv=>whnf);repeat(first|apply Cs|apply Rs|apply Rx);conv=>whnf
         refine⟨.inl rfl,?_⟩;(conv=>whnf);repeat(first|apply Cs|apply Rs|apply Rx);conv=>whnf
         refine⟨_,rfl,fun hc=>?_,fun hc=>?_⟩
         · rw[hc] at O5
           ((conv=>whnf);repeat(first|apply Cs|apply Rs|apply Rx);conv=>whnf)
           refine⟨_,addK (b:=1) rfl rfl (by omega),?_⟩;(conv=>whnf);repeat(first|apply Cs|apply Rs|apply Rx);conv=>whnf
           exact⟨(j+1,true),by simp only;omega,next true (by simpa using O5),rfl,rfl,rfl,rfl,rfl,rfl,rfl,rfl,rfl,rfl,rfl,trivial⟩
         · rw[hc] at O5
           ((conv=>whnf);repeat(first|apply Cs|apply Rs|apply Rx);conv=>whnf)
           refine⟨_,loadK rfl G6.g rfl rfl,?_⟩;(conv=>whnf);repeat(first|apply Cs|apply Rs|apply Rx);conv=>whnf
           refine⟨.inr (.inr (loadK rfl G6.g rfl rfl)),?_⟩;(conv=>whnf);repeat(first|apply Cs|apply Rs|apply Rx);conv=>whnf
           refine indexK rfl rfl rfl rfl hj' ?_
           ((conv=>whnf);repeat(first|apply Cs|apply Rs|apply Rx);conv=>whnf)
           refine⟨_,loadK rfl G6.i rfl (vals_at' hj'),?_⟩;(conv=>whnf);repeat(first|apply Cs|apply Rs|apply Rx);conv=>whnf
           refine⟨.inl rfl,?_⟩;(conv=>whnf);repeat(first|apply Cs|apply Rs|apply Rx);conv=>whnf
           refine indexK rfl rfl rfl rfl hj' ?_
           ((conv=>whnf);repeat(first|apply Cs|apply Rs|apply Rx);conv=>whnf)
           refine⟨_,loadK rfl u7.get rfl hbit,?_⟩;(conv=>whnf);repeat(first|apply Cs|apply Rs|apply Rx);conv=>whnf
           refine⟨.inl rfl,?_⟩;(conv=>whnf);repeat(first|apply Cs|apply Rs|apply Rx);conv=>whnf
           refine⟨_,addK (b:=1) rfl rfl (by omega),?_⟩;(conv=>whnf);repeat(first|apply Cs|apply Rs|apply Rx);conv=>whnf
           exact⟨(j+1,l[j]==bitL m j),by simp only;omega,next _ (by simpa using O5),rfl,rfl,rfl,rfl,rfl,rfl,rfl,rfl,rfl,rfl,rfl,trivial⟩
       · rw[hc] at O5
         rw[hc]
         ((conv=>whnf);repeat(first|apply Cs|apply Rs|apply Rx);conv=>whnf)
         refine⟨_,addK (b:=1) rfl rfl (by omega),?_⟩;(conv=>whnf);repeat(first|apply Cs|apply Rs|apply Rx);conv=>whnf
         exact⟨(j+1,false),by simp only;omega,next false (by simpa using O5),rfl,rfl,rfl,rfl,rfl,rfl,rfl,rfl,rfl,rfl,rfl,trivial⟩
     · replace hc:=ge_of_ltI hc
       obtain rfl:j=l.length:=by omega
       rw[List.drop_eq_nil_of_le (Nat.le_refl _),okL] at O5
       rw[vecTo_all] at B5
       have hvl:(vecL m l.length).length=l.length:=vecL_length _ _
       have SB:Sl h5 1 (.slice (some ⟨h3.size,0,none⟩) l.length l.length) (vals (vecL m l.length)) :=
         Sl.of_flat B5 (by intro e he;simp only[vals,List.mem_map] at he;obtain⟨x,_,rfl⟩:=he;rfl) (by simp[vals,hvl]) (by simp[vals,hvl]) (r:=[]) (by rw[List.append_nil,flatC_vals])
       have hrow:rowL k o l m A=if (!a||(o != 2&&o != evalL k (vecL m l.length)))=true then A else (true,markAll 0 (vecL m l.length) (mark A.2 (evalL k (vecL m l.length)) l.length)):=by
         unfold rowL;rw[← O5]
       have next:∀ (A':Bool×Seen) (h7:Heap),rowL k o l m A=A'→Ext h h7→h7.get h.size=some (.cells [slv (l.length+1) p,slv (l.length+1) q] false)→h7.get p=some (.cells (bools A'.2.1) false)→h7.get q=some (.cells (bools A'.2.2) false)→A'.2.1.length=l.length+1→A'.2.2.length=l.length+1 →
           m+1≤2 ^ l.length∧Ext h h7∧h7.get h.size=some (.cells [slv (l.length+1) p,slv (l.length+1) q] false)∧h7.get p=some (.cells (bools A'.2.1) false)∧h7.get q=some (.cells (bools A'.2.2) false)∧A'.2.1.length=l.length+1∧A'.2.2.length=l.length+1∧rowsGo k o l (2 ^ l.length-(m+1)) (m+1) A'=R :=
         fun A' h7 q0 q1 q2 q3 q4 q5 q6=>⟨by omega,q1,q2,q3,q4,q5,q6,by rw[← q0];exact hR⟩
       have K3:h5.get h.size=some (.cells [slv (l.length+1) p,slv (l.length+1) q] false):=E5.get J3
       have K4:=E5.get J4
       have K5:=E5.get J5
       have hr:=hb m (by omega)
       generalize hev:evalL k (vecL m l.length)=r at hrow hr
       ((conv=>whnf);repeat(first|apply Cs|apply Rs|apply Rx);conv=>whnf)
       refine⟨_,loadK rfl G5.g rfl rfl,?_⟩;(conv=>whnf);repeat(first|apply Cs|apply Rs|apply Rx);conv=>whnf
       refine⟨_,_,eval_ok hk hk2 (hv.ext (E3.trans E5)) SB (vecL_nonneg _ _) (by rw[hvl];omega),?_⟩
       rw[hev]
       ((conv=>whnf);repeat(first|apply Rs|apply Rx);conv=>whnf)
       refine CodeS.join (nn:=160) (fun h'=>h'=h5∧(!a||(o != 2&&o != r))=false)
         [(0,.pointer (some ⟨gg,0,none⟩)),(3,.int .i64 (Int.ofNat l.length)),(4,.pointer (some ⟨h.size,0,none⟩)),(6,.bool A.1),(8,.slice (some ⟨h3.size,0,none⟩) l.length l.length),(11,u8 r),(31,.int .i64 (Int.ofNat (2 ^ l.length))),(32,.int .i64 (Int.ofNat m))] rfl ?_ ?_
       · ((conv=>whnf);repeat(first|apply Cs|apply Rs|apply Rx);conv=>whnf)
         refine⟨_,rfl,fun hc=>?_,fun hc=>?_⟩
         · have ha:a=false:=by simpa using hc
           rw[hc]
           ((conv=>whnf);repeat(first|apply Cs|apply Rs|apply Rx);conv=>whnf)
           refine⟨true,rfl,fun _=>?_,(fun hc=>nomatch hc)⟩;(conv=>whnf);repeat(first|apply Cs|apply Rs|apply Rx);conv=>whnf
           refine⟨_,addK (b:=1) rfl rfl (by omega),?_⟩;(conv=>whnf);repeat(first|apply Cs|apply Rs|apply Rx);conv=>whnf
           exact⟨(m+1,A),by simp only;omega,next A h5 (by rw[hrow,ha];rfl) (E3.trans E5) K3 K4 K5 J6 J7,rfl,rfl,rfl,rfl,rfl,rfl,trivial⟩
         have ha:a=true:=by simpa using hc
         rw[hc]
         ((conv=>whnf);repeat(first|apply Cs|apply Rs|apply Rx);conv=>whnf)
         refine⟨_,loadK rfl G5.g rfl rfl,?_⟩;(conv=>whnf);repeat(first|apply Cs|apply Rs|apply Rx);conv=>whnf
         refine⟨_,rfl,fun hc=>?_,fun hc=>?_⟩
         · have ho2:(o != 2)=true:=hc
           rw[hc]
           ((conv=>whnf);repeat(first|apply Cs|apply Rs|apply Rx);conv=>whnf)
           refine⟨_,loadK rfl G5.g rfl rfl,?_⟩;(conv=>whnf);repeat(first|apply Cs|apply Rs|apply Rx);conv=>whnf
           refine⟨_,rfl,fun hc=>?_,fun hc=>?_⟩
           · ((conv=>whnf);repeat(first|apply Cs|apply Rs|apply Rx);conv=>whnf)
             refine⟨_,addK (b:=1) rfl rfl (by omega),?_⟩;(conv=>whnf);repeat(first|apply Cs|apply Rs|apply Rx);conv=>whnf
             exact⟨(m+1,A),by simp only;omega,next A h5 (by rw[hrow,ha,ho2,hc];rfl) (E3.trans E5) K3 K4 K5 J6 J7,rfl,rfl,rfl,rfl,rfl,rfl,trivial⟩
           · ((conv=>whnf);repeat(first|apply Cs|apply Rs|apply Rx);conv=>whnf)
             exact⟨⟨rfl,by rw[hc];rfl⟩,rfl,rfl,rfl,rfl,rfl,rfl,rfl,rfl,trivial⟩
         · have ho2:(o != 2)=false:=hc
           rw[hc]
           ((conv=>whnf);repeat(first|apply Cs|apply Rs|apply Rx);conv=>whnf)
           refine⟨false,rfl,(fun hc=>nomatch hc),fun _=>?_⟩;(conv=>whnf);repeat(first|apply Cs|apply Rs|apply Rx);conv=>whnf
           exact⟨⟨rfl,rfl⟩,rfl,rfl,rfl,rfl,rfl,rfl,rfl,rfl,trivial⟩
       · rintro base h6 ⟨rfl,hno⟩
         rw[hno,if_neg (by simp)] at hrow
         (conv=>whnf)
         refine CodeS.step ?_;(conv=>whnf)
         refine CodeS.step ?_;(conv=>whnf)
         ((conv=>whnf);repeat(first|apply Rs|apply Rx);conv=>whnf)
         have hpq:p≠q:=by omega
         refine CodeS.join (nn:=160) (fun h'=>Marked h6 h' p q (mark A.2 r l.length))
           [(0,.pointer (some ⟨gg,0,none⟩)),(3,.int .i64 (Int.ofNat l.length)),(4,.pointer (some ⟨h.size,0,none⟩)),(6,.bool true),(8,.slice (some ⟨h3.size,0,none⟩) l.length l.length),(31,.int .i64 (Int.ofNat (2 ^ l.length))),(32,.int .i64 (Int.ofNat m))] rfl ?_ ?_
         · rcases hr with rfl|rfl
           · ((conv=>whnf);repeat(first|apply Cs|apply Rs|apply Rx);conv=>whnf)
             refine indexArrK (j:=0) rfl rfl rfl rfl (by decide) ?_
             ((conv=>whnf);repeat(first|apply Cs|apply Rs|apply Rx);conv=>whnf)
             refine⟨_,loadK rfl K3 rfl rfl,?_⟩;(conv=>whnf);repeat(first|apply Cs|apply Rs|apply Rx);conv=>whnf
             refine indexK rfl rfl rfl rfl (Nat.lt_succ_self _) ?_
             ((conv=>whnf);repeat(first|apply Cs|apply Rs|apply Rx);conv=>whnf)
             refine storeK rfl K4 rfl rfl rfl (by rw[bools_length,J6];show 0+l.length*1+1≤l.length+1;omega) rfl fun h7 u7=>?_;(conv=>whnf);repeat(first|apply Cs|apply Rs|apply Rx);conv=>whnf
             exact⟨Marked.left ⟨rfl,fun _ _ _=>rfl,K4,K5⟩ hpq (by omega) u7,rfl,rfl,rfl,rfl,rfl,rfl,rfl,trivial⟩
           · ((conv=>whnf);repeat(first|apply Cs|apply Rs|apply Rx);conv=>whnf)
             refine indexArrK (j:=1) rfl rfl rfl rfl (by decide) ?_
             ((conv=>whnf);repeat(first|apply Cs|apply Rs|apply Rx);conv=>whnf)
             refine⟨_,loadK rfl K3 rfl rfl,?_⟩;(conv=>whnf);repeat(first|apply Cs|apply Rs|apply Rx);conv=>whnf
             refine indexK rfl rfl rfl rfl (Nat.lt_succ_self _) ?_
             ((conv=>whnf);repeat(first|apply Cs|apply Rs|apply Rx);conv=>whnf)
             refine storeK rfl K5 rfl rfl rfl (by rw[bools_length,J7];show 0+l.length*1+1≤l.length+1;omega) rfl fun h7 u7=>?_;(conv=>whnf);repeat(first|apply Cs|apply Rs|apply Rx);conv=>whnf
             exact⟨Marked.right ⟨rfl,fun _ _ _=>rfl,K4,K5⟩ hpq (by omega) u7,rfl,rfl,rfl,rfl,rfl,rfl,rfl,trivial⟩
         rintro base h7 M7
         ((conv=>whnf);repeat(first|apply Cs|apply Rs|apply Rx);conv=>whnf)
         refine loopG (σ:=Nat×Seen) (nn:=160) hM (by kernel_rfl)
           (fun (j,S) h8=>j≤l.length∧Marked h6 h8 p q S∧S.1.length=l.length+1∧S.2.length=l.length+1∧markAll j ((vecL m l.length).drop j) S=markAll 0 (vecL m l.length) (mark A.2 r l.length))
           (fun (j,S)=>[(0,.pointer (some ⟨gg,0,none⟩)),(3,.int .i64 (Int.ofNat l.length)),(4,.pointer (some ⟨h.size,0,none⟩)),(6,.bool true),(31,.int .i64 (Int.ofNat (2 ^ l.length))),(32,.int .i64 (Int.ofNat m)),(104,.slice (some ⟨h3.size,0,none⟩) l.length l.length),(105,.int .i64 (Int.ofNat l.length)),(106,.int .i64 (Int.ofNat j))]) (fun (j,_)=>l.length-j) rfl
           ⟨(0,mark A.2 r l.length),⟨Nat.zero_le _,M7,by rw[(mark_length _ _ _).1,J6],by rw[(mark_length _ _ _).2,J7],rfl⟩,rfl,rfl,rfl,rfl,rfl,rfl,rfl,rfl,rfl,trivial⟩ ?_
         rintro⟨j,S⟩ base h8 ⟨hj,M8,S1,S2,I8⟩
         ((conv=>whnf);repeat(first|apply Cs|apply Rs|apply Rx);conv=>whnf)
         have E6:=E3.trans E5
         have B8:h8.get h3.size=some (.cells (vals (vecL m l.length)) false):=by rw[M8.other _ (by omega) (by omega)];exact B5
         have K8:h8.get h.size=some (.cells [slv (l.length+1) p,slv (l.length+1) q] false):=by rw[M8.other _ (by omega) (by omega)];exact K3
         have M8p:=M8.p
         have M8q:=M8.q
         refine⟨_,rfl,fun hc=>?_,fun hc=>?_⟩
         · replace hc:=lt_of_ltI hc
           have hjv:j<(vecL m l.length).length:=by rw[hvl];exact hc
           rw[drop_cons hjv,markAll] at I8
           have hv01:(vecL m l.length)[j]=0∨(vecL m l.length)[j]=1:=by
             simp only[vecL,List.getElem_map,List.getElem_range,bitL]
             rcases Nat.mod_two_eq_zero_or_one (m/2 ^ j) with e|e <;> rw[e] <;> simp
           have B9:=vals_at' hjv
           generalize (vecL m l.length)[j]=v at I8 hv01 B9
           have L1:=mark_length S v j
           ((conv=>whnf);repeat(first|apply Cs|apply Rs|apply Rx);conv=>whnf)
           refine indexK rfl rfl rfl rfl hc ?_
           ((conv=>whnf);repeat(first|apply Cs|apply Rs|apply Rx);conv=>whnf)
           refine⟨_,loadK rfl B8 rfl B9,?_⟩;(conv=>whnf);repeat(first|apply Cs|apply Rs|apply Rx);conv=>whnf
           rcases hv01 with rfl|rfl
           · ((conv=>whnf);repeat(first|apply Cs|apply Rs|apply Rx);conv=>whnf)
             refine indexArrK (j:=0) rfl rfl rfl rfl (by decide) ?_
             ((conv=>whnf);repeat(first|apply Cs|apply Rs|apply Rx);conv=>whnf)
             refine⟨_,loadK rfl K8 rfl rfl,?_⟩;(conv=>whnf);repeat(first|apply Cs|apply Rs|apply Rx);conv=>whnf
             refine indexK rfl rfl rfl rfl (Nat.lt_succ_of_lt hc) ?_
             ((conv=>whnf);repeat(first|apply Cs|apply Rs|apply Rx);conv=>whnf)
             refine storeK rfl M8p rfl rfl rfl (by rw[bools_length,S1];show 0+j*1+1≤l.length+1;omega) rfl fun h9 u9=>?_;(conv=>whnf);repeat(first|apply Cs|apply Rs|apply Rx);conv=>whnf
             refine⟨_,addK (b:=1) rfl rfl (by omega),?_⟩;(conv=>whnf);repeat(first|apply Cs|apply Rs|apply Rx);conv=>whnf
             exact⟨(j+1,mark S 0 j),by simp only;omega,⟨hc,M8.left hpq (by omega) u9,by rw[L1.1,S1],by rw[L1.2,S2],I8⟩,rfl,rfl,rfl,rfl,rfl,rfl,rfl,rfl,rfl,trivial⟩
           · ((conv=>whnf);repeat(first|apply Cs|apply Rs|apply Rx);conv=>whnf)
             refine indexArrK (j:=1) rfl rfl rfl rfl (by decide) ?_
             ((conv=>whnf);repeat(first|apply Cs|apply Rs|apply Rx);conv=>whnf)
             refine⟨_,loadK rfl K8 rfl rfl,?_⟩;(conv=>whnf);repeat(first|apply Cs|apply Rs|apply Rx);conv=>whnf
             refine indexK rfl rfl rfl rfl (Nat.lt_succ_of_lt hc) ?_
             ((conv=>whnf);repeat(first|apply Cs|apply Rs|apply Rx);conv=>whnf)
             refine storeK rfl M8q rfl rfl rfl (by rw[bools_length,S2];show 0+j*1+1≤l.length+1;omega) rfl fun h9 u9=>?_;(conv=>whnf);repeat(first|apply Cs|apply Rs|apply Rx);conv=>whnf
             refine⟨_,addK (b:=1) rfl rfl (by omega),?_⟩;(conv=>whnf);repeat(first|apply Cs|apply Rs|apply Rx);conv=>whnf
             exact⟨(j+1,mark S 1 j),by simp only;omega,⟨hc,M8.right hpq (by omega) u9,by rw[L1.1,S1],by rw[L1.2,S2],I8⟩,rfl,rfl,rfl,rfl,rfl,rfl,rfl,rfl,rfl,trivial⟩
         · replace hc:=ge_of_ltI hc
           rw[List.drop_eq_nil_of_le (by omega),markAll] at I8
           have E8:Ext h h8:=⟨by have:=M8.size;have:=E6.1;omega,fun g hg=>by rw[M8.other g (by omega) (by omega)];exact E6.2 g hg⟩
           ((conv=>whnf);repeat(first|apply Cs|apply Rs|apply Rx);conv=>whnf)
           refine⟨_,addK (b:=1) rfl rfl (by omega),?_⟩;(conv=>whnf);repeat(first|apply Cs|apply Rs|apply Rx);conv=>whnf
           exact⟨(m+1,true,S),by simp only;omega,next (true,S) h8 (by rw[hrow,← I8]) E8 K8 M8p M8q S1 S2,rfl,rfl,rfl,rfl,rfl,rfl,trivial⟩
   · replace hc:=ge_of_ltI hc
     have e1:2 ^ l.length-m=0:=by omega
     rw[e1,rowsGo] at hR
     obtain rfl:m=2 ^ l.length:=by omega
     subst hR
     ((conv=>whnf);repeat(first|apply Cs|apply Rs|apply Rx);conv=>whnf)
     refine⟨_,addK (b:=1) rfl rfl (by omega),?_⟩;(conv=>whnf);repeat(first|apply Cs|apply Rs|apply Rx);conv=>whnf
     refine loopG (σ:=Nat×Int×List Int) (nn:=160) hM (by kernel_rfl)
       (fun (j,o',l') h4=>j≤l.length+1∧GateAt h4 gg gi k o' l'∧GStep h h4 gg gi∧l'.length=l.length∧h4.get h.size=some (.cells [slv (l.length+1) p,slv (l.length+1) q] false)∧h4.get p=some (.cells (bools A.2.1) false)∧h4.get q=some (.cells (bools A.2.2) false) ∧
         l'.take j++finGo A j (l'.drop j)=finGo A 0 l∧(if l.length<j then o' else finL A l.length o')=finL A l.length o)
       (fun (j,_,_)=>[(0,.pointer (some ⟨gg,0,none⟩)),(3,.int .i64 (Int.ofNat l.length)),(4,.pointer (some ⟨h.size,0,none⟩)),(6,.bool A.1),(119,.int .i64 (Int.ofNat (l.length+1))),(120,.int .i64 (Int.ofNat j))]) (fun (j,_,_)=>l.length+1-j) rfl
       ⟨(0,o,l),⟨Nat.zero_le _,G3,GStep.of_ext E3,rfl,J3,J4,J5,rfl,by rw[if_neg (by omega)]⟩,rfl,rfl,rfl,rfl,rfl,rfl,trivial⟩ ?_
     rintro⟨j,o',l'⟩ base h4 ⟨hj,G4,S4,L4,W3,W4,W5,I4,O4⟩
     ((conv=>whnf);repeat(first|apply Cs|apply Rs|apply Rx);conv=>whnf)
     refine⟨_,rfl,fun hc=>?_,fun hc=>?_⟩
     · replace hc:=lt_of_ltI hc
       have hc0:j<l.length+1:=hc
       have hA1:A.2.1.length=l.length+1:=J6
       have hA2:A.2.2.length=l.length+1:=J7
       have hb0:=bools_at (l:=A.2.1) (j:=j) (by omega)
       have hb1:=bools_at (l:=A.2.2) (j:=j) (by omega)
       have hgg:=Heap.lt_of_get G.g
       have hgi:=Heap.lt_of_get G.i
       have hfin:∀ x,finL A j x=if (A.1&&(A.2.1.getD j false != A.2.2.getD j false))=true then (if A.2.2.getD j false=true then 1 else 0) else x:=fun _=>rfl
       generalize A.2.1.getD j false=b0 at hb0 hfin
       generalize A.2.2.getD j false=b1 at hb1 hfin
       have nextIn:∀ (hjl:j<l'.length) h5,Upd h4 gi (.cells ((vals l').set (0+j*1) (u8 (finL A j l'[j]))) false) h5→j+1≤l.length+1∧GateAt h5 gg gi k o' (l'.set j (finL A j l'[j]))∧GStep h h5 gg gi∧(l'.set j (finL A j l'[j])).length=l.length∧h5.get h.size=some (.cells [slv (l.length+1) p,slv (l.length+1) q] false)∧h5.get p=some (.cells (bools A.2.1) false)∧h5.get q=some (.cells (bools A.2.2) false) ∧
           (l'.set j (finL A j l'[j])).take (j+1)++finGo A (j+1) ((l'.set j (finL A j l'[j])).drop (j+1))=finGo A 0 l∧(if l.length<j+1 then o' else finL A l.length o')=finL A l.length o:=by
         intro hjl h5 u
         have hs:(vals l').set (0+j*1) (u8 (finL A j l'[j]))=vals (l'.set j (finL A j l'[j])):=by
           unfold vals
           rw[Nat.zero_add,Nat.mul_one,List.map_set]
         have u':Upd h4 gi (.cells (vals (l'.set j (finL A j l'[j]))) false) h5:=by rw[← hs];exact u
         obtain⟨G5,S5⟩:=G4.inp (l1:=l'.set j (finL A j l'[j])) (by simp) u'
         refine⟨hc0,G5,S4.trans S5,by simpa using L4,u.keep (by omega) W3,u.keep (by omega) W4,u.keep (by omega) W5,?_,?_⟩
         · rw[fin_next hjl,List.drop_set_of_lt (Nat.lt_succ_self j),← I4,drop_cons hjl,finGo]
         · rw[if_neg (by omega)] at O4
           rw[if_neg (by omega),O4]
       have nextOut:j=l.length→∀ h5,Upd h4 gg (.cells ([u8 k,u8 o',.slice (some ⟨gi,0,none⟩) l'.length l'.length].set 1 (u8 (finL A j o'))) false) h5→j+1≤l.length+1∧GateAt h5 gg gi k (finL A j o') l'∧GStep h h5 gg gi∧l'.length=l.length∧h5.get h.size=some (.cells [slv (l.length+1) p,slv (l.length+1) q] false)∧h5.get p=some (.cells (bools A.2.1) false)∧h5.get q=some (.cells (bools A.2.2) false) ∧
           l'.take (j+1)++finGo A (j+1) (l'.drop (j+1))=finGo A 0 l∧(if l.length<j+1 then finL A j o' else finL A l.length (finL A j o'))=finL A l.length o:=by
         intro hjn h5 u
         obtain⟨G5,S5⟩:=G4.out u
         refine⟨hc0,G5,S4.trans S5,L4,u.keep (by omega) W3,u.keep (by omega) W4,u.keep (by omega) W5,?_,?_⟩
         · rw[← I4,List.take_of_length_le (by omega),List.drop_eq_nil_of_le (by omega),List.take_of_length_le (by omega),List.drop_eq_nil_of_le (by omega)]
           rfl
         · rw[if_neg (by omega)] at O4
           rw[if_pos (by omega),← O4,hjn]
       ((conv=>whnf);repeat(first|apply Cs|apply Rs|apply Rx);conv=>whnf)
       refine⟨_,rfl,fun hc=>?_,fun hc=>?_⟩
       · have hjl:j<l'.length:=by rw[L4];exact lt_of_ltI hc
         have fin:=hfin l'[j]
         ((conv=>whnf);repeat(first|apply Cs|apply Rs|apply Rx);conv=>whnf)
         refine⟨_,loadK rfl G4.g rfl rfl,?_⟩;(conv=>whnf);repeat(first|apply Cs|apply Rs|apply Rx);conv=>whnf
         refine indexK rfl rfl rfl rfl hjl ?_
         ((conv=>whnf);repeat(first|apply Cs|apply Rs|apply Rx);conv=>whnf)
         refine⟨_,rfl,fun hc=>?_,fun hc=>?_⟩
         · rw[hc] at fin
           ((conv=>whnf);repeat(first|apply Cs|apply Rs|apply Rx);conv=>whnf)
           refine indexArrK (j:=0) rfl rfl rfl rfl (by decide) ?_
           ((conv=>whnf);repeat(first|apply Cs|apply Rs|apply Rx);conv=>whnf)
           refine⟨_,loadK rfl W3 rfl rfl,?_⟩;(conv=>whnf);repeat(first|apply Cs|apply Rs|apply Rx);conv=>whnf
           refine⟨.inr (.inr (loadK rfl W3 rfl rfl)),?_⟩;(conv=>whnf);repeat(first|apply Cs|apply Rs|apply Rx);conv=>whnf
           refine indexK rfl rfl rfl rfl hc0 ?_
           ((conv=>whnf);repeat(first|apply Cs|apply Rs|apply Rx);conv=>whnf)
           refine⟨_,loadK rfl W4 rfl hb0,?_⟩;(conv=>whnf);repeat(first|apply Cs|apply Rs|apply Rx);conv=>whnf
           refine⟨.inl rfl,?_⟩;(conv=>whnf);repeat(first|apply Cs|apply Rs|apply Rx);conv=>whnf
           refine indexArrK (j:=1) rfl rfl rfl rfl (by decide) ?_
           ((conv=>whnf);repeat(first|apply Cs|apply Rs|apply Rx);conv=>whnf)
           refine⟨_,loadK rfl W3 rfl rfl,?_⟩;(conv=>whnf);repeat(first|apply Cs|apply Rs|apply Rx);conv=>whnf
           refine⟨.inr (.inr (loadK rfl W3 rfl rfl)),?_⟩;(conv=>whnf);repeat(first|apply Cs|apply Rs|apply Rx);conv=>whnf
           refine indexK rfl rfl rfl rfl hc0 ?_
           ((conv=>whnf);repeat(first|apply Cs|apply Rs|apply Rx);conv=>whnf)
           refine⟨_,loadK rfl W5 rfl hb1,?_⟩;(conv=>whnf);repeat(first|apply Cs|apply Rs|apply Rx);conv=>whnf
           refine⟨.inl rfl,?_⟩;(conv=>whnf);repeat(first|apply Cs|apply Rs|apply Rx);conv=>whnf
           refine⟨_,rfl,fun hc=>?_,fun hc=>?_⟩
           · rw[show (b0 != b1)=true from hc] at fin
             ((conv=>whnf);repeat(first|apply Cs|apply Rs|apply Rx);conv=>whnf)
             refine storeK rfl G4.i rfl rfl rfl (by show 0+j*1+1≤(vals l').length;simp[vals];omega) rfl fun h5 u5=>?_;(conv=>whnf);repeat(first|apply Cs|apply Rs|apply Rx);conv=>whnf
             refine indexArrK (j:=1) rfl rfl rfl rfl (by decide) ?_
             ((conv=>whnf);repeat(first|apply Cs|apply Rs|apply Rx);conv=>whnf)
             refine⟨_,loadK rfl (u5.keep (by omega) W3) rfl rfl,?_⟩;(conv=>whnf);repeat(first|apply Cs|apply Rs|apply Rx);conv=>whnf
             refine indexK rfl rfl rfl rfl hc0 ?_
             ((conv=>whnf);repeat(first|apply Cs|apply Rs|apply Rx);conv=>whnf)
             refine⟨_,loadK rfl (u5.keep (by omega) W5) rfl hb1,?_⟩;(conv=>whnf);repeat(first|apply Cs|apply Rs|apply Rx);conv=>whnf
             refine⟨_,rfl,fun hc=>?_,fun hc=>?_⟩
             · rw[hc] at fin
               ((conv=>whnf);repeat(first|apply Cs|apply Rs|apply Rx);conv=>whnf)
               refine storeK rfl u5.get rfl rfl rfl (by show 0+j*1+1≤(splice (vals l') (0+j*1) [u8 0]).length;rw[splice_len (by show 0+j*1+1≤(vals l').length;simp[vals];omega)];exact by show 0+j*1+1≤(vals l').length;simp[vals];omega) rfl fun h6 u6=>?_;(conv=>whnf);repeat(first|apply Cs|apply Rs|apply Rx);conv=>whnf
               refine⟨_,addK (b:=1) rfl rfl (by omega),?_⟩;(conv=>whnf);repeat(first|apply Cs|apply Rs|apply Rx);conv=>whnf
               exact⟨(j+1,o',l'.set j (finL A j l'[j])),by simp only;omega,nextIn hjl h6 (by rw[fin];exact Upd.twice (by show 0+j*1+1≤(vals l').length;simp[vals];omega) u5 u6),rfl,rfl,rfl,rfl,rfl,rfl,trivial⟩
             · rw[hc] at fin
               ((conv=>whnf);repeat(first|apply Cs|apply Rs|apply Rx);conv=>whnf)
               refine⟨_,addK (b:=1) rfl rfl (by omega),?_⟩;(conv=>whnf);repeat(first|apply Cs|apply Rs|apply Rx);conv=>whnf
               exact⟨(j+1,o',l'.set j (finL A j l'[j])),by simp only;omega,nextIn hjl h5 (by rw[fin];exact Upd.once (by show 0+j*1+1≤(vals l').length;simp[vals];omega) u5),rfl,rfl,rfl,rfl,rfl,rfl,trivial⟩
           · rw[show (b0 != b1)=false from hc] at fin
             ((conv=>whnf);repeat(first|apply Cs|apply Rs|apply Rx);conv=>whnf)
             refine⟨_,addK (b:=1) rfl rfl (by omega),?_⟩;(conv=>whnf);repeat(first|apply Cs|apply Rs|apply Rx);conv=>whnf
             exact⟨(j+1,o',l'.set j (finL A j l'[j])),by simp only;omega,nextIn hjl h4 (by rw[fin];exact Upd.noop G4.i (vals_at' hjl)),rfl,rfl,rfl,rfl,rfl,rfl,trivial⟩
         · rw[hc] at fin
           rw[hc]
           ((conv=>whnf);repeat(first|apply Cs|apply Rs|apply Rx);conv=>whnf)
           refine⟨false,rfl,(fun hc=>nomatch hc),fun _=>?_⟩;(conv=>whnf);repeat(first|apply Cs|apply Rs|apply Rx);conv=>whnf
           refine⟨_,addK (b:=1) rfl rfl (by omega),?_⟩;(conv=>whnf);repeat(first|apply Cs|apply Rs|apply Rx);conv=>whnf
           exact⟨(j+1,o',l'.set j (finL A j l'[j])),by simp only;omega,nextIn hjl h4 (by rw[fin];exact Upd.noop G4.i (vals_at' hjl)),rfl,rfl,rfl,rfl,rfl,rfl,trivial⟩
       · have hjn:j=l.length:=by have:=ge_of_ltI hc;omega
         have fin:=hfin o'
         ((conv=>whnf);repeat(first|apply Cs|apply Rs|apply Rx);conv=>whnf)
         refine⟨_,rfl,fun hc=>?_,fun hc=>?_⟩
         · rw[hc] at fin
           ((conv=>whnf);repeat(first|apply Cs|apply Rs|apply Rx);conv=>whnf)
           refine indexArrK (j:=0) rfl rfl rfl rfl (by decide) ?_
           ((conv=>whnf);repeat(first|apply Cs|apply Rs|apply Rx);conv=>whnf)
           refine⟨_,loadK rfl W3 rfl rfl,?_⟩;(conv=>whnf);repeat(first|apply Cs|apply Rs|apply Rx);conv=>whnf
           refine⟨.inr (.inr (loadK rfl W3 rfl rfl)),?_⟩;(conv=>whnf);repeat(first|apply Cs|apply Rs|apply Rx);conv=>whnf
           refine indexK rfl rfl rfl rfl hc0 ?_
           ((conv=>whnf);repeat(first|apply Cs|apply Rs|apply Rx);conv=>whnf)
           refine⟨_,loadK rfl W4 rfl hb0,?_⟩;(conv=>whnf);repeat(first|apply Cs|apply Rs|apply Rx);conv=>whnf
           refine⟨.inl rfl,?_⟩;(conv=>whnf);repeat(first|apply Cs|apply Rs|apply Rx);conv=>whnf
           refine indexArrK (j:=1) rfl rfl rfl rfl (by decide) ?_
           ((conv=>whnf);repeat(first|apply Cs|apply Rs|apply Rx);conv=>whnf)
           refine⟨_,loadK rfl W3 rfl rfl,?_⟩;(conv=>whnf);repeat(first|apply Cs|apply Rs|apply Rx);conv=>whnf
           refine⟨.inr (.inr (loadK rfl W3 rfl rfl)),?_⟩;(conv=>whnf);repeat(first|apply Cs|apply Rs|apply Rx);conv=>whnf
           refine indexK rfl rfl rfl rfl hc0 ?_
           ((conv=>whnf);repeat(first|apply Cs|apply Rs|apply Rx);conv=>whnf)
           refine⟨_,loadK rfl W5 rfl hb1,?_⟩;(conv=>whnf);repeat(first|apply Cs|apply Rs|apply Rx);conv=>whnf
           refine⟨.inl rfl,?_⟩;(conv=>whnf);repeat(first|apply Cs|apply Rs|apply Rx);conv=>whnf
           refine⟨_,rfl,fun hc=>?_,fun hc=>?_⟩
           · rw[show (b0 != b1)=true from hc] at fin
             ((conv=>whnf);repeat(first|apply Cs|apply Rs|apply Rx);conv=>whnf)
             refine storeK rfl G4.g rfl rfl rfl (by show 1+1≤3;decide) rfl fun h5 u5=>?_;(conv=>whnf);repeat(first|apply Cs|apply Rs|apply Rx);conv=>whnf
             refine indexArrK (j:=1) rfl rfl rfl rfl (by decide) ?_
             ((conv=>whnf);repeat(first|apply Cs|apply Rs|apply Rx);conv=>whnf)
             refine⟨_,loadK rfl (u5.keep (by omega) W3) rfl rfl,?_⟩;(conv=>whnf);repeat(first|apply Cs|apply Rs|apply Rx);conv=>whnf
             refine indexK rfl rfl rfl rfl hc0 ?_
             ((conv=>whnf);repeat(first|apply Cs|apply Rs|apply Rx);conv=>whnf)
             refine⟨_,loadK rfl (u5.keep (by omega) W5) rfl hb1,?_⟩;(conv=>whnf);repeat(first|apply Cs|apply Rs|apply Rx);conv=>whnf
             refine⟨_,rfl,fun hc=>?_,fun hc=>?_⟩
             · rw[hc] at fin
               ((conv=>whnf);repeat(first|apply Cs|apply Rs|apply Rx);conv=>whnf)
               refine storeK rfl u5.get rfl rfl rfl (by show 1+1≤(splice [u8 k,u8 o',.slice (some ⟨gi,0,none⟩) l'.length l'.length] 1 [u8 0]).length;rw[splice_len (by show 1+1≤3;decide)];exact by show 1+1≤3;decide) rfl fun h6 u6=>?_;(conv=>whnf);repeat(first|apply Cs|apply Rs|apply Rx);conv=>whnf
               refine⟨_,addK (b:=1) rfl rfl (by omega),?_⟩;(conv=>whnf);repeat(first|apply Cs|apply Rs|apply Rx);conv=>whnf
               exact⟨(j+1,finL A j o',l'),by simp only;omega,nextOut hjn h6 (by rw[fin];exact Upd.twice (by show 1+1≤3;decide) u5 u6),rfl,rfl,rfl,rfl,rfl,rfl,trivial⟩
             · rw[hc] at fin
               ((conv=>whnf);repeat(first|apply Cs|apply Rs|apply Rx);conv=>whnf)
               refine⟨_,addK (b:=1) rfl rfl (by omega),?_⟩;(conv=>whnf);repeat(first|apply Cs|apply Rs|apply Rx);conv=>whnf
               exact⟨(j+1,finL A j o',l'),by simp only;omega,nextOut hjn h5 (by rw[fin];exact Upd.once (by show 1+1≤3;decide) u5),rfl,rfl,rfl,rfl,rfl,rfl,trivial⟩
           · rw[show (b0 != b1)=false from hc] at fin
             ((conv=>whnf);repeat(first|apply Cs|apply Rs|apply Rx);conv=>whnf)
             refine⟨_,addK (b:=1) rfl rfl (by omega),?_⟩;(conv=>whnf);repeat(first|apply Cs|apply Rs|apply Rx);conv=>whnf
             exact⟨(j+1,finL A j o',l'),by simp only;omega,nextOut hjn h4 (by rw[fin];exact Upd.noop G4.g (rfl)),rfl,rfl,rfl,rfl,rfl,rfl,trivial⟩
         · rw[hc] at fin
           rw[hc]
           ((conv=>whnf);repeat(first|apply Cs|apply Rs|apply Rx);conv=>whnf)
           refine⟨false,rfl,(fun hc=>nomatch hc),fun _=>?_⟩;(conv=>whnf);repeat(first|apply Cs|apply Rs|apply Rx);conv=>whnf
           refine⟨_,addK (b:=1) rfl rfl (by omega),?_⟩;(conv=>whnf);repeat(first|apply Cs|apply Rs|apply Rx);conv=>whnf
           exact⟨(j+1,finL A j o',l'),by simp only;omega,nextOut hjn h4 (by rw[fin];exact Upd.noop G4.g (rfl)),rfl,rfl,rfl,rfl,rfl,rfl,trivial⟩
     · replace hc:=ge_of_ltI hc
       obtain rfl:j=l.length+1:=by omega
       rw[if_pos (by omega)] at O4
       rw[List.drop_eq_nil_of_le (by omega),List.take_of_length_le (by omega),finGo,List.append_nil] at I4
       ((conv=>whnf);repeat(first|apply Cs|apply Rs|apply Rx);conv=>whnf)
       rw[O4] at G4
       rw[I4] at G4
       exact⟨rfl,G4,S4⟩
end
def methodF (k:Int):Value :=
 if k=1∨k=2∨k=3∨k=4∨k=11 then .func (.func 97) #[] #[]
 else if k=5∨k=6∨k=7∨k=8 then .func (.func 98) #[] #[]
 else if k=9∨k=10 then .func (.func 99) #[] #[]
 else .nilFunc
def methodB (k:Int):Bool:=decide (1≤k∧k≤11)
theorem of_ok {k:Int} (hk:0≤k) {h:Heap}:∃ h',CallD Tryz.prog NG 66 #[u8 k] h (.tuple #[.agg #[methodF k],.bool (methodB k)]) h'∧Ext h h':=by
 suffices q:∃ v h',CallD Tryz.prog NG 66 #[u8 k] h v h'∧(v=.tuple #[.agg #[methodF k],.bool (methodB k)]∧Ext h h') by
  obtain⟨v,h',q1,rfl,q2⟩:=q
  exact⟨h',q1,q2⟩
 rcases kinds hk with rfl|rfl|rfl|rfl|rfl|rfl|rfl|rfl|rfl|rfl|rfl|rfl|rfl|rfl|rfl|rfl|⟨n,rfl⟩
 ·refine fnG hM Tryz.func66 rfl (hP _ _ rfl Tryz.func66) (lbE rfl) ?_;(conv=>whnf);repeat(first|apply Cs|apply Rs|apply Rx);conv=>whnf
  refine NewG.obj (anew_alloc (z:=.agg #[.nilFunc]) (by kernel_rfl) rfl rfl) fun h1 n1=>?_
  ((conv=>whnf);repeat(first|apply Cs|apply Rs|apply Rx);conv=>whnf)
  repeat refine⟨false,rfl,(fun hc=>nomatch hc),fun _=>?_⟩;(conv=>whnf);repeat(first|apply Cs|apply Rs|apply Rx);conv=>whnf
  skip
  refine storeK rfl n1.get rfl rfl rfl (lbE rfl) rfl fun h2 u2=>?_;(conv=>whnf);repeat(first|apply Cs|apply Rs|apply Rx);conv=>whnf
  refine⟨_,resAggK rfl rfl u2.get rfl rfl (lbE rfl) rfl,?_⟩;(conv=>whnf);repeat(first|apply Cs|apply Rs|apply Rx);conv=>whnf
  exact⟨rfl,u2.ext n1.ext (Nat.le_refl _)⟩
 ·refine fnG hM Tryz.func66 rfl (hP _ _ rfl Tryz.func66) (lbE rfl) ?_;(conv=>whnf);repeat(first|apply Cs|apply Rs|apply Rx);conv=>whnf
  refine NewG.obj (anew_alloc (z:=.agg #[.nilFunc]) (by kernel_rfl) rfl rfl) fun h1 n1=>?_
  ((conv=>whnf);repeat(first|apply Cs|apply Rs|apply Rx);conv=>whnf)
  repeat refine⟨true,rfl,fun _=>?_,(fun hc=>nomatch hc)⟩;(conv=>whnf);repeat(first|apply Cs|apply Rs|apply Rx);conv=>whnf
  skip
  refine storeK rfl n1.get rfl rfl rfl (lbE rfl) rfl fun h2 u2=>?_;(conv=>whnf);repeat(first|apply Cs|apply Rs|apply Rx);conv=>whnf
  refine⟨_,resAggK rfl rfl u2.get rfl rfl (lbE rfl) rfl,?_⟩;(conv=>whnf);repeat(first|apply Cs|apply Rs|apply Rx);conv=>whnf
  exact⟨rfl,u2.ext n1.ext (Nat.le_refl _)⟩
 ·refine fnG hM Tryz.func66 rfl (hP _ _ rfl Tryz.func66) (lbE rfl) ?_;(conv=>whnf);repeat(first|apply Cs|apply Rs|apply Rx);conv=>whnf
  refine NewG.obj (anew_alloc (z:=.agg #[.nilFunc]) (by kernel_rfl) rfl rfl) fun h1 n1=>?_
  ((conv=>whnf);repeat(first|apply Cs|apply Rs|apply Rx);conv=>whnf)
  repeat(first|refine⟨true,rfl,fun _=>?_,(fun hc=>nomatch hc)⟩;((conv=>whnf);repeat(first|apply Cs|apply Rs|apply Rx);conv=>whnf) | refine⟨false,rfl,(fun hc=>nomatch hc),fun _=>?_⟩;((conv=>whnf);repeat(first|apply Cs|apply Rs|apply Rx);conv=>whnf))
  skip
  refine storeK rfl n1.get rfl rfl rfl (lbE rfl) rfl fun h2 u2=>?_;(conv=>whnf);repeat(first|apply Cs|apply Rs|apply Rx);conv=>whnf
  refine⟨_,resAggK rfl rfl u2.get rfl rfl (lbE rfl) rfl,?_⟩;(conv=>whnf);repeat(first|apply Cs|apply Rs|apply Rx);conv=>whnf
  exact⟨rfl,u2.ext n1.ext (Nat.le_refl _)⟩
 ·refine fnG hM Tryz.func66 rfl (hP _ _ rfl Tryz.func66) (lbE rfl) ?_;(conv=>whnf);repeat(first|apply Cs|apply Rs|apply Rx);conv=>whnf
  refine NewG.obj (anew_alloc (z:=.agg #[.nilFunc]) (by kernel_rfl) rfl rfl) fun h1 n1=>?_
  ((conv=>whnf);repeat(first|apply Cs|apply Rs|apply Rx);conv=>whnf)
  repeat(first|refine⟨true,rfl,fun _=>?_,(fun hc=>nomatch hc)⟩;((conv=>whnf);repeat(first|apply Cs|apply Rs|apply Rx);conv=>whnf) | refine⟨false,rfl,(fun hc=>nomatch hc),fun _=>?_⟩;((conv=>whnf);repeat(first|apply Cs|apply Rs|apply Rx);conv=>whnf))
  skip
  refine storeK rfl n1.get rfl rfl rfl (lbE rfl) rfl fun h2 u2=>?_;(conv=>whnf);repeat(first|apply Cs|apply Rs|apply Rx);conv=>whnf
  refine⟨_,resAggK rfl rfl u2.get rfl rfl (lbE rfl) rfl,?_⟩;(conv=>whnf);repeat(first|apply Cs|apply Rs|apply Rx);conv=>whnf
  exact⟨rfl,u2.ext n1.ext (Nat.le_refl _)⟩
 ·refine fnG hM Tryz.func66 rfl (hP _ _ rfl Tryz.func66) (lbE rfl) ?_;(conv=>whnf);repeat(first|apply Cs|apply Rs|apply Rx);conv=>whnf
  refine NewG.obj (anew_alloc (z:=.agg #[.nilFunc]) (by kernel_rfl) rfl rfl) fun h1 n1=>?_
  ((conv=>whnf);repeat(first|apply Cs|apply Rs|apply Rx);conv=>whnf)
  repeat(first|refine⟨true,rfl,fun _=>?_,(fun hc=>nomatch hc)⟩;((conv=>whnf);repeat(first|apply Cs|apply Rs|apply Rx);conv=>whnf) | refine⟨false,rfl,(fun hc=>nomatch hc),fun _=>?_⟩;((conv=>whnf);repeat(first|apply Cs|apply Rs|apply Rx);conv=>whnf))
  skip
  refine storeK rfl n1.get rfl rfl rfl (lbE rfl) rfl fun h2 u2=>?_;(conv=>whnf);repeat(first|apply Cs|apply Rs|apply Rx);conv=>whnf
  refine⟨_,resAggK rfl rfl u2.get rfl rfl (lbE rfl) rfl,?_⟩;(conv=>whnf);repeat(first|apply Cs|apply Rs|apply Rx);conv=>whnf
  exact⟨rfl,u2.ext n1.ext (Nat.le_refl _)⟩
 ·refine fnG hM Tryz.func66 rfl (hP _ _ rfl Tryz.func66) (lbE rfl) ?_;(conv=>whnf);repeat(first|apply Cs|apply Rs|apply Rx);conv=>whnf
  refine NewG.obj (anew_alloc (z:=.agg #[.nilFunc]) (by kernel_rfl) rfl rfl) fun h1 n1=>?_
  ((conv=>whnf);repeat(first|apply Cs|apply Rs|apply Rx);conv=>whnf)
  repeat(first|refine⟨true,rfl,fun _=>?_,(fun hc=>nomatch hc)⟩;((conv=>whnf);repeat(first|apply Cs|apply Rs|apply Rx);conv=>whnf) | refine⟨false,rfl,(fun hc=>nomatch hc),fun _=>?_⟩;((conv=>whnf);repeat(first|apply Cs|apply Rs|apply Rx);conv=>whnf))
  skip
  refine storeK rfl n1.get rfl rfl rfl (lbE rfl) rfl fun h2 u2=>?_;(conv=>whnf);repeat(first|apply Cs|apply Rs|apply Rx);conv=>whnf
  refine⟨_,resAggK rfl rfl u2.get rfl rfl (lbE rfl) rfl,?_⟩;(conv=>whnf);repeat(first|apply Cs|apply Rs|apply Rx);conv=>whnf
  exact⟨rfl,u2.ext n1.ext (Nat.le_refl _)⟩
 ·refine fnG hM Tryz.func66 rfl (hP _ _ rfl Tryz.func66) (lbE rfl) ?_;(conv=>whnf);repeat(first|apply Cs|apply Rs|apply Rx);conv=>whnf
  refine NewG.obj (anew_alloc (z:=.agg #[.nilFunc]) (by kernel_rfl) rfl rfl) fun h1 n1=>?_
  ((conv=>whnf);repeat(first|apply Cs|apply Rs|apply Rx);conv=>whnf)
  repeat(first|refine⟨true,rfl,fun _=>?_,(fun hc=>nomatch hc)⟩;((conv=>whnf);repeat(first|apply Cs|apply Rs|apply Rx);conv=>whnf) | refine⟨false,rfl,(fun hc=>nomatch hc),fun _=>?_⟩;((conv=>whnf);repeat(first|apply Cs|apply Rs|apply Rx);conv=>whnf))
  skip
  refine storeK rfl n1.get rfl rfl rfl (lbE rfl) rfl fun h2 u2=>?_;(conv=>whnf);repeat(first|apply Cs|apply Rs|apply Rx);conv=>whnf
  refine⟨_,resAggK rfl rfl u2.get rfl rfl (lbE rfl) rfl,?_⟩;(conv=>whnf);repeat(first|apply Cs|apply Rs|apply Rx);conv=>whnf
  exact⟨rfl,u2.ext n1.ext (Nat.le_refl _)⟩
 ·refine fnG hM Tryz.func66 rfl (hP _ _ rfl Tryz.func66) (lbE rfl) ?_;(conv=>whnf);repeat(first|apply Cs|apply Rs|apply Rx);conv=>whnf
  refine NewG.obj (anew_alloc (z:=.agg #[.nilFunc]) (by kernel_rfl) rfl rfl) fun h1 n1=>?_
  ((conv=>whnf);repeat(first|apply Cs|apply Rs|apply Rx);conv=>whnf)
  repeat(first|refine⟨true,rfl,fun _=>?_,(fun hc=>nomatch hc)⟩;((conv=>whnf);repeat(first|apply Cs|apply Rs|apply Rx);conv=>whnf) | refine⟨false,rfl,(fun hc=>nomatch hc),fun _=>?_⟩;((conv=>whnf);repeat(first|apply Cs|apply Rs|apply Rx);conv=>whnf))
  skip
  refine storeK rfl n1.get rfl rfl rfl (lbE rfl) rfl fun h2 u2=>?_;(conv=>whnf);repeat(first|apply Cs|apply Rs|apply Rx);conv=>whnf
  refine⟨_,resAggK rfl rfl u2.get rfl rfl (lbE rfl) rfl,?_⟩;(conv=>whnf);repeat(first|apply Cs|apply Rs|apply Rx);conv=>whnf
  exact⟨rfl,u2.ext n1.ext (Nat.le_refl _)⟩
 ·refine fnG hM Tryz.func66 rfl (hP _ _ rfl Tryz.func66) (lbE rfl) ?_;(conv=>whnf);repeat(first|apply Cs|apply Rs|apply Rx);conv=>whnf
  refine NewG.obj (anew_alloc (z:=.agg #[.nilFunc]) (by kernel_rfl) rfl rfl) fun h1 n1=>?_
  ((conv=>whnf);repeat(first|apply Cs|apply Rs|apply Rx);conv=>whnf)
  repeat(first|refine⟨true,rfl,fun _=>?_,(fun hc=>nomatch hc)⟩;((conv=>whnf);repeat(first|apply Cs|apply Rs|apply Rx);conv=>whnf) | refine⟨false,rfl,(fun hc=>nomatch hc),fun _=>?_⟩;((conv=>whnf);repeat(first|apply Cs|apply Rs|apply Rx);conv=>whnf))
  skip
  refine storeK rfl n1.get rfl rfl rfl (lbE rfl) rfl fun h2 u2=>?_;(conv=>whnf);repeat(first|apply Cs|apply Rs|apply Rx);conv=>whnf
  refine⟨_,resAggK rfl rfl u2.get rfl rfl (lbE rfl) rfl,?_⟩;(conv=>whnf);repeat(first|apply Cs|apply Rs|apply Rx);conv=>whnf
  exact⟨rfl,u2.ext n1.ext (Nat.le_refl _)⟩
 ·refine fnG hM Tryz.func66 rfl (hP _ _ rfl Tryz.func66) (lbE rfl) ?_;(conv=>whnf);repeat(first|apply Cs|apply Rs|apply Rx);conv=>whnf
  refine NewG.obj (anew_alloc (z:=.agg #[.nilFunc]) (by kernel_rfl) rfl rfl) fun h1 n1=>?_
  ((conv=>whnf);repeat(first|apply Cs|apply Rs|apply Rx);conv=>whnf)
  repeat(first|refine⟨true,rfl,fun _=>?_,(fun hc=>nomatch hc)⟩;((conv=>whnf);repeat(first|apply Cs|apply Rs|apply Rx);conv=>whnf) | refine⟨false,rfl,(fun hc=>nomatch hc),fun _=>?_⟩;((conv=>whnf);repeat(first|apply Cs|apply Rs|apply Rx);conv=>whnf))
  skip
  refine storeK rfl n1.get rfl rfl rfl (lbE rfl) rfl fun h2 u2=>?_;(conv=>whnf);repeat(first|apply Cs|apply Rs|apply Rx);conv=>whnf
  refine⟨_,resAggK rfl rfl u2.get rfl rfl (lbE rfl) rfl,?_⟩;(conv=>whnf);repeat(first|apply Cs|apply Rs|apply Rx);conv=>whnf
  exact⟨rfl,u2.ext n1.ext (Nat.le_refl _)⟩
 ·refine fnG hM Tryz.func66 rfl (hP _ _ rfl Tryz.func66) (lbE rfl) ?_;(conv=>whnf);repeat(first|apply Cs|apply Rs|apply Rx);conv=>whnf
  refine NewG.obj (anew_alloc (z:=.agg #[.nilFunc]) (by kernel_rfl) rfl rfl) fun h1 n1=>?_
  ((conv=>whnf);repeat(first|apply Cs|apply Rs|apply Rx);conv=>whnf)
  repeat(first|refine⟨true,rfl,fun _=>?_,(fun hc=>nomatch hc)⟩;((conv=>whnf);repeat(first|apply Cs|apply Rs|apply Rx);conv=>whnf) | refine⟨false,rfl,(fun hc=>nomatch hc),fun _=>?_⟩;((conv=>whnf);repeat(first|apply Cs|apply Rs|apply Rx);conv=>whnf))
  skip
  refine storeK rfl n1.get rfl rfl rfl (lbE rfl) rfl fun h2 u2=>?_;(conv=>whnf);repeat(first|apply Cs|apply Rs|apply Rx);conv=>whnf
  refine⟨_,resAggK rfl rfl u2.get rfl rfl (lbE rfl) rfl,?_⟩;(conv=>whnf);repeat(first|apply Cs|apply Rs|apply Rx);conv=>whnf
  exact⟨rfl,u2.ext n1.ext (Nat.le_refl _)⟩
 ·refine fnG hM Tryz.func66 rfl (hP _ _ rfl Tryz.func66) (lbE rfl) ?_;(conv=>whnf);repeat(first|apply Cs|apply Rs|apply Rx);conv=>whnf
  refine NewG.obj (anew_alloc (z:=.agg #[.nilFunc]) (by kernel_rfl) rfl rfl) fun h1 n1=>?_
  ((conv=>whnf);repeat(first|apply Cs|apply Rs|apply Rx);conv=>whnf)
  repeat(first|refine⟨true,rfl,fun _=>?_,(fun hc=>nomatch hc)⟩;((conv=>whnf);repeat(first|apply Cs|apply Rs|apply Rx);conv=>whnf) | refine⟨false,rfl,(fun hc=>nomatch hc),fun _=>?_⟩;((conv=>whnf);repeat(first|apply Cs|apply Rs|apply Rx);conv=>whnf))
  skip
  refine storeK rfl n1.get rfl rfl rfl (lbE rfl) rfl fun h2 u2=>?_;(conv=>whnf);repeat(first|apply Cs|apply Rs|apply Rx);conv=>whnf
  refine⟨_,resAggK rfl rfl u2.get rfl rfl (lbE rfl) rfl,?_⟩;(conv=>whnf);repeat(first|apply Cs|apply Rs|apply Rx);conv=>whnf
  exact⟨rfl,u2.ext n1.ext (Nat.le_refl _)⟩
 ·refine fnG hM Tryz.func66 rfl (hP _ _ rfl Tryz.func66) (lbE rfl) ?_;(conv=>whnf);repeat(first|apply Cs|apply Rs|apply Rx);conv=>whnf
  refine NewG.obj (anew_alloc (z:=.agg #[.nilFunc]) (by kernel_rfl) rfl rfl) fun h1 n1=>?_
  ((conv=>whnf);repeat(first|apply Cs|apply Rs|apply Rx);conv=>whnf)
  repeat refine⟨false,rfl,(fun hc=>nomatch hc),fun _=>?_⟩;(conv=>whnf);repeat(first|apply Cs|apply Rs|apply Rx);conv=>whnf
  skip
  refine storeK rfl n1.get rfl rfl rfl (lbE rfl) rfl fun h2 u2=>?_;(conv=>whnf);repeat(first|apply Cs|apply Rs|apply Rx);conv=>whnf
  refine⟨_,resAggK rfl rfl u2.get rfl rfl (lbE rfl) rfl,?_⟩;(conv=>whnf);repeat(first|apply Cs|apply Rs|apply Rx);conv=>whnf
  exact⟨rfl,u2.ext n1.ext (Nat.le_refl _)⟩
 ·refine fnG hM Tryz.func66 rfl (hP _ _ rfl Tryz.func66) (lbE rfl) ?_;(conv=>whnf);repeat(first|apply Cs|apply Rs|apply Rx);conv=>whnf
  refine NewG.obj (anew_alloc (z:=.agg #[.nilFunc]) (by kernel_rfl) rfl rfl) fun h1 n1=>?_
  ((conv=>whnf);repeat(first|apply Cs|apply Rs|apply Rx);conv=>whnf)
  repeat refine⟨false,rfl,(fun hc=>nomatch hc),fun _=>?_⟩;(conv=>whnf);repeat(first|apply Cs|apply Rs|apply Rx);conv=>whnf
  skip
  refine storeK rfl n1.get rfl rfl rfl (lbE rfl) rfl fun h2 u2=>?_;(conv=>whnf);repeat(first|apply Cs|apply Rs|apply Rx);conv=>whnf
  refine⟨_,resAggK rfl rfl u2.get rfl rfl (lbE rfl) rfl,?_⟩;(conv=>whnf);repeat(first|apply Cs|apply Rs|apply Rx);conv=>whnf
  exact⟨rfl,u2.ext n1.ext (Nat.le_refl _)⟩
 ·refine fnG hM Tryz.func66 rfl (hP _ _ rfl Tryz.func66) (lbE rfl) ?_;(conv=>whnf);repeat(first|apply Cs|apply Rs|apply Rx);conv=>whnf
  refine NewG.obj (anew_alloc (z:=.agg #[.nilFunc]) (by kernel_rfl) rfl rfl) fun h1 n1=>?_
  ((conv=>whnf);repeat(first|apply Cs|apply Rs|apply Rx);conv=>whnf)
  repeat refine⟨false,rfl,(fun hc=>nomatch hc),fun _=>?_⟩;(conv=>whnf);repeat(first|apply Cs|apply Rs|apply Rx);conv=>whnf
  skip
  refine storeK rfl n1.get rfl rfl rfl (lbE rfl) rfl fun h2 u2=>?_;(conv=>whnf);repeat(first|apply Cs|apply Rs|apply Rx);conv=>whnf
  refine⟨_,resAggK rfl rfl u2.get rfl rfl (lbE rfl) rfl,?_⟩;(conv=>whnf);repeat(first|apply Cs|apply Rs|apply Rx);conv=>whnf
  exact⟨rfl,u2.ext n1.ext (Nat.le_refl _)⟩
 ·refine fnG hM Tryz.func66 rfl (hP _ _ rfl Tryz.func66) (lbE rfl) ?_;(conv=>whnf);repeat(first|apply Cs|apply Rs|apply Rx);conv=>whnf
  refine NewG.obj (anew_alloc (z:=.agg #[.nilFunc]) (by kernel_rfl) rfl rfl) fun h1 n1=>?_
  ((conv=>whnf);repeat(first|apply Cs|apply Rs|apply Rx);conv=>whnf)
  repeat refine⟨false,rfl,(fun hc=>nomatch hc),fun _=>?_⟩;(conv=>whnf);repeat(first|apply Cs|apply Rs|apply Rx);conv=>whnf
  skip
  refine storeK rfl n1.get rfl rfl rfl (lbE rfl) rfl fun h2 u2=>?_;(conv=>whnf);repeat(first|apply Cs|apply Rs|apply Rx);conv=>whnf
  refine⟨_,resAggK rfl rfl u2.get rfl rfl (lbE rfl) rfl,?_⟩;(conv=>whnf);repeat(first|apply Cs|apply Rs|apply Rx);conv=>whnf
  exact⟨rfl,u2.ext n1.ext (Nat.le_refl _)⟩
 ·have h1:methodF (Int.ofNat (n+16))=.nilFunc:=by unfold methodF;rw[if_neg (by simp only[Int.ofNat_eq_natCast];omega),if_neg (by simp only[Int.ofNat_eq_natCast];omega),if_neg (by simp only[Int.ofNat_eq_natCast];omega)]
  have h2:methodB (Int.ofNat (n+16))=false:=by unfold methodB;exact decide_eq_false (by simp only[Int.ofNat_eq_natCast];omega)
  rw[h1,h2]
  refine fnG hM Tryz.func66 rfl (hP _ _ rfl Tryz.func66) (lbE rfl) ?_;(conv=>whnf);repeat(first|apply Cs|apply Rs|apply Rx);conv=>whnf
  refine NewG.obj (anew_alloc (z:=.agg #[.nilFunc]) (by kernel_rfl) rfl rfl) fun h1 n1=>?_
  ((conv=>whnf);repeat(first|apply Cs|apply Rs|apply Rx);conv=>whnf)
  repeat refine⟨false,rfl,(fun hc=>nomatch hc),fun _=>?_⟩;(conv=>whnf);repeat(first|apply Cs|apply Rs|apply Rx);conv=>whnf
  skip
  refine storeK rfl n1.get rfl rfl rfl (lbE rfl) rfl fun h2 u2=>?_;(conv=>whnf);repeat(first|apply Cs|apply Rs|apply Rx);conv=>whnf
  refine⟨_,resAggK rfl rfl u2.get rfl rfl (lbE rfl) rfl,?_⟩;(conv=>whnf);repeat(first|apply Cs|apply Rs|apply Rx);conv=>whnf
  exact⟨rfl,u2.ext n1.ext (Nat.le_refl _)⟩
def methodL (k o:Int) (l:List Int):Bool×Int×List Int :=
 if k=1∨k=2∨k=3∨k=4∨k=11 then triedL k o l
 else if k=5∨k=6∨k=7∨k=8 then controlledL k o l
 else parityL k o l
theorem known_rows {k:Int}{n:Nat} (hk:k=1∨k=2∨k=3∨k=4∨k=11) (h1:loL k≤n) (h2:(n:Int)≤hiL k):∀ m,m<2 ^ n→evalL k (vecL m n)=0∨evalL k (vecL m n)=1:=by
 rcases hk with rfl|rfl|rfl|rfl|rfl
 ·have:n=0:=by have:hiL 1=0:=rfl;omega
  subst this
  decide
 ·have:n=0:=by have:hiL 2=0:=rfl;omega
  subst this
  decide
 ·have:n=1:=by have:hiL 3=1:=rfl;have:loL 3=1:=rfl;omega
  subst this
  decide
 ·have:n=1:=by have:hiL 4=1:=rfl;have:loL 4=1:=rfl;omega
  subst this
  decide
 ·have:n=3:=by have:hiL 11=3:=rfl;have:loL 11=3:=rfl;omega
  subst this
  decide
def gateL (k o:Int) (l:List Int):Option (Int×List Int) :=
 if methodB k=false then none
 else if (ltI l.length (loL k)||ltI (hiL k) l.length)=true then none
 else if (methodL k (readL o) (l.map readL)).1=true then some (methodL k (readL o) (l.map readL)).2 else none
def methodI (k:Int):Nat :=
 if k=1∨k=2∨k=3∨k=4∨k=11 then 97
 else if k=5∨k=6∨k=7∨k=8 then 98 else 99
theorem methodF_some {k:Int} (h:methodB k=true):methodF k=.func (.func (methodI k)) #[] #[]:=by
 have hk:1≤k∧k≤11:=of_decide_eq_true h
 unfold methodF methodI
 split
 ·rfl
 split
 ·rfl
 rw[if_pos (by omega)]
theorem methodF_none {k:Int} (h:methodB k=false):methodF k=.nilFunc:=by
 have hk:¬ (1≤k∧k≤11):=of_decide_eq_false h
 unfold methodF
 rw[if_neg (by omega),if_neg (by omega),if_neg (by omega)]
theorem vals_len (l:List Int):(vals l).length=l.length:=List.length_map ..
theorem firstOf_vals {h:Heap}{l:List Int}:firstOf h 1 l.length (FL 1 (vals l))=some (vals l):=by
 have e:flatC ((vals l).take l.length)=vals l:=by
  rw[← vals_len l,List.take_length]
  exact flatC_vals l
 show (match vals l with | []=>some [] | _::_=>some (flatC ((vals l).take l.length)))=_
 rw[e]
 cases vals l <;> rfl
theorem copyK {P:Program}{ρ:Operand→Value}{h:Heap}{d:Option Tmp}{ty:TypeId}{pos:String}{af:Array Edge}{gd:Option (Nat×Bool)}{td tx e:TypeId}{x y:Operand}{g n:Nat}{cs vs:List Value}{K:Value→Heap→Prop}
  (ht:P.underlying td=some (.slice e)) (hs:szOf P e=some 1) (hx:ρ x=.slice (some ⟨g,0,none⟩) n n) (hy:lenOf (ρ y)=some n) (hf:firstOf h 1 n (ρ y)=some vs) (hg:h.get g=some (.cells cs false)) (hcs:cs.length=n) (hvs:vs.length=n) (h1:vs.all Value.oneCell'=true)
  (k:∀ h1,Upd h g (.cells vs false) h1→K (goInt n) h1) :
  ∃ (v:Value) (T:Heap→Prop),(∃ h',aeff P ρ { dst:=d,op:=.call { callee:=.builtin .copy,args := #[x,y],argTypes := #[td,tx] },type:=ty,pos:=pos,after:=af,guard:=gd } h=some (v,h')∧T h')∧∀ h1,T h1→K v h1:=by
 refine⟨goInt n,Upd h g (.cells vs false),?_,k⟩
 unfold aeff aeffN
 have hmin:Nat.min n n=n:=Nat.min_self n
 simp only[List.map_cons,List.map_nil,hx,ht,hs,hy,hmin,hf]
 unfold copyAt
 by_cases q:vs=[]
 ·subst q
  have:cs=[]:=List.eq_nil_of_length_eq_zero (by simpa[← hvs] using hcs)
  subst this
  exact⟨h,by simp,Upd.same hg⟩
 ·rw[if_neg q]
  have hp:0<n:=by
   rw[← hvs];exact List.length_pos_iff.2 q
  simp only[hg]
  rw[if_pos ⟨by omega,h1,hp⟩]
  have e2:splice cs 0 vs=vs:=by
   unfold splice
   rw[List.take_zero,List.nil_append,List.drop_eq_nil_of_le (by omega),List.append_nil]
  exact⟨_,rfl,by rw[e2];exact Upd.upd _ (Heap.lt_of_get hg)⟩
section
variable {h:Heap} {a:Option Addr} {cap:Nat} {l:List Int}
theorem method_ok {gg gi:Nat}{k o:Int} (hb:methodB k=true) (hv:Vars h) (ho:0≤o) (hl:∀ x∈l,0≤x) (hn:l.length≤16) (h1:loL k≤l.length) (h2:(l.length:Int)≤hiL k) (G:GateAt h gg gi k o l) :
  ∃ h',CallD Tryz.prog NG (methodI k) #[.pointer (some ⟨gg,0,none⟩)] h (.bool (methodL k o l).1) h'∧GateAt h' gg gi k (methodL k o l).2.1 (methodL k o l).2.2∧GStep h h' gg gi:=by
 have hk:1≤k∧k≤11:=of_decide_eq_true hb
 unfold methodI methodL
 split
 ·rename_i q
  exact tried_ok (by omega) (by omega) hv hn (known_rows q h1 h2) G
 split
 ·exact controlled_ok (by omega) ho hl (by omega) G
 ·exact parity_ok (by omega) ho hl (by omega) G
def GateRes (h h':Heap) (v:Value):Option (Int×List Int)→Prop
 |none=>v=.tuple #[u8 0,.slice none 0 0,.bool false]
 |some (o1,l1)=>∃ gi,h.size≤gi∧v=.tuple #[u8 o1,.slice (some ⟨gi,0,none⟩) l1.length l1.length,.bool true]∧h'.get gi=some (.cells (vals l1) false)
set_option maxHeartbeats 2000000 in
theorem gate_ok {k o:Int} (hk:0≤k) (hk2:k<256) (hv:Vars h) (ho:0≤o) (hl:∀ x∈l,0≤x) (hn:l.length≤16) :
  ∃ v h',CallD Tryz.prog NG 36 #[u8 k,u8 o,FL 1 (vals l)] h v h'∧(Ext h h'∧GateRes h h' v (gateL k o l)):=by
 generalize hR:gateL k o l=R
 unfold gateL at hR
 refine fnG hM Tryz.func36 rfl (hP _ _ rfl Tryz.func36) (lbE rfl) ?_;(conv=>whnf);repeat(first|apply Cs|apply Rs|apply Rx);conv=>whnf
 obtain⟨h1,c1,E1⟩:=of_ok hk (h:=h)
 cases hb:methodB k with
 |false =>
  rw[methodF_none hb,hb] at c1
  rw[if_pos hb] at hR
  refine⟨_,h1,c1,?_⟩
  ((conv=>whnf);repeat(first|apply Cs|apply Rs|apply Rx);conv=>whnf)
  (first|refine⟨_,_,anew_alloc (z:=.agg #[.nilFunc]) (by kernel_rfl) rfl rfl,fun h2 n2=>?_⟩|refine NewG.obj (anew_alloc (z:=.agg #[.nilFunc]) (by kernel_rfl) rfl rfl) fun h2 n2=>?_);(conv=>whnf);repeat(first|apply Cs|apply Rs|apply Rx);conv=>whnf
  refine storeK rfl n2.get rfl rfl rfl (lbE rfl) rfl fun h3 u3=>?_;(conv=>whnf);repeat(first|apply Cs|apply Rs|apply Rx);conv=>whnf
  refine⟨true,rfl,fun _=>?_,(fun hc=>nomatch hc)⟩;(conv=>whnf);repeat(first|apply Cs|apply Rs|apply Rx);conv=>whnf
  subst hR
  exact⟨u3.ext (n2.exts E1) E1.1,rfl⟩
 |true =>
  rw[methodF_some hb,hb] at c1
  rw[if_neg (by rw[hb];simp)] at hR
  refine⟨_,h1,c1,?_⟩
  ((conv=>whnf);repeat(first|apply Cs|apply Rs|apply Rx);conv=>whnf)
  (first|refine⟨_,_,anew_alloc (z:=.agg #[.nilFunc]) (by kernel_rfl) rfl rfl,fun h2 n2=>?_⟩|refine NewG.obj (anew_alloc (z:=.agg #[.nilFunc]) (by kernel_rfl) rfl rfl) fun h2 n2=>?_);(conv=>whnf);repeat(first|apply Cs|apply Rs|apply Rx);conv=>whnf
  refine storeK rfl n2.get rfl rfl rfl (lbE rfl) rfl fun h3 u3=>?_;(conv=>whnf);repeat(first|apply Cs|apply Rs|apply Rx);conv=>whnf
  have E3:Ext h h3:=u3.ext (n2.exts E1) E1.1
  have F3:h3.get h1.size=some (.cells [.func (.func (methodI k)) #[] #[]] false):=u3.get
  have hv3:=hv.ext E3
  have hz:=(Heap.lt_of_get F3)
  refine⟨false,rfl,(fun hc=>nomatch hc),fun _=>?_⟩;(conv=>whnf);repeat(first|apply Cs|apply Rs|apply Rx);conv=>whnf
  refine⟨_,_,fanin_ok hk hk2 hv3,?_⟩;(conv=>whnf);repeat(first|apply Cs|apply Rs|apply Rx);conv=>whnf
  rw[vals_len]
  refine⟨_,rfl,fun hc=>?_,fun hc=>?_⟩
  · rw[if_pos (by rw[show ltI (↑l.length) (loL k)=true from hc];rfl)] at hR
    rw[hc]
    ((conv=>whnf);repeat(first|apply Cs|apply Rs|apply Rx);conv=>whnf)
    refine⟨true,rfl,fun _=>?_,(fun hc=>nomatch hc)⟩;(conv=>whnf);repeat(first|apply Cs|apply Rs|apply Rx);conv=>whnf
    subst hR
    exact⟨E3,rfl⟩
  have hlo:=hc
  rw[hc]
  ((conv=>whnf);repeat(first|apply Cs|apply Rs|apply Rx);conv=>whnf)
  rw[vals_len]
  refine⟨_,rfl,fun hc=>?_,fun hc=>?_⟩
  · rw[if_pos (by rw[show ltI (hiL k) (↑l.length)=true from hc];simp)] at hR
    ((conv=>whnf);repeat(first|apply Cs|apply Rs|apply Rx);conv=>whnf)
    subst hR
    exact⟨E3,rfl⟩
  rw[if_neg (by rw[show ltI (↑l.length) (loL k)=false from hlo,show ltI (hiL k) (↑l.length)=false from hc];simp)] at hR
  have hhi:=hc
  ((conv=>whnf);repeat(first|apply Cs|apply Rs|apply Rx);conv=>whnf)
  refine⟨_,_,read_ok ho,?_⟩;(conv=>whnf);repeat(first|apply Cs|apply Rs|apply Rx);conv=>whnf
  refine⟨.inl (Ext.refl _),?_⟩;(conv=>whnf);repeat(first|apply Cs|apply Rs|apply Rx);conv=>whnf
  rw[vals_len]
  (first|refine⟨_,_,makeK (b:=1) rfl rfl rfl rfl rfl rfl rfl rfl (by omega) (by omega),fun h4 n4=>?_⟩|refine NewG.obj (makeK (b:=1) rfl rfl rfl rfl rfl rfl rfl rfl (by omega) (by omega)) fun h4 n4=>?_);(conv=>whnf);repeat(first|apply Cs|apply Rs|apply Rx);conv=>whnf
  skip
  (first|refine⟨_,_,boxK rfl,fun h5 n5=>?_⟩|refine NewG.obj (boxK rfl) fun h5 n5=>?_);(conv=>whnf);repeat(first|apply Cs|apply Rs|apply Rx);conv=>whnf
  have g5:h5.get h4.size=some (.cells [u8 k,u8 (readL o),.slice (some ⟨h3.size,0,none⟩) l.length l.length] false):=n5.get
  refine⟨_,loadK rfl g5 rfl rfl,?_⟩;(conv=>whnf);repeat(first|apply Cs|apply Rs|apply Rx);conv=>whnf
  have E5:Ext h h5:=n5.exts (n4.exts E3)
  have b5:h5.get h3.size=some (.cells (List.replicate l.length (u8 0)) false):=n5.keep n4.get
  refine copyK rfl rfl rfl (congrArg some (vals_len l)) firstOf_vals b5 (by simp) (by simp[vals]) (by simp[vals,u8,Value.oneCell']) fun h6 u6=>?_;(conv=>whnf);repeat(first|apply Cs|apply Rs|apply Rx);conv=>whnf
  have s4:=n4.size
  have s5:=n5.size
  have s6:=u6.size
  have G6:GateAt h6 h4.size h3.size k (readL o) l:=⟨u6.keep (by omega) g5,u6.get,by omega⟩
  have E6:Ext h h6:=u6.ext E5 E3.1
  have F6:h6.get h1.size=some (.cells [.func (.func (methodI k)) #[] #[]] false):=u6.keep (by omega) (n5.keep (n4.keep F3))
  refine⟨_,loadK rfl G6.g rfl rfl,?_⟩;(conv=>whnf);repeat(first|apply Cs|apply Rs|apply Rx);conv=>whnf
  refine loopG (σ:=List Int×List Int) (nn:=87) hM (by kernel_rfl)
    (fun (d,r) h7=>GateAt h7 h4.size h3.size k (readL o) (d.map readL++r)∧GStep h6 h7 h4.size h3.size∧d++r=l)
    (fun (d,_)=>[(9,.pointer (some ⟨h1.size,0,none⟩)),(13,.pointer (some ⟨h4.size,0,none⟩)),(55,.int .i64 (Int.ofNat l.length)),(56,.int .i64 (Int.ofNat d.length))]) (fun (_,r)=>r.length) rfl
    ⟨([],l),⟨G6,GStep.refl _ _ _,rfl⟩,rfl,rfl,rfl,rfl,trivial⟩ ?_
  rintro⟨d,r⟩ base h7 ⟨G7,S7,L7⟩
  have hdl:(d.map readL++r).length=l.length:=by rw[← L7];simp
  ((conv=>whnf);repeat(first|apply Cs|apply Rs|apply Rx);conv=>whnf)
  refine⟨_,rfl,fun hc=>?_,fun hc=>?_⟩
  · replace hc:=lt_of_ltI hc
    cases r with
    | nil=>simp at L7;subst L7;omega
    | cons x r =>
      have hx0:0≤x:=hl x (by rw[← L7];simp)
      have hat:=vals_at (d.map readL) r x
      rw[List.length_map] at hat
      ((conv=>whnf);repeat(first|apply Cs|apply Rs|apply Rx);conv=>whnf)
      refine⟨_,loadK rfl G7.g rfl rfl,?_⟩;(conv=>whnf);repeat(first|apply Cs|apply Rs|apply Rx);conv=>whnf
      refine⟨.inr (.inr (loadK rfl G7.g rfl rfl)),?_⟩;(conv=>whnf);repeat(first|apply Cs|apply Rs|apply Rx);conv=>whnf
      refine⟨_,loadK rfl G7.g rfl rfl,?_⟩;(conv=>whnf);repeat(first|apply Cs|apply Rs|apply Rx);conv=>whnf
      refine⟨.inr (.inr (loadK rfl G7.g rfl rfl)),?_⟩;(conv=>whnf);repeat(first|apply Cs|apply Rs|apply Rx);conv=>whnf
      refine indexK rfl rfl rfl rfl (by rw[hdl];exact hc) ?_
      ((conv=>whnf);repeat(first|apply Cs|apply Rs|apply Rx);conv=>whnf)
      refine⟨_,loadK rfl G7.i rfl hat,?_⟩;(conv=>whnf);repeat(first|apply Cs|apply Rs|apply Rx);conv=>whnf
      refine⟨.inl rfl,?_⟩;(conv=>whnf);repeat(first|apply Cs|apply Rs|apply Rx);conv=>whnf
      refine⟨_,_,read_ok hx0,?_⟩;(conv=>whnf);repeat(first|apply Cs|apply Rs|apply Rx);conv=>whnf
      refine⟨.inl (Ext.refl _),?_⟩;(conv=>whnf);repeat(first|apply Cs|apply Rs|apply Rx);conv=>whnf
      refine indexK rfl rfl rfl rfl (by rw[hdl];exact hc) ?_
      ((conv=>whnf);repeat(first|apply Cs|apply Rs|apply Rx);conv=>whnf)
      refine storeK rfl G7.i rfl rfl rfl (by show 0+d.length*1+1≤(vals (d.map readL++x::r)).length;simp[vals]) rfl fun h8 u8'=>?_;(conv=>whnf);repeat(first|apply Cs|apply Rs|apply Rx);conv=>whnf
      refine⟨.inl (by kernel_rfl),?_⟩;(conv=>whnf);repeat(first|apply Cs|apply Rs|apply Rx);conv=>whnf
      have hset:=vals_set (d.map readL) r x (readL x)
      rw[List.length_map] at hset
      have u8'':Upd h7 h3.size (.cells (vals (d.map readL++readL x::r)) false) h8:=by
        rw[← hset,← splice_set (by simp[vals])]
        exact u8'
      obtain⟨G8,S8⟩:=G7.inp (l1:=d.map readL++readL x::r) (by simp) u8''
      refine⟨_,addK (b:=1) rfl rfl (by omega),?_⟩;(conv=>whnf);repeat(first|apply Cs|apply Rs|apply Rx);conv=>whnf
      exact⟨(d++[x],r),by simp,⟨by simpa using G8,S7.trans S8,by simpa using L7⟩,rfl,rfl,rfl,by simp;rfl,trivial⟩
  · replace hc:=ge_of_ltI hc
    cases r with
    | cons x r=>have:=congrArg List.length L7;simp at this;omega
    | nil =>
      rw[List.append_nil] at L7
      subst L7
      rw[List.append_nil] at G7
      have F7:=S7.get F6 (by omega) (by omega)
      have hr0:0≤readL o:=readL_nonneg ho
      have hE3:=E3.1
      have hE6:=E6.1
      have toExt:∀ h9,GStep h6 h9 h4.size h3.size→Ext h h9:=fun h9 S=>⟨Nat.le_trans hE6 S.size,fun g hg=>by rw[S.other g (by omega) (by omega) (by omega)];exact E6.2 g hg⟩
      have hlo2:loL k≤(d.map readL).length:=by rw[List.length_map];exact ge_of_ltI' hlo
      have hhi2:((d.map readL).length:Int)≤hiL k:=by rw[List.length_map];exact ge_of_ltI' hhi
      obtain⟨h8,c8,G8,S8⟩:=method_ok hb (hv.ext (toExt h7 S7)) hr0 (by intro x hx;obtain⟨y,hy,rfl⟩:=List.mem_map.1 hx;exact readL_nonneg (hl y hy)) (by simpa using hn) hlo2 hhi2 G7
      generalize methodL k (readL o) (d.map readL)=M at c8 G8 hR
      obtain⟨b,o1,l1⟩:=M
      simp only at c8 G8 hR
      ((conv=>whnf);repeat(first|apply Cs|apply Rs|apply Rx);conv=>whnf)
      refine⟨_,loadK rfl F7 rfl rfl,?_⟩;(conv=>whnf);repeat(first|apply Cs|apply Rs|apply Rx);conv=>whnf
      refine⟨_,h8,c8,?_⟩
      ((conv=>whnf);repeat(first|apply Cs|apply Rs|apply Rx);conv=>whnf)
      cases b with
      | false =>
        refine⟨true,rfl,fun _=>?_,(fun hc=>nomatch hc)⟩;(conv=>whnf);repeat(first|apply Cs|apply Rs|apply Rx);conv=>whnf
        subst hR
        exact⟨toExt h8 (S7.trans S8),rfl⟩
      | true =>
        refine⟨false,rfl,(fun hc=>nomatch hc),fun _=>?_⟩;(conv=>whnf);repeat(first|apply Cs|apply Rs|apply Rx);conv=>whnf
        refine⟨_,loadK rfl G8.g rfl rfl,?_⟩;(conv=>whnf);repeat(first|apply Cs|apply Rs|apply Rx);conv=>whnf
        refine⟨.inl rfl,?_⟩;(conv=>whnf);repeat(first|apply Cs|apply Rs|apply Rx);conv=>whnf
        refine⟨_,loadK rfl G8.g rfl rfl,?_⟩;(conv=>whnf);repeat(first|apply Cs|apply Rs|apply Rx);conv=>whnf
        refine⟨.inr (.inr (loadK rfl G8.g rfl rfl)),?_⟩;(conv=>whnf);repeat(first|apply Cs|apply Rs|apply Rx);conv=>whnf
        subst hR
        exact⟨toExt h8 (S7.trans S8),h3.size,hE3,rfl,G8.i⟩
end
theorem fzVars:∀ o∈vars,o.fz=o:=by
 intro o m
 simp only[vars,List.mem_cons,List.not_mem_nil,or_false] at m
 rcases m with rfl|rfl <;> rfl
theorem hasVars {h:Heap} (b:HasB vars h):Vars h:=b 0 _ rfl
theorem hasSize {h:Heap} (b:HasB vars h):NG≤h.size:=Heap.lt_of_get (b 1 _ rfl)
theorem pure_vals (l:List Int):PureV (FL 1 (vals l)):=PureV.ints
def gateVal:Option (Int×List Int)→Value
 |none=>.tuple #[u8 0,.slice none 0 0,.bool false]
 |some (o,l)=>.tuple #[u8 o,FL 1 (vals l),.bool true]
theorem gate_fn {k o:Int}{l:List Int} (hk:0≤k) (hk2:k<256) (ho:0≤o) (hl:∀ x∈l,0≤x) (hn:l.length≤16):FnV Tryz.prog NG vars 36 #[u8 k,u8 o,FL 1 (vals l)] (gateVal (gateL k o l)):=by
 have hp:PureV (gateVal (gateL k o l)):=by
  cases gateL k o l with
  |none=>exact PureV.flatB rfl
  |some q=>exact PureV.tup (AllPure.cons (PureV.flat rfl) (AllPure.cons (pure_vals _) (AllPure.cons (PureV.flat rfl) AllPure.nil)))
 refine⟨hp,fun h b=>?_⟩
 obtain⟨v,h',c,E,R⟩:=gate_ok hk hk2 (hasVars b) ho hl hn
 refine c.values E hp (fun h2 F=>?_) (by kernel_rfl)
 generalize gateL k o l=g at R
 cases g with
 |none =>
  have R:v=_:=R
  rw[R]
  exact VLe.refl _ _
 |some q =>
  obtain⟨gi,h1,h2,h3⟩:=R
  rw[h2]
  refine VLe.tup (LLe.cons (VLe.refl _ _) (LLe.cons (VLe.fl (F.at h1 h3) (vals_len _).symm (fun e m=>?_) (by rw[vals_len];omega) ?_) (LLe.cons (VLe.refl _ _) (LLe.nil _))))
  ·obtain⟨a,_,rfl⟩:=List.mem_map.1 m
   rfl
  ·rw[flatC_vals,List.drop_zero,← vals_len,Nat.mul_one,List.take_length]
   exact LLe.refl _ _
structure Node where
 kind:Nat
 ins:List Nat
 mem:Nat
 bit:Nat
structure Memo where
 addr:List Nat
 data:List Nat
 write:Nat
structure Circ where
 nodes:List Node
 names:List ByteArray
 mems:List Memo
 outs:List Nat
def encNode (x:Node):Value:=.agg ⟨[u8 (Int.ofNat x.kind),FL 1 (x.ins.map i64),i64 x.mem,i64 x.bit]⟩
def encMem (m:Memo):Value:=.agg ⟨[FL 1 (m.addr.map i64),FL 1 (m.data.map i64),i64 m.write]⟩
def encCirc (c:Circ):Value:=.agg ⟨[FL 4 (c.nodes.map encNode),FL 1 (c.names.map .string),FL 3 (c.mems.map encMem),FL 1 (c.outs.map i64)]⟩
theorem pure_nats (l:List Nat):PureV (FL 1 (l.map i64)):=PureV.list fun _=>AllPure.cons (PureV.flat rfl) AllPure.nil
theorem pure_nodeC (x:Node):AllPure (cl (encNode x)):=AllPure.cons (PureV.flat rfl) (AllPure.cons (pure_nats _) (AllPure.cons (PureV.flat rfl) (AllPure.cons (PureV.flat rfl) AllPure.nil)))
theorem pure_memC (m:Memo):AllPure (cl (encMem m)):=AllPure.cons (pure_nats _) (AllPure.cons (pure_nats _) (AllPure.cons (PureV.flat rfl) AllPure.nil))
theorem pure_circC (c:Circ):AllPure (cl (encCirc c)) :=
 AllPure.cons (PureV.list pure_nodeC) (AllPure.cons (PureV.list fun _=>AllPure.cons (PureV.flat rfl) AllPure.nil) (AllPure.cons (PureV.list pure_memC) (AllPure.cons (pure_nats _) AllPure.nil)))
theorem pure_circ (c:Circ):PureV (encCirc c):=PureV.agg (pure_circC c)
structure GData where
 kind:Nat
 a:Nat
 b:Nat
 d:Nat
structure CData where
 inp:Nat
 dffs:Nat
 data0:Nat
 data1:Nat
 bus:Bool
 mem:Bool
 port0:Nat
 port1:Nat
 port2:Nat
 port3:Nat
 gates:List GData
 outs:List Nat
def encG (g:GData):Value:=.agg ⟨[u8 (Int.ofNat g.kind),u8 (Int.ofNat g.a),u8 (Int.ofNat g.b),u8 (Int.ofNat g.d)]⟩
def encC (x:CData):Value:=.agg ⟨[n8 x.inp,n8 x.dffs,n8 x.data0,n8 x.data1,.bool x.bus,.bool x.mem,n8 x.port0,n8 x.port1,n8 x.port2,n8 x.port3,FL 4 (x.gates.map encG),FL 1 (x.outs.map n8)]⟩
structure GOk (g:GData):Prop where
 kind:g.kind<256
 a:g.a<256
 b:g.b<256
 d:g.d<256
structure COk (x:CData):Prop where
 inp:x.inp<256
 dffs:x.dffs<256
 data0:x.data0<256
 data1:x.data1<256
 port0:x.port0<256
 port1:x.port1<256
 port2:x.port2<256
 port3:x.port3<256
 gates:∀ g∈x.gates,GOk g
 outs:∀ o∈x.outs,o<256
 gatesLen:x.gates.length<2 ^ 62
 outsLen:x.outs.length<2 ^ 62
def loN (k:Nat):Nat:=(loL (Int.ofNat k)).toNat
def hiZ (k:Nat):Int:=hiL (Int.ofNat k)
theorem loN_eq (k:Nat):Int.ofNat (loN k)=loL (Int.ofNat k):=by
 unfold loN
 have:0≤loL (Int.ofNat k):=by
  rcases kinds (k:=Int.ofNat k) (Int.natCast_nonneg k) with h|h|h|h|h|h|h|h|h|h|h|h|h|h|h|h|⟨n,h⟩ <;> rw[h]
  iterate 16 decide
  rw[loL_big];decide
 exact Int.toNat_of_nonneg this
def logic_Fanin_wp (k:Nat) (K:Nat×Int→Prop):Prop:=k<256∧K (loN k,hiZ k)
theorem logic_Fanin_walk {k:Nat}{K:Nat×Int→Prop} (hm:logic_Fanin_wp k K) {h0:Heap} (hB:HasB vars h0):∃ r,K r∧CallD Tryz.prog NG 67 ⟨[n8 k]⟩ h0 ((fun r=>Value.tuple ⟨[i64 r.1,z64 r.2]⟩) r) h0:=by
 refine⟨_,hm.2,?_⟩
 have:=fanin_ok (k:=Int.ofNat k) (Int.natCast_nonneg k) (by have:=hm.1;simp only[Int.ofNat_eq_natCast];omega) (hasVars hB)
 rw[← loN_eq] at this
 exact this
structure Ln where
 node:Nat
 pin:Nat
def encLn (x:Ln):Value:=.agg ⟨[i64 x.node,i64 x.pin]⟩
theorem pure_lnC (x:Ln):AllPure (cl (encLn x)):=AllPure.cons (PureV.flat rfl) (AllPure.cons (PureV.flat rfl) AllPure.nil)
def NamesOk (c:Circ):Prop:=FnV Tryz.prog NG vars 129 ⟨[encCirc c]⟩ (i64 0)
def netlists_names_wp (c:Circ) (K:Nat→Prop):Prop:=NamesOk c∧K 0
theorem netlists_names_walk {c:Circ}{K:Nat→Prop} (hm:netlists_names_wp c K) {h0:Heap} (hB:HasB vars h0):∃ r,K r∧CallD Tryz.prog NG 129 ⟨[encCirc c]⟩ h0 (i64 r) h0:=FnV.walk hm.1 hm.2 hB
def fanNode (n i:Nat) (ins:List Nat):List Ln:=(ins.zipIdx.filter fun p=>p.1==n).map fun p=>⟨i,p.2⟩
def fanL (c:Circ):List (List Ln):=(List.range c.nodes.length).map fun n=>c.nodes.zipIdx.flatMap fun p=>fanNode n p.2 p.1.ins
def FanOk (c:Circ):Prop:=FnV Tryz.prog NG vars 41 ⟨[encCirc c]⟩ (encL 1 (encL 2 encLn) (fanL c))
def netlists_Fanout_wp (c:Circ) (K:List (List Ln)→Prop):Prop:=FanOk c∧K (fanL c)
theorem netlists_Fanout_walk {c:Circ}{K:List (List Ln)→Prop} (hm:netlists_Fanout_wp c K) {h0:Heap} (hB:HasB vars h0):∃ r,K r∧CallD Tryz.prog NG 41 ⟨[encCirc c]⟩ h0 ((encL 1 (encL 2 encLn)) r) h0:=FnV.walk hm.1 hm.2 hB
def IsNm (s:ByteArray):Prop:=FnV Tryz.prog NG vars 142 ⟨[.string s]⟩ (.bool true)
def netlists_IsName_wp (s:ByteArray) (K:Bool→Prop):Prop:=IsNm s∧K true
theorem netlists_IsName_walk {s:ByteArray}{K:Bool→Prop} (hm:netlists_IsName_wp s K) {h0:Heap} (hB:HasB vars h0):∃ r,K r∧CallD Tryz.prog NG 142 ⟨[Value.string s]⟩ h0 (Value.bool r) h0:=FnV.walk (enc:=Value.bool) hm.1 hm.2 hB
inductive PL (h:Heap):List Value→List Value→Prop
 |nil:PL h [] []
 |cons {a b:Value} {l m:List Value}:LLe h (cl a) (cl b)→PL h l m→PL h (a::l) (b::m)
theorem PL.refl (h:Heap):∀ l:List Value,PL h l l
 |[]=>.nil
 |_a::l=>.cons (LLe.refl h _) (PL.refl h l)
theorem PL.set {h:Heap}{l m:List Value} (p:PL h l m) {a b:Value} (ab:LLe h (cl a) (cl b)):∀ i,PL h (l.set i a) (m.set i b):=by
 induction p with
 |nil=>intro i;exact .nil
 |cons e _ ih =>
  intro i
  cases i with
  |zero=>exact .cons ab ‹_›
  |succ i=>exact .cons e (ih i)
theorem LLe.app {h:Heap}:∀ {a b:List Value}{c d:List Value},LLe h a b→LLe h c d→LLe h (a++c) (b++d)
 |[],[],_,_,_,q=>q
 |[],_::_,_,_,p,_=>by have:=p.1;simp at this
 |_::_,[],_,_,p,_=>by have:=p.1;simp at this
 |x::a,y::b,c,d,p,q=>by
  have h0:=p.get (i:=0) (x:=x) (y:=y) rfl rfl
  have h1:LLe h a b:=⟨by have:=p.1;simpa using this,fun i=>by have:=p.2 (i+1);simpa using this⟩
  exact LLe.cons h0 (LLe.app h1 q)
theorem PL.flat {h:Heap}{l m:List Value} (p:PL h l m):LLe h (flatC l) (flatC m):=by
 induction p with
 |nil=>exact LLe.refl _ _
 |cons e _ ih=>rw[flatC_cons,flatC_cons];exact LLe.app e ih
def gateR (k o:Nat) (l:List Nat):Nat×List Nat×Bool:=match gateL (Int.ofNat k) (Int.ofNat o) (l.map Int.ofNat) with
 |none=>(0,[],false)
 |some (v,r)=>(v.toNat,r.map Int.toNat,true)
def GateOk (k o:Nat) (l:List Nat):Prop:=∀ v r,gateL (Int.ofNat k) (Int.ofNat o) (l.map Int.ofNat)=some (v,r)→0≤v∧∀ x∈r,0≤x
def implies_Gate_wp (k o:Nat) (l:List Nat) (K:Nat×List Nat×Bool→Prop):Prop:=k<256∧l.length≤16∧GateOk k o l∧K (gateR k o l)
theorem implies_Gate_walk {k o:Nat}{l:List Nat}{K:Nat×List Nat×Bool→Prop} (hm:implies_Gate_wp k o l K) {h0:Heap} (hB:HasB vars h0):∃ r,K r∧CallD Tryz.prog NG 36 ⟨[n8 k,n8 o,encL 1 n8 l]⟩ h0 ((fun r=>Value.tuple ⟨[n8 r.1,encL 1 n8 r.2.1,Value.bool r.2.2]⟩) r) h0:=by
 obtain⟨h1,h2,h3,hm⟩:=hm
 have F:=gate_fn (k:=Int.ofNat k) (o:=Int.ofNat o) (l:=l.map Int.ofNat) (Int.natCast_nonneg k) (by simp only[Int.ofNat_eq_natCast];omega) (Int.natCast_nonneg o) (by intro x m;obtain⟨a,_,rfl⟩:=List.mem_map.1 m;exact Int.natCast_nonneg a) (by rw[List.length_map];exact h2)
 have e1:FL 1 (vals (l.map Int.ofNat))=encL 1 n8 l:=by unfold vals encL;rw[List.map_map];rfl
 rw[e1] at F
 unfold GateOk at h3
 unfold gateR at hm
 generalize gateL (Int.ofNat k) (Int.ofNat o) (l.map Int.ofNat)=q at F h3 hm
 cases q with
 |none =>
  refine⟨_,hm,?_⟩
  have c:=F.call h0 hB
  exact c.values (Ext.refl _) (PureV.tup (AllPure.cons (PureV.flat rfl) (AllPure.cons (pureL fun _=>AllPure.cons (PureV.flat rfl) AllPure.nil) (AllPure.cons (PureV.flat rfl) AllPure.nil)))) (fun h2 _=>VLe.tup (LLe.cons (VLe.refl _ _) (LLe.cons (VLe.nil _ _) (LLe.cons (VLe.refl _ _) (LLe.nil _))))) (by kernel_rfl)
 |some q =>
  obtain⟨v,r⟩:=q
  obtain⟨g1,g2⟩:=h3 v r rfl
  refine⟨_,hm,?_⟩
  have c:=F.call h0 hB
  have e2:u8 v=n8 v.toNat:=by unfold u8 n8;rw[show Int.ofNat v.toNat=v from Int.toNat_of_nonneg g1]
  have e3:FL 1 (vals r)=encL 1 n8 (r.map Int.toNat):=by
   unfold vals encL
   rw[List.map_map]
   congr 1
   refine List.map_congr_left fun x m=>?_
   show Value.int .u8 x=Value.int .u8 (Int.ofNat x.toNat)
   rw[show Int.ofNat x.toNat=x from Int.toNat_of_nonneg (g2 x m)]
  simp only[gateVal,e2,e3] at c
  exact c
structure Asg where
 net:Nat
 value:Nat
def encAsg (x:Asg):Value:=.agg ⟨[i64 x.net,n8 x.value]⟩
theorem pure_asgC (x:Asg):AllPure (cl (encAsg x)):=AllPure.cons (PureV.flat rfl) (AllPure.cons (PureV.flat rfl) AllPure.nil)
theorem pure_asg (x:Asg):PureV (encAsg x):=PureV.agg (pure_asgC x)
structure U2 where
 a:Nat
 b:Nat
end Go.Proofs.YteanlacbmiiloaaGreatDoor
