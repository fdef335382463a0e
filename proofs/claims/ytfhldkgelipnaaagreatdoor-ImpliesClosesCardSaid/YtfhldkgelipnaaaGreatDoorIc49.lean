/-
  Pj3, Pj4, ImpliesCloses: parts of the proof.
-/
import Derived.Test.YtfhldkgelipnaaaGreatDoorIc48
namespace Go.Proofs.YtfhldkgelipnaaaGreatDoor
open Go.Abs
set_option maxRecDepth 100000
structure CL (c:Circ) (given:List Asg) (w:List Nat):Prop where
 len:w.length=c.nodes.length
 le:∀ i,w.getD i 0≤2
 ext:Ext given w
 snd:∀ t,CW c given t→∀ i,Blw (w.getD i 0) (t.getD i 0)
theorem CL.set {c:Circ}{given:List Asg}{w:List Nat} (C:CL c given w) (hg:∀ a∈given,a.net<c.nodes.length∧a.value≤1) {y x:Nat} (hy:y<c.nodes.length) (h2:w.getD y 0=2) (hx:x≤2) (hs:∀ t,CW c given t→Blw x (t.getD y 0)):CL c given (w.set y x):=by
 have hyl:y<w.length:=by rw[C.len];exact hy
 refine⟨by rw[List.length_set];exact C.len,fun i=>?_,fun a m=>?_,fun t ht i=>?_⟩
 ·rw[getD_set hyl];split
  ·exact hx
  ·exact C.le i
 ·rw[getD_set hyl]
  by_cases e:y=a.net
  ·have e1:=C.ext a m
   rw[← e,h2] at e1
   have:=(hg a m).2
   omega
  ·rw[if_neg e];exact C.ext a m
 ·rw[getD_set hyl]
  by_cases e:y=i
  ·subst e;rw[if_pos rfl];exact hs t ht
  ·rw[if_neg e];exact C.snd t ht i
theorem app_get {α:Type}{l:List α}{x:α}{i:Nat} (h:i<l.length+1):(([]++l)++[x])[i]?=some (if h:i<l.length then l[i] else x):=by
 rw[List.nil_append]
 by_cases e:i<l.length
 ·rw[List.getElem?_append_left e,dif_pos e,List.getElem?_eq_getElem e]
 ·have:i=l.length:=by omega
  subst this
  rw[List.getElem?_append_right (Nat.le_refl _),dif_neg e,Nat.sub_self]
  rfl
structure RD (c:Circ) (given:List Asg) (w0 w:List Nat) (a:Bool) (done:Prop):Prop where
 cl:CL c given w
 cnt:a=true→w.count 2<w0.count 2
 same:a=false→w=w0∧done
theorem RD.put {c:Circ}{given:List Asg}{w0 w:List Nat}{a:Bool}{d d':Prop} (R:RD c given w0 w a d) (hg:∀ a∈given,a.net<c.nodes.length∧a.value≤1) {y x:Nat} (hy:y<c.nodes.length) (h2:w.getD y 0=2) (hx:x≤2) (hx2:x≠2) (hs:∀ t,CW c given t→Blw x (t.getD y 0)):RD c given w0 (w.set y x) true d':=by
 have hc:=count_set2 (v:=w) (m:=y) (x:=x) (by rw[R.cl.len];exact hy) h2 hx2
 refine⟨R.cl.set hg hy h2 hx hs,fun _=>?_,(fun e=>by cases e)⟩
 cases a with
 |true=>have:=R.cnt rfl;omega
 |false=>have:=(R.same rfl).1;rw[this] at hc ⊢;omega
theorem RD.to {c:Circ}{given:List Asg}{w0 w:List Nat}{a:Bool}{d d':Prop} (R:RD c given w0 w a d) (h:w=w0→d→d'):RD c given w0 w a d':=⟨R.cl,R.cnt,fun e=>⟨(R.same e).1,h (R.same e).1 (R.same e).2⟩⟩
theorem closed_vc {c:Circ} (p:Pln c) (f3:Few3 c) {given:List Asg} (hg:∀ a∈given,a.net<c.nodes.length∧a.value≤1) (hl:given.length<2 ^ 60) {K:List Nat×Bool→Prop}
  (h1:∀ w,CL c given w→(∀ i,ClosedAt c w i)→K (w,true)) (h2:(∀ t,¬ CW c given t)→K ([],false)):probecardlaw24_closed_wp c given K:=by
 have hlen:=p.good.len
 unfold probecardlaw24_closed_wp
 refine⟨by omega,by omega,?_⟩
 refine joinLoop (fun s=>s.2≤c.nodes.length∧s.1.length=c.nodes.length∧∀ j,j<s.2→s.1.getD j 0=2) (fun s=>c.nodes.length-s.2) (fun w=>w.length=c.nodes.length∧∀ j,j<c.nodes.length→w.getD j 0=2) ?_ ⟨Nat.zero_le _,by simp,(fun j hj=>absurd hj (Nat.not_lt_zero _))⟩ ?_
 ·rintro k ⟨v,i⟩ nx ⟨hi,h3,h4⟩ hnx hk
  dsimp only at hi h3 h4
  refine⟨fun q=>?_,fun q=>?_⟩
  ·have q:=lt_t.1 q
   (try dsimp only at q)
   refine⟨q,_,getN h3 q,by omega,hnx _ ⟨q,by simpa using h3,fun j hj=>?_⟩ (by dsimp only;omega)⟩
   dsimp only at hj ⊢
   rw[getD_set (by omega)]
   by_cases e:i=j
   ·rw[if_pos e]
   ·rw[if_neg e];exact h4 j (by omega)
  ·have q:=lt_f.1 q
   (try dsimp only at q)
   exact hk v ⟨h3,fun j hj=>h4 j (by omega)⟩
 rintro v ⟨h3,h4⟩
 have hle0:∀ i,v.getD i 0≤2:=fun i=>by
  by_cases e:i<c.nodes.length
  ·rw[h4 i e];exact Nat.le_refl _
  ·rw[getD_out (by omega)];exact Nat.zero_le _
 have hsn0:∀ t,CW c given t→∀ i,Blw (v.getD i 0) (t.getD i 0):=fun t ht i=>by
  by_cases e:i<c.nodes.length
  ·exact .inl (h4 i e)
  ·rw[getD_out (by omega),getD_out (by rw[ht.len];omega)];exact .inr rfl
 refine joinLoop (fun s=>s.2≤given.length∧s.1.length=c.nodes.length∧(∀ i,s.1.getD i 0≤2)∧Ext (given.take s.2) s.1∧∀ t,CW c given t→∀ i,Blw (s.1.getD i 0) (t.getD i 0)) (fun s=>given.length-s.2) (fun w=>CL c given w) ?_ ⟨Nat.zero_le _,h3,hle0,(fun a m=>by simp at m),hsn0⟩ ?_
 ·rintro k ⟨w,i⟩ nx ⟨hi,w1,w2,w3,w4⟩ hnx hk
  dsimp only at hi w1 w2 w3 w4
  refine⟨fun q=>?_,fun q=>?_⟩
  ·have q:=lt_t.1 q
   (try dsimp only at q)
   obtain⟨a,ha⟩:=get_lt q
   obtain⟨l1,l2⟩:=List.getElem?_eq_some_iff.1 ha
   have hmem:=List.mem_of_getElem? ha
   obtain⟨g1,g2⟩:=hg a hmem
   refine⟨a,ha,g1,_,getN w1 g1,a,ha,g2,by decide,fun e=>h2 fun t ht=>?_,fun e=>⟨a,ha,a,ha,g1,_,getN w1 g1,by omega,hnx _ ⟨q,by simpa using w1,fun i=>?_,fun a' m=>?_,fun t ht j=>?_⟩ (by dsimp only;omega)⟩⟩
   ·have e:=eq_t.1 e
    have b1:=w4 t ht a.net
    rw[ht.ext a hmem] at b1
    rcases b1 with b1|b1 <;> omega
   ·dsimp only
    rw[getD_set (by omega)];split
    ·omega
    ·exact w2 i
   ·dsimp only
    rw[getD_set (by omega)]
    have e:=eq_f.1 e
    rw[List.take_succ_eq_append_getElem l1,l2] at m
    rcases List.mem_append.1 m with m|m
    ·have e4:=w3 a' m
     by_cases e5:a.net=a'.net
     ·rw[if_pos e5]
      have:=(hg a' (List.mem_of_mem_take m)).2
      rw[← e5] at e4
      omega
     ·rw[if_neg e5];exact e4
    ·rw[List.mem_singleton.1 m,if_pos rfl]
   ·dsimp only
    rw[getD_set (by omega)]
    by_cases e5:a.net=j
    ·subst e5;rw[if_pos rfl,ht.ext a hmem];exact .inr rfl
    ·rw[if_neg e5];exact w4 t ht j
  ·have q:=lt_f.1 q
   (try dsimp only at q)
   rw[List.take_of_length_le q] at w3
   exact hk w ⟨w1,w2,w3,w4⟩
 intro w C
 refine joinLoop (fun s=>CL c given s.1∧(s.2=false→∀ i,ClosedAt c s.1 i)) (fun s=>s.1.count 2*2+(if s.2=true then 1 else 0)) (fun w=>CL c given w∧∀ i,ClosedAt c w i) ?_ ⟨C,(fun e=>by cases e)⟩ (fun w C=>⟨C.1.len.symm,h1 w C.1 C.2⟩)
 rintro k ⟨w0,b0⟩ nx ⟨C0,hb0⟩ hnx hk
 dsimp only at C0 hb0
 refine⟨fun e0=>⟨by simp only[Int.ofNat_eq_natCast];omega,by simp only[Int.ofNat_eq_natCast];omega,?_⟩,fun e0=>hk w0 ⟨C0,hb0 e0⟩⟩
 subst e0
 refine loopW_intro (fun s => -1≤s.2.2∧s.2.2<Int.ofNat c.nodes.length∧RD c given w0 s.1 s.2.1 (∀ i:Nat,s.2.2<Int.ofNat i→ClosedAt c w0 i)) (fun s=>(s.2.2+1).toNat) ?_ ⟨by simp only[Int.ofNat_eq_natCast];omega,by simp only[Int.ofNat_eq_natCast];omega,C0,(fun e=>by cases e),fun _=>⟨rfl,fun i hi x hx=>?_⟩⟩
 ·rintro⟨w,a,n⟩ nx2 ⟨hn1,hn2,R⟩ hnx2
  dsimp only at hn1 hn2 R
  refine⟨fun q=>?_,fun q=>?_⟩
  ·rintro j rfl
   have hj:j<c.nodes.length:=by simp only[Int.ofNat_eq_natCast] at hn2;omega
   obtain⟨x,hx⟩:=get_lt hj
   refine joinPs (fun s=>RD c given w0 s.1 s.2 (∀ i:Nat,Int.ofNat j-Int.ofNat 1<Int.ofNat i→ClosedAt c w0 i)) (fun k3 hk3=>⟨x,hx,?_⟩) (fun s hs=>⟨by simp only[Int.ofNat_eq_natCast];omega,by simp only[Int.ofNat_eq_natCast];omega,hnx2 _ ⟨by dsimp only;simp only[Int.ofNat_eq_natCast];omega,by dsimp only;simp only[Int.ofNat_eq_natCast];omega,hs⟩ (by dsimp only;simp only[Int.ofNat_eq_natCast];omega)⟩)
   have step:(∀ i:Nat,Int.ofNat j<Int.ofNat i→ClosedAt c w0 i)→ClosedAt c w0 j→∀ i:Nat,Int.ofNat j-Int.ofNat 1<Int.ofNat i→ClosedAt c w0 i:=fun ha hb i hi=>by
    by_cases e:i=j
    ·subst e;exact hb
    ·exact ha i (by simp only[Int.ofNat_eq_natCast] at *;omega)
   refine joinB (a:=isFree x.kind) (fun F=>⟨fun e=>?_,fun e=>?_⟩) ⟨fun hf=>hk3 _ (R.to fun _ d=>step d fun y hy hfy=>?_),fun hf=>?_⟩
   ·have e:=eq_t.1 e
    rw[show isFree x.kind=true by simp[isFree,e]] at F;exact F
   ·have e:=eq_f.1 e
    rw[show isFree x.kind=eqN x.kind 14 by rw[eqN_eq,Bool.eq_iff_iff];unfold isFree;simp only[Bool.or_eq_true,beq_iff_eq,decide_eq_true_eq];omega] at F;exact F
   ·rw[hx] at hy;cases hy
    rw[hf] at hfy;cases hfy
   have hk11:=p.gate hx hf
   have G:=p.good.node j x hx
   have hl3:=f3 j x hx
   have Cw:=R.cl
   refine joinLoop (fun s=>s.2≤x.ins.length∧s.1=(insV w x).take s.2) (fun s=>x.ins.length-s.2) (fun a=>a=insV w x) ?_ ⟨Nat.zero_le _,by simp⟩ ?_
   ·rintro k4 ⟨l,i⟩ nx4 ⟨hi,hl4⟩ hnx4 hk4
    dsimp only at hi hl4
    subst hl4
    refine⟨fun q2=>?_,fun q2=>?_⟩
    ·have q2:=lt_t.1 q2
     (try dsimp only at q2)
     obtain⟨y,hy⟩:=get_lt q2
     have hyn:=G.ins y (List.mem_of_getElem? hy)
     have hv:(insV w x)[i]?=some (w.getD y 0):=by unfold insV;rw[List.getElem?_map,hy];rfl
     obtain⟨l1,l2⟩:=List.getElem?_eq_some_iff.1 hv
     refine⟨y,hy,hyn,_,getN Cw.len hyn,by simp only[List.length_take,List.length_singleton];omega,by omega,hnx4 _ ⟨q2,?_⟩ (by dsimp only;omega)⟩
     dsimp only
     rw[List.take_succ_eq_append_getElem l1,l2]
    ·have q2:=lt_f.1 q2
     (try dsimp only at q2)
     exact hk4 _ (List.take_of_length_le (by unfold insV;rw[List.length_map];exact q2))
   rintro _ rfl
   have F:GF x.kind (w.getD j 0) (insV w x):=gf hk11.1 hk11.2 (by rw[insV_len];exact G.arity) (by rw[insV_len];exact hl3) (Cw.le j) (insV_le Cw.le x)
   have sound:∀ t,CW c given t→(gateR x.kind (w.getD j 0) (insV w x)).2.2=true∧Blw (gateR x.kind (w.getD j 0) (insV w x)).1 (t.getD j 0)∧∀ i,Blw ((gateR x.kind (w.getD j 0) (insV w x)).2.1.getD i 0) ((insV t x).getD i 0):=by
    intro t ht
    obtain⟨k1,k2,k3⟩:=ht.cls j x hx hf
    have M:=(gate_mono (o:=w.getD j 0) (l:=insV w x) hk11.1 hk11.2 (by rw[insV_len];exact G.arity) (by rw[insV_len];exact hl3) (ht.le j) (insV_le ht.le x) (Cw.snd t ht j) (by rw[insV_len,insV_len]) (fun i=>?_) k1).1
    ·exact⟨M.1,M.2.1.trans k2,fun i=>(M.2.2 i).trans (k3 i)⟩
    ·by_cases hi:i<x.ins.length
     ·obtain⟨y,hy⟩:=get_lt hi
      rw[insV_getD hy,insV_getD hy]
      exact Cw.snd t ht y
     ·rw[getD_out (by rw[insV_len];omega),getD_out (by rw[insV_len];omega)]
      exact .inr rfl
   refine⟨hj,_,getN Cw.len hj,by omega,by rw[insV_len];omega,F.ok,?_⟩
   have Fle:=F.le
   have hclo:(gateR x.kind (w.getD j 0) (insV w x)).2.2=true→Blw (gateR x.kind (w.getD j 0) (insV w x)).1 (w.getD j 0)→(∀ i,i<x.ins.length→Blw ((gateR x.kind (w.getD j 0) (insV w x)).2.1.getD i 0) ((insV w x).getD i 0))→ClosedAt c w j:=by
    intro c1 c2 c3 y hy hfy
    rw[hx] at hy;cases hy
    refine⟨c1,c2,fun i=>?_⟩
    by_cases hi:i<x.ins.length
    ·exact c3 i hi
    ·rw[getD_out (by rw[(Fle c1).2.1,insV_len];omega),getD_out (by rw[insV_len];omega)]
     exact .inr rfl
   generalize gateR x.kind (w.getD j 0) (insV w x)=r at Fle sound hclo ⊢
   refine joinB (a := !r.2.2) (fun F=>⟨fun e=>by rw[e] at F;exact F,fun e=>?_⟩) ⟨fun e=>h2 fun t ht=>?_,fun e=>?_⟩
   ·have e1:r.2.2=true:=by simpa using e
    have:=(Fle e1).2.1
    rw[ne_f.2 (show r.2.1.length=x.ins.length by rw[this,insV_len])]
    rw[e] at F;exact F
   ·have e1:r.2.2=false:=by simpa using e
    have:=(sound t ht).1
    rw[e1] at this;cases this
   have hok:r.2.2=true:=by simpa using e
   obtain⟨le1,le2,le3⟩:=Fle hok
   rw[insV_len] at le2
   have hclo:=hclo hok
   have few:=G.few
   refine⟨by simp only[List.length_nil];omega,by simp only[List.length_append,List.length_nil,List.length_singleton];omega,by simp only[List.length_nil];omega,by simp only[List.length_append,List.length_nil,List.length_singleton];omega,?_⟩
   have at_:∀ i,i<x.ins.length+1→∃ y g,(([]++x.ins)++[j])[i]?=some y∧(([]++r.2.1)++[r.1])[i]?=some g∧y<c.nodes.length∧g≤2∧(∀ t,CW c given t→Blw g (t.getD y 0))∧(i<x.ins.length→x.ins[i]?=some y∧r.2.1.getD i 0=g)∧(i=x.ins.length→y=j∧g=r.1):=by
    intro i hi
    refine⟨_,_,app_get hi,app_get (by omega),?_⟩
    by_cases e:i<x.ins.length
    ·have e':i<r.2.1.length:=by omega
     rw[dif_pos e,dif_pos e']
     have hm:=List.getElem_mem e
     have hg1:r.2.1.getD i 0=r.2.1[i]:=by rw[List.getD,List.getElem?_eq_getElem e'];rfl
     refine⟨G.ins _ hm,le3 _ (List.getElem_mem e'),fun t ht=>?_,fun _=>⟨List.getElem?_eq_getElem e,hg1⟩,fun q=>by omega⟩
     have:=(sound t ht).2.2 i
     rw[insV_getD (List.getElem?_eq_getElem e),hg1] at this
     exact this
    ·have e':¬ i<r.2.1.length:=by omega
     rw[dif_neg e,dif_neg e']
     exact⟨hj,le1,fun t ht=>(sound t ht).2.1,fun q=>absurd q e,fun _=>⟨rfl,rfl⟩⟩
   have hnl:(([]++x.ins)++[j]).length=x.ins.length+1:=by simp
   refine loopW_intro (fun s=>s.2.2≤x.ins.length+1∧RD c given w0 s.1 s.2.1 ((∀ i:Nat,Int.ofNat j<Int.ofNat i→ClosedAt c w0 i)∧w=w0∧∀ i,i<s.2.2→∀ y g,(([]++x.ins)++[j])[i]?=some y→(([]++r.2.1)++[r.1])[i]?=some g→Blw g (w0.getD y 0))) (fun s=>x.ins.length+1-s.2.2) ?_ ⟨Nat.zero_le _,R.cl,R.cnt,fun e=>⟨(R.same e).1,(R.same e).2,(R.same e).1,fun i hi=>absurd hi (Nat.not_lt_zero _)⟩⟩
   rintro⟨u,b,i⟩ nx5 ⟨hi,R5⟩ hnx5
   dsimp only at hi R5
   refine⟨fun q2=>?_,fun q2=>?_⟩
   ·have q2:=lt_t.1 q2
    rw[hnl] at q2
    (try dsimp only at q2)
    obtain⟨y,g,e1,e2,e3,e4,e5,_,_⟩:=at_ i q2
    refine joinPs (fun s=>RD c given w0 s.1 s.2 ((∀ i:Nat,Int.ofNat j<Int.ofNat i→ClosedAt c w0 i)∧w=w0∧∀ i',i'<i+1→∀ y g,(([]++x.ins)++[j])[i']?=some y→(([]++r.2.1)++[r.1])[i']?=some g→Blw g (w0.getD y 0))) (fun k6 hk6=>?_) (fun s hs=>⟨by omega,hnx5 _ ⟨q2,hs⟩ (by dsimp only;omega)⟩)
    have hu:=R5.cl
    refine joinB (a:=decide (g=2∨g=u.getD y 0)) (fun F=>⟨g,e2,fun q3=>?_,fun q3=>⟨g,e2,y,e1,e3,_,getN hu.len e3,?_⟩⟩) ⟨fun q3=>hk6 _ (R5.to fun e d=>⟨d.1,d.2.1,fun i' hi' y' g' f1 f2=>?_⟩),fun q3=>?_⟩
    ·rw[decide_eq_true (.inl (eq_t.1 q3))] at F;exact F
    ·have q3:=eq_f.1 q3
     rw[show eqN g (u.getD y 0)=decide (g=2∨g=u.getD y 0) by rw[eqN_eq];exact decide_eq_decide.2 ⟨.inr,fun h=>h.resolve_left q3⟩];exact F
    ·have q3:=of_decide_eq_true q3
     by_cases ei:i'=i
     ·subst ei
      rw[e1] at f1;cases f1
      rw[e2] at f2;cases f2
      rw[← e];exact q3
     ·exact d.2.2 i' (by omega) y' g' f1 f2
    ·have q3:=of_decide_eq_false q3
     refine⟨y,e1,e3,_,getN hu.len e3,fun q4=>h2 fun t ht=>?_,fun q4=>⟨y,e1,g,e2,e3,_,getN hu.len e3,hk6 _ (R5.put hg e3 (ne_f.1 q4) e4 (fun h=>q3 (.inl h)) e5)⟩⟩
     have q4:=ne_t.1 q4
     have b1:=(hu.snd t ht y).resolve_left q4
     have b2:=(e5 t ht).resolve_left fun h=>q3 (.inl h)
     exact q3 (.inr (by rw[b1,b2]))
   ·have q2:=lt_f.1 q2
    rw[hnl] at q2
    (try dsimp only at q2)
    refine hk3 _ (R5.to fun e d=>step d.1 ?_)
    obtain⟨d1,d2,d3⟩:=d
    subst d2
    refine hclo ?_ fun i' hi'=>?_
    ·obtain⟨y,g,e1,e2,_,_,_,_,e6⟩:=at_ x.ins.length (by omega)
     obtain⟨rfl,rfl⟩:=e6 rfl
     exact d3 _ (by omega) _ _ e1 e2
    ·obtain⟨y,g,e1,e2,_,_,_,e5,_⟩:=at_ i' (by omega)
     obtain⟨f1,f2⟩:=e5 hi'
     rw[f2,insV_getD f1]
     exact d3 _ (by omega) _ _ e1 e2
  ·have hn:n = -1:=by
    have:ltI n (Int.ofNat 0)=true:=by simpa using q
    have:=ltZ_t.1 this
    simp only[Int.ofNat_eq_natCast] at this;omega
   subst hn
   refine hnx _ ⟨R.cl,fun e i=>?_⟩ ?_
   ·obtain⟨d1,d2⟩:=R.same e
    dsimp only
    rw[d1]
    exact d2 i (by simp only[Int.ofNat_eq_natCast];omega)
   ·dsimp only
    cases a with
    |true=>have:=R.cnt rfl;simp only[if_true];omega
    |false=>have:=(R.same rfl).1;rw[this];simp
 ·have:=lt_of_get hx
  simp only[Int.ofNat_eq_natCast] at hi;omega
theorem CloseOk.cw {c:Circ}{given:List Asg}{v:List Nat} (C:CloseOk c given v):CW c given v :=
 ⟨C.len,C.le,C.giv,fun i x hx=>C.cls i (lt_of_get hx) x hx⟩
theorem CW.of {c:Circ}{given given':List Asg}{t:List Nat} (C:CW c given t) (h:∀ a∈given',a∈given):CW c given' t:=⟨C.len,C.le,fun a m=>C.ext a (h a m),C.cls⟩
theorem Blw.anti {a b:Nat} (h:Blw a b) (h':Blw b a):a=b:=by
 rcases h with h|h
 ·rcases h' with h' | h'
  ·omega
  ·exact h'.symm
 ·exact h
theorem CloseR.iff {c:Circ}{given given':List Asg}{r r':List Nat×Bool×Nat} (R:CloseR c given r) (R':CloseR c given' r') (h:∀ t,CW c given t↔CW c given' t):r'.2.1=r.2.1∧(r.2.1=true→r'.2.1=true→∀ i,r'.1.getD i 0=r.1.getD i 0):=by
 cases R with
 |ok v C =>
  cases R' with
  |ok v' C'=>exact⟨rfl,fun _ _ i=>(C'.snd v ((h v).1 C.cw) i).anti (C.snd v' ((h v').2 C'.cw) i)⟩
  |no h'=>exact absurd ((h v).1 C.cw) (h' v)
 |no h1 =>
  cases R' with
  |ok v' C'=>exact absurd ((h v').2 C'.cw) (h1 v')
  |no h'=>exact⟨rfl,(fun e=>by cases e)⟩
theorem sim_below {c:Circ} (p:Pln c) (f3:Few3 c) {pt:Pat}{t v:List Nat} (N:NetsOk c pt t) (hv:∀ i,v.getD i 0≤2) (hc:∀ i,ClosedAt c v i) (hl:v.length=c.nodes.length)
  (h1:∀ j f,(ofN c [0])[j]?=some f→pt.inp.getD j 0=v.getD f 0) (h2:∀ j f,(ofN c [14])[j]?=some f→pt.state.getD j 0=v.getD f 0):∀ i,Blw (t.getD i 0) (v.getD i 0):=by
 have key:∀ n i,i<n→Blw (t.getD i 0) (v.getD i 0):=by
  intro n
  induction n with
  |zero=>intro i h;exact absurd h (Nat.not_lt_zero _)
  |succ n ih =>
   intro i _
   by_cases hi:i<c.nodes.length
   ·obtain⟨x,hx⟩:=get_lt hi
    cases hf:isFree x.kind
    ·have hg:=p.gate hx hf
     have G:=p.good.node i x hx
     obtain⟨k1,k2,k3⟩:=hc i x hx hf
     rw[N.gate i x hx hf]
     refine (gate_mono (o:=v.getD i 0) (l:=insV t x) hg.1 hg.2 (by rw[insV_len];exact G.arity) (by rw[insV_len];exact f3 i x hx) (hv i) (insV_le hv x) (.inr rfl) (by rw[insV_len,insV_len]) (fun j=>?_) k1).2 k2 k3
     by_cases hj:j<x.ins.length
     ·obtain⟨y,hy⟩:=get_lt hj
      rw[insV_getD hy,insV_getD hy]
      have:=G.acyc hg.1 (by omega) y (List.mem_of_getElem? hy)
      exact ih y (by omega)
     ·rw[getD_out (by rw[insV_len];omega),getD_out (by rw[insV_len];omega)]
      exact .inr rfl
    ·have hk:x.kind=0∨x.kind=14:=by simpa[isFree] using hf
     rcases hk with hk|hk
     ·obtain⟨j,hj,e⟩:=List.getElem_of_mem (ofN_of hi (by rw[kd_eq hx,hk]))
      have hj2:(ofN c [0])[j]?=some i:=by rw[List.getElem?_eq_getElem hj,e]
      rw[N.inp j i hj2,h1 j i hj2];exact .inr rfl
     ·obtain⟨j,hj,e⟩:=List.getElem_of_mem (ofN_of hi (by rw[kd_eq hx,hk]))
      have hj2:(ofN c [14])[j]?=some i:=by rw[List.getElem?_eq_getElem hj,e]
      rw[N.state j i hj2,h2 j i hj2];exact .inr rfl
   ·rw[getD_out (by rw[N.len];omega),getD_out (by omega)]
    exact .inr rfl
 exact fun i=>key (i+1) i (Nat.lt_succ_self i)
def allA (v:List Nat) (i:Nat):List Asg:=((List.range i).filter fun n=>v.getD n 0 != 2).map fun n=>⟨n,v.getD n 0⟩
theorem allA_succ (v:List Nat) (i:Nat):allA v (i+1)=if v.getD i 0=2 then allA v i else allA v i++[⟨i,v.getD i 0⟩]:=by
 unfold allA
 rw[filt_step,List.map_append]
 by_cases e:v.getD i 0=2
 ·rw[if_pos e,if_neg (by simp only[bne_iff_ne,ne_eq];exact fun h=>h e)];simp
 ·rw[if_neg e,if_pos (by simp only[bne_iff_ne,ne_eq];exact e)];rfl
theorem allA_mem {v:List Nat}{i:Nat}{a:Asg} (h:a∈allA v i):a.net<i∧v.getD a.net 0≠2∧a.value=v.getD a.net 0:=by
 obtain⟨n,m,rfl⟩:=List.mem_map.1 h
 rw[List.mem_filter,List.mem_range] at m
 exact⟨m.1,by simpa using m.2,rfl⟩
theorem allA_of {v:List Nat}{i n:Nat} (h:n<i) (h2:v.getD n 0≠2):(⟨n,v.getD n 0⟩:Asg)∈allA v i :=
 List.mem_map.2 ⟨n,List.mem_filter.2 ⟨List.mem_range.2 h,by simpa using h2⟩,rfl⟩
theorem allA_len (v:List Nat) (i:Nat):(allA v i).length≤i:=by
 unfold allA
 rw[List.length_map]
 exact Nat.le_trans (List.length_filter_le _ _) (by simp)
theorem copyN_len {α:Type}{l src:List α}{o n:Nat} (h:o+n≤l.length):(copyN l o n src).length=l.length:=by
 unfold copyN
 have:min n src.length≤src.length:=Nat.min_le_right _ _
 have:min n src.length≤n:=Nat.min_le_left _ _
 simp only[List.length_append,List.length_take,List.length_drop]
 omega
theorem rep_loop {n:Nat} (hn:n≤16) {rest:List Nat→Prop} (h:∀ l:List Nat,l.length=n→rest l) :
  joinW (α:=(List Nat)) (fun k=>loopW (S:=((List Nat)×Nat)) (fun (v,i) nx=>((ltN i n)=true→i≤n∧i≤n∧i+(n-i)≤v.length∧i≤v.length∧i+(min (n-i) (v.take i).length)<2 ^ 63∧nx ((copyN v i (n-i) (v.take i)),(i+(min (n-i) (v.take i).length))))∧((ltN i n)=false→k v)) ((copyN (List.replicate n (0:Nat)) 0 n ([2]:(List Nat))),(min n ([2]:(List Nat)).length))) rest:=by
 refine joinLoop (fun s=>s.1.length=n∧s.2≤n∧(0<n→0<s.2)) (fun s=>n-s.2) (fun l=>l.length=n) ?_ ⟨?_,Nat.min_le_left _ _,fun q=>?_⟩ (fun a e=>h a e)
 ·rintro k ⟨v,i⟩ nx ⟨h1,h2,h3⟩ hnx hk
  dsimp only at h1 h2 h3
  refine⟨fun q=>?_,fun _=>hk v h1⟩
  have q:=lt_t.1 q
  (try dsimp only at q)
  have hl:(v.take i).length=i:=by rw[List.length_take];omega
  have hm:min (n-i) (v.take i).length≤n-i:=Nat.min_le_left _ _
  have hp:0<min (n-i) (v.take i).length:=by rw[hl];have:=h3 (by omega);omega
  exact⟨h2,h2,by omega,by omega,by omega,hnx _ ⟨by dsimp only;rw[copyN_len (by omega)];exact h1,by dsimp only;omega,fun _=>by dsimp only;omega⟩ (by dsimp only;omega)⟩
 ·dsimp only
  rw[copyN_len (by simp)];simp
 ·show 0<min n 1;omega
theorem fill_loop {os:List Nat}{v:List Nat}{n m:Nat} (hm:m=os.length) (hv:v.length=n) (hb:os.length<2 ^ 60) (ho:∀ f∈os,f<n) {l0:List Nat} (hl0:l0.length=m) {rest:List Nat→Prop} (h:∀ l:List Nat,l.length=m→(∀ j f,os[j]?=some f→l.getD j 0=v.getD f 0)→rest l) :
  joinW (α:=(List Nat)) (fun k=>loopW (S:=((List Nat)×Nat)) (fun (u,i) nx=>((ltN i os.length)=true→∃ x,os[i]?=some x∧∃ y,v[x]?=some y∧i<m∧∃ z,u[i]?=some z∧i+1<2 ^ 63∧nx ((u.set i y),(i+1)))∧((ltN i os.length)=false→k u)) (l0,0)) rest:=by
 refine joinLoop (fun s=>s.2≤os.length∧s.1.length=m∧∀ j f,j<s.2→os[j]?=some f→s.1.getD j 0=v.getD f 0) (fun s=>os.length-s.2) (fun l=>l.length=m∧∀ j f,os[j]?=some f→l.getD j 0=v.getD f 0) ?_ ⟨Nat.zero_le _,hl0,(fun j f hj=>absurd hj (Nat.not_lt_zero _))⟩ (fun a e=>h a e.1 e.2)
 rintro k ⟨u,i⟩ nx ⟨hi,h1,h2⟩ hnx hk
 dsimp only at hi h1 h2
 refine⟨fun q=>?_,fun q=>hk u ⟨h1,fun j f hj=>h2 j f (by have:=lt_f.1 q;have:=lt_of_get hj;(try dsimp only at *);omega) hj⟩⟩
 have q:=lt_t.1 q
 (try dsimp only at q)
 obtain⟨f,hf⟩:=get_lt q
 have hfn:=ho f (List.mem_of_getElem? hf)
 refine⟨f,hf,_,getN hv hfn,by omega,_,getN h1 (by omega),by omega,hnx _ ⟨q,by simp[h1],fun j f' hj hf'=>?_⟩ (by dsimp only;omega)⟩
 dsimp only at hj ⊢
 rw[getD_set (by omega)]
 by_cases e:i=j
 ·subst e
  rw[hf] at hf';cases hf'
  rw[if_pos rfl]
 ·rw[if_neg e]
  exact h2 j f' (by omega) hf'
theorem impliesCloses_vc {x:CData} (hx:CB x) {l:List U2} (hl:∀ u∈l,u.a<256) {less:Nat} (hless:less<256):probecardlaw24_ImpliesCloses_wp x l less (· = true):=by
 unfold probecardlaw24_ImpliesCloses_wp
 refine small_vc hx (by decide) ?_
 dsimp only
 have p:=pln_circ x
 have f3:Few3 (circN (plainC x)):=circ_few3 rfl
 have hlen:=circ_len x
 have hpos:=circ_pos x
 generalize circN (plainC x)=c at p f3 hlen hpos ⊢
 refine⟨fun _=>rfl,fun q=>given_vc hpos hl (lt_f.1 q) ?_⟩
 have hg:=given_ok (n:=c.nodes.length) (l:=l) hpos
 have hgl:(givenN c.nodes.length l).length≤6:=by unfold givenN;rw[List.length_map];exact lt_f.1 q
 clear q hl
 generalize givenN c.nodes.length l=given at hg hgl ⊢
 have l1:=ofN_len c [0]
 have l2:=ofN_len c [14]
 refine close_res p f3 hg (by omega) fun r R=>?_
 have key:∀ r7:List Nat×Bool,(r7.2=r.2.1∧(r.2.1=true→r7.1.length=c.nodes.length∧∀ i,r7.1.getD i 0=r.1.getD i 0))→∀ {K:List Nat×Bool→Prop},(∀ r7:List Nat×Bool,(r7.2=r.2.1∧(r.2.1=true→r7.1.length=c.nodes.length∧∀ i,r7.1.getD i 0=r.1.getD i 0))→K r7)→K r7:=fun r7 h _ hk=>hk r7 h
 have clo:∀ {K:List Nat×Bool→Prop},(∀ r7:List Nat×Bool,(r7.2=r.2.1∧(r.2.1=true→r7.1.length=c.nodes.length∧∀ i,r7.1.getD i 0=r.1.getD i 0))→K r7)→probecardlaw24_closed_wp c given K:=fun hk=>by
  refine closed_vc p f3 hg (by omega) (fun w C hc=>hk _ ?_) (fun hno=>hk _ ?_)
  ·have W:CW c given w:=⟨C.len,C.le,C.ext,hc⟩
   cases R with
   |ok v Cv=>exact⟨rfl,fun _=>⟨C.len,fun i=>(C.snd v Cv.cw i).anti (Cv.snd w W i)⟩⟩
   |no h=>exact absurd W (h w)
  ·cases R with
   |ok v Cv=>exact absurd Cv.cw (hno v)
   |no h=>exact⟨rfl,(fun e=>by cases e)⟩
 clear key
 refine clo fun r7 h7=>?_
 refine joinPs (fun a=>a.length≤6∧(∀ y,y∈a↔y∈given)) (fun k hk=>⟨by simp only[Int.ofNat_eq_natCast];omega,by simp only[Int.ofNat_eq_natCast];omega,?_⟩) ?_
 ·refine loopW_intro (fun s => -1≤s.2∧s.2<Int.ofNat given.length∧Int.ofNat s.1.length+s.2+1=Int.ofNat given.length∧(∀ y∈s.1,y∈given)∧∀ i y,given[i]?=some y→s.2<Int.ofNat i→y∈s.1) (fun s=>(s.2+1).toNat) ?_ ⟨by simp only[Int.ofNat_eq_natCast];omega,by simp only[Int.ofNat_eq_natCast];omega,by simp,(fun y m=>by cases m),fun i y hy hi=>?_⟩
  ·rintro⟨a,n⟩ nx ⟨h1,h2,h3,h4,h5⟩ hnx
   dsimp only at h1 h2 h3 h4 h5
   refine⟨fun q=>?_,fun q=>?_⟩
   ·rintro j rfl
    simp only[Int.ofNat_eq_natCast] at h1 h2 h3
    have hj:j<given.length:=by omega
    obtain⟨y,hy⟩:=get_lt hj
    refine⟨y,hy,by simp only[List.length_singleton];omega,by simp only[Int.ofNat_eq_natCast];omega,by simp only[Int.ofNat_eq_natCast];omega,hnx _ ⟨by dsimp only;simp only[Int.ofNat_eq_natCast];omega,by dsimp only;simp only[Int.ofNat_eq_natCast];omega,by dsimp only;simp only[List.length_append,List.length_singleton,Int.ofNat_eq_natCast];omega,fun z m=>?_,fun i z hz hi=>?_⟩ (by dsimp only;simp only[Int.ofNat_eq_natCast];omega)⟩
    ·rcases List.mem_append.1 m with m|m
     ·exact h4 z m
     ·rw[List.mem_singleton.1 m];exact List.mem_of_getElem? hy
    ·dsimp only at hi ⊢
     by_cases e:i=j
     ·subst e;rw[hy] at hz;cases hz;simp
     ·exact List.mem_append_left _ (h5 i z hz (by simp only[Int.ofNat_eq_natCast] at *;omega))
   ·have hn:n = -1:=by
     have:ltI n (Int.ofNat 0)=true:=by simpa using q
     have:=ltZ_t.1 this
     simp only[Int.ofNat_eq_natCast] at this;omega
    subst hn
    simp only[Int.ofNat_eq_natCast] at h3
    refine hk a ⟨by omega,fun y=>⟨h4 y,fun m=>?_⟩⟩
    obtain⟨i,hi,e⟩:=List.getElem_of_mem m
    exact h5 i y (by rw[List.getElem?_eq_getElem hi,e]) (by simp only[Int.ofNat_eq_natCast];omega)
  ·have:=lt_of_get hy
   simp only[Int.ofNat_eq_natCast] at hi;omega
 rintro a ⟨a1,a2⟩
 refine close_res p f3 (fun y m=>hg y ((a2 y).1 m)) (by omega) fun r2 R2=>?_
 have hmod:=Nat.mod_lt less (show 0<given.length+1 by omega)
 have hdrop:∀ y∈given.drop (less%(given.length+1)),y∈given:=fun y m=>List.mem_of_mem_drop m
 refine⟨hless,by omega,by omega,by omega,close_res p f3 (fun y m=>hg y (hdrop y m)) (by rw[List.length_drop];omega) fun r3 R3=>?_⟩
 have I2:=R.iff R2 fun t=>⟨fun C=>C.of fun y m=>(a2 y).1 m,fun C=>C.of fun y m=>(a2 y).2 m⟩
 have yes3:r.2.1=true→r3.2.1=true:=fun e=>by
  cases R3 with
  |ok _ _=>rfl
  |no h=>exact absurd ((R.yes e).cw.of hdrop) (h _)
 refine joinB (a:=false) (fun F=>⟨fun q=>absurd R.err (ne_t.1 q),fun _=>⟨fun q=>absurd R2.err (ne_t.1 q),fun _=>⟨fun q=>absurd R3.err (ne_t.1 q),fun _=>⟨fun q=>?_,fun _=>⟨fun q=>?_,fun _=>⟨fun e=>?_,fun _=>F⟩⟩⟩⟩⟩⟩) ⟨(fun e=>by cases e),fun _=>⟨fun _=>rfl,fun e=>?_⟩⟩
 ·rw[h7.1] at q;simp at q
 ·rw[I2.1] at q;simp at q
 ·rw[yes3 e];exact F
 have e:r.2.1=true:=by simpa using e
 have C:=R.yes e
 have C2:=R2.yes (by rw[I2.1,e])
 have C3:=R3.yes (yes3 e)
 have e2:=I2.2 e (by rw[I2.1,e])
 obtain⟨w1,w2⟩:=h7.2 e
 have b3:∀ i,Blw (r3.1.getD i 0) (r.1.getD i 0):=C3.snd r.1 (C.cw.of hdrop)
 generalize r.1=v at C e2 w2 b3 ⊢
 have hv:=C.len
 refine inputs_vc (by omega) (joinI ⟨fun q=>absurd (lt_t.1 q) (Nat.not_lt_zero _),fun _=>⟨by simp only[List.length_singleton];omega,by omega,rfl,by omega,?_⟩⟩)
 refine joinI (joinB (a:=false) (fun F=>⟨fun q=>absurd (lt_t.1 q) (by dsimp only;omega),fun _=>?_⟩) ⟨(fun e=>by cases e),fun _=>?_⟩)
 ·rw[lt_f.2 (show (ofN c [0]).length≤9223372036854775807 by omega)];exact F
 dsimp only
 refine⟨by omega,by omega,by omega,by simp,rep_loop (by omega) fun i1 hi1=>?_⟩
 refine states_vc (by omega) (joinI ⟨fun q=>absurd (lt_t.1 q) (Nat.not_lt_zero _),fun _=>⟨by simp only[List.length_singleton];omega,by omega,rfl,by omega,?_⟩⟩)
 refine joinI (joinB (a:=false) (fun F=>⟨fun q=>absurd (lt_t.1 q) (by dsimp only;omega),fun _=>?_⟩) ⟨(fun e=>by cases e),fun _=>?_⟩)
 ·rw[lt_f.2 (show (ofN c [14]).length≤9223372036854775807 by omega)];exact F
 dsimp only
 refine⟨by omega,by omega,by omega,by simp,rep_loop (by omega) fun s1 hs1=>?_⟩
 refine inputs_vc (by omega) (states_vc (by omega) ?_)
 refine joinB (a:=false) (fun F=>⟨fun q=>absurd C.len (ne_t.1 q),fun _=>⟨fun q=>absurd (C2.len.trans hv.symm) (ne_t.1 q),fun _=>⟨fun q=>absurd (C3.len.trans hv.symm) (ne_t.1 q),fun _=>⟨fun q=>absurd rfl (ne_t.1 q),fun _=>?_⟩⟩⟩⟩) ⟨(fun e=>by cases e),fun _=>?_⟩
 ·rw[ne_f.2 rfl];exact F
 refine joinLoop (fun s=>s.2≤v.length∧s.1=allA v s.2) (fun s=>v.length-s.2) (fun a=>a=allA v v.length) ?_ ⟨Nat.zero_le _,rfl⟩ ?_
 ·rintro k ⟨b,i⟩ nx ⟨hi,hb⟩ hnx hk
  dsimp only at hi hb
  refine⟨fun q=>?_,fun q=>?_⟩
  ·have q:=lt_t.1 q
   (try dsimp only at q)
   have hin:i<c.nodes.length:=by omega
   have hbl:b.length≤i:=by rw[hb];exact allA_len v i
   refine joinPs (fun a=>a=allA v (i+1)) (fun k2 hk2=>?_) (fun a ha=>⟨by omega,hnx _ ⟨q,ha⟩ (by dsimp only;omega)⟩)
   refine joinB (a:=false) (fun F=>⟨_,getN hv hin,_,getN w1 hin,fun q3=>absurd (w2 i).symm (ne_t.1 q3),fun _=>⟨_,getN hv hin,_,getN C2.len hin,fun q3=>absurd (e2 i).symm (ne_t.1 q3),fun _=>⟨_,getN C3.len hin,fun q3=>⟨_,getN C3.len hin,_,getN hv hin,?_⟩,fun _=>F⟩⟩⟩) ⟨(fun e=>by cases e),fun _=>⟨_,getN hv hin,fun q3=>⟨_,getN hv hin,by simp only[List.length_singleton];omega,hk2 _ ?_⟩,fun q3=>hk2 _ ?_⟩⟩
   ·rw[ne_f.2 ((b3 i).resolve_left (ne_t.1 q3))];exact F
   ·rw[allA_succ,if_neg (ne_t.1 q3),hb]
   ·rw[allA_succ,if_pos (ne_f.1 q3),hb]
  ·have q:=lt_f.1 q
   (try dsimp only at q)
   have:i=v.length:=by omega
   subst this
   exact hk b hb
 rintro _ rfl
 refine fill_loop rfl hv (by omega) (fun f m=>(ofN_mem m).1) hi1 fun i2 hi2 hi3=>?_
 refine fill_loop rfl hv (by omega) (fun f m=>(ofN_mem m).1) hs1 fun s2 hs2 hs3=>?_
 have hall:∀ y∈allA v v.length,y.net<c.nodes.length∧y.value≤1:=fun y m=>by
  obtain⟨m1,m2,m3⟩:=allA_mem m
  have:=C.le y.net
  exact⟨by omega,by omega⟩
 have hal:=allA_len v v.length
 refine close_res p f3 hall (by omega) fun r4 R4=>⟨hi2.symm,hs2.symm,run_vc p ⟨hi2,hs2,fun u m=>?_,fun u m=>?_⟩ fun rsp t N=>?_⟩
 ·obtain⟨j,hj,e5⟩:=List.getElem_of_mem m
  obtain⟨f,hf⟩:=get_lt (l:=ofN c [0]) (i:=j) (by have hj':j<i2.length:=hj;omega)
  have:=hi3 j f hf
  rw[List.getD,List.getElem?_eq_getElem hj] at this
  simp only[Option.getD_some] at this
  rw[← e5,this];exact C.le f
 ·obtain⟨j,hj,e5⟩:=List.getElem_of_mem m
  obtain⟨f,hf⟩:=get_lt (l:=ofN c [14]) (i:=j) (by have hj':j<s2.length:=hj;omega)
  have:=hs3 j f hf
  rw[List.getD,List.getElem?_eq_getElem hj] at this
  simp only[Option.getD_some] at this
  rw[← e5,this];exact C.le f
 have W4:CW c (allA v v.length) v:=⟨hv,C.le,fun y m=>(allA_mem m).2.2.symm,C.cw.cls⟩
 cases R4 with
 |no h=>exact absurd W4 (h v)
 |ok u C4 =>
  have eu:∀ i,u.getD i 0=v.getD i 0:=fun i=>by
   have h1:=C4.snd v W4 i
   rcases h1 with h1|h1
   ·by_cases e5:v.getD i 0=2
    ·rw[h1,e5]
    ·by_cases hi:i<v.length
     ·have:=C4.giv _ (allA_of hi e5)
      exact this
     ·rw[getD_out (by rw[C4.len];omega),getD_out (by omega)]
   ·exact h1
  have below:=sim_below p f3 N C.le C.cw.cls hv hi3 hs3
  refine joinB (a:=false) (fun F=>⟨(fun q=>absurd rfl (ne_t.1 q)),fun _=>⟨(fun q=>by cases q),fun _=>⟨(fun q=>absurd rfl (ne_t.1 q)),fun _=>⟨fun q=>absurd (N.len.trans hv.symm) (ne_t.1 q),fun _=>?_⟩⟩⟩⟩) ⟨(fun e=>by cases e),fun _=>?_⟩
  ·rw[ne_f.2 (show u.length=v.length by rw[C4.len,hv])];exact F
  refine joinLoop (fun i=>i≤v.length) (fun i=>v.length-i) (fun _=>True) ?_ (Nat.zero_le _) (fun _ _=>rfl)
  intro k i nx hi hnx hk
  refine⟨fun q=>?_,fun _=>hk () trivial⟩
  have q:=lt_t.1 q
  have hin:i<c.nodes.length:=by omega
  refine joinB (a:=false) (fun F=>⟨_,getN C4.len hin,_,getN hv hin,fun q3=>absurd (eu i) (ne_t.1 q3),fun _=>⟨_,getN N.len hin,fun q3=>⟨_,getN N.len hin,_,getN hv hin,?_⟩,fun _=>F⟩⟩) ⟨(fun e=>by cases e),fun _=>⟨by omega,hnx _ q (by omega)⟩⟩
  rw[ne_f.2 ((below i).resolve_left (ne_t.1 q3))];exact F
def impliesCloses_sh:List (Sh×Bool):=[(shC,true),(.slice shU2,false),(shB,false)]
theorem impliesCloses_call (x:DenL impliesCloses_sh) (w:wfL impliesCloses_sh x):FnV Tryz.prog NG vars 3 ⟨argL impliesCloses_sh x⟩ (.bool true):=by
 obtain⟨c,vs,n,u⟩:=x
 obtain⟨wc,wv,wn,_⟩:=w
 obtain⟨y,hy,e1⟩:=c_arg wc
 obtain⟨l,hl,e2⟩:=pairs_arg wv
 obtain⟨n,hn,rfl⟩:=byte_of wn
 have e:argL impliesCloses_sh (c,vs,Int.ofNat n,u)=[encC y,encL 2 encU2 l,n8 n]:=by
  show [elV (!true) (shC.cellsF c),elV (!false) ((Sh.slice shU2).cellsF vs),elV (!false) (shB.cellsF (Int.ofNat n))]=_
  rw[e1,e2];rfl
 rw[e]
 exact FnV.of_walk (enc:=Value.bool) (r:=true) (PureV.flat rfl) fun h hB=>probecardlaw24_ImpliesCloses_walk (impliesCloses_vc hy (fun u m=>(hl u m).1) hn) hB
end Go.Proofs.YtfhldkgelipnaaaGreatDoor
