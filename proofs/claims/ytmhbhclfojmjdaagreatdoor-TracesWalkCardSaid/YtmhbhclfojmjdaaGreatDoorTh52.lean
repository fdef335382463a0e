/-
  U7, U8, U9, Ua, Ub, V3, Ud, TracesWalk: parts of the proof.
-/
import Derived.Test.YtmhbhclfojmjdaaGreatDoorTh51
namespace Go.Proofs.YtmhbhclfojmjdaaGreatDoor
open Go.Abs
set_option maxRecDepth 100000
def chgL (t ins:List Nat) (j:Nat):List Nat:=ins.mapIdx fun i y=>if i=j then notN (t.getD y 0) else t.getD y 0
def chgB (c:Circ) (t:List Nat) (k j:Nat):Bool:=neN (evalG (kd c k) (chgL t (insOf c k) j)) (t.getD k 0)
def critN (c:Circ) (p:Pat) (m:Nat):Bool:=detN c p m (notN ((valV c p).getD m 0))
def critP (c:Circ) (p:Pat) (k j:Nat):Bool:=detP c p k j (notN ((valV c p).getD ((insOf c k).getD j 0) 0))
def netOf (c:Circ) (l:LnZ):Nat:=if l.pin<0 then l.node else (insOf c l.node).getD l.pin.toNat 0
theorem netOf_pin (c:Circ) (k j:Nat):netOf c ⟨k,Int.ofNat j⟩=(insOf c k).getD j 0:=by
 have h:¬ (Int.ofNat j<0):=Int.not_lt.2 (Int.natCast_nonneg j)
 unfold netOf
 dsimp only
 rw[if_neg h]
 rfl
def critL (c:Circ) (p:Pat) (l:LnZ):Bool:=detB c p ⟨0,l,notN ((valV c p).getD (netOf c l) 0),0⟩
theorem critL_net (c:Circ) (p:Pat) (m:Nat):critL c p ⟨m,Int.negSucc 0⟩=critN c p m:=by
 unfold critL
 rw[det_net]
 rfl
theorem critL_pin (c:Circ) (p:Pat) (k j:Nat):critL c p ⟨k,Int.ofNat j⟩=critP c p k j:=by
 unfold critL
 rw[det_pin]
 rw[netOf_pin]
 rfl
theorem readF_eq {t:List Nat}{k j y:Nat}{x:Node} (hj:x.ins[j]?=some y):readV (pinF k (Int.ofNat j) (notN (t.getD y 0))) t k x=chgL t x.ins j:=by
 unfold readV chgL
 refine List.ext_getElem (by simp) fun a b d=>?_
 simp only[List.getElem_mapIdx]
 unfold pinF
 have ha:a<x.ins.length:=by simpa using b
 by_cases e:a=j
 ·subst e
  rw[List.getElem?_eq_getElem ha] at hj
  cases hj
  rw[if_pos ⟨rfl,rfl⟩,if_pos rfl]
 ·rw[if_neg e,if_neg]
  rintro⟨_,q⟩
  exact e (Int.ofNat.inj q)
theorem getD_eq {l:List Nat}{j y:Nat} (h:l[j]?=some y):l.getD j 0=y:=by rw[List.getD,h];rfl
theorem notN_bin {v:Nat} (h:v<=1):notN v=1-v:=by unfold notN;rw[if_pos h]
theorem notN_3 (v:Nat):notN v<=3:=by unfold notN;split <;> omega
theorem chg_le {c:Circ} (P:Plz c) {p:Pat} (F:Full c p) {k j:Nat}{x:Node} (hx:c.nodes[k]?=some x) (hc:combB x.kind=true):evalG x.kind (chgL (valV c p) x.ins j)<=1:=by
 have hc':=of_decide_eq_true hc
 have:=P.kinds k x hx
 unfold evalG
 rw[if_neg (by omega),if_neg (by omega)]
 refine evalN_bin hc'.1 (by omega) fun v hv=>?_
 unfold chgL at hv
 rw[List.mem_mapIdx] at hv
 obtain⟨a,ha,rfl⟩:=hv
 have:=V_bin P F x.ins[a]
 split
 ·rw[notN_bin this];omega
 ·exact this
theorem critP_gate {c:Circ} (P:Plz c) {p:Pat} (F:Full c p) {k j y:Nat}{x:Node} (hx:c.nodes[k]?=some x) (hc:combB x.kind=true) (hj:x.ins[j]?=some y):critP c p k j=(chgB c (valV c p) k j&&critN c p k):=by
 have C:=P.cir
 have hp:=F.pat
 have e1:(insOf c k).getD j 0=y:=by rw[insOf_eq hx];exact getD_eq hj
 have hu:=chg_le P F (j:=j) hx hc
 have hv:=V_bin P F k
 unfold critP critN chgB
 rw[e1,pin_gate C hp (notN_3 _) hx hc,readF_eq hj,kd_eq hx,insOf_eq hx]
 by_cases e:evalG x.kind (chgL (valV c p) x.ins j)=(valV c p).getD k 0
 ·rw[e,detN_same C hp,ne_f.2 rfl]
  rfl
 ·have:evalG x.kind (chgL (valV c p) x.ins j)=notN ((valV c p).getD k 0):=by rw[notN_bin hv];omega
  rw[ne_t.2 e,this,Bool.true_and]
theorem con_not {v:Nat} (h:v<=1):Con v (notN v):=by rw[notN_bin h];exact⟨h,by omega,by omega⟩
theorem critP_dff {c:Circ} (P:Plz c) {p:Pat} (F:Full c p) {k j:Nat}{x:Node} (hx:c.nodes[k]?=some x) (hk:x.kind=14) (hj:j<x.ins.length):critP c p k j=true:=by
 have C:=P.cir
 obtain⟨y,hy,_,hd,hl⟩:=dff_pin C (c:=c) (s:=k) (ofN_mem.2 ⟨lt_of_get hx,by rw[kd_eq hx];exact hk⟩)
 rw[hx] at hy;cases hy
 have j0:j=0:=by omega
 subst j0
 have hv:=V_bin P F (dOf c k)
 have e:(insOf c k).getD 0 0=dOf c k:=rfl
 unfold critP
 rw[e,detP_state C F.pat (notN_3 _) hx hk,decide_eq_true_eq,notN_bin hv]
 exact⟨by omega,by omega,by omega⟩
theorem critN_out {c:Circ} (P:Plz c) {p:Pat} (F:Full c p) {m:Nat} (h:m∈c.outs):critN c p m=true :=
 net_out P.cir F.pat (notN_3 _) (P.cir.good.outs m h) h (con_not (V_bin P F m))
theorem critN_dff {c:Circ} (P:Plz c) {p:Pat} (F:Full c p) {k j m:Nat} (hk:kd c k=14) (h:(insOf c k)[j]?=some m):critN c p m=true:=by
 have C:=P.cir
 obtain⟨x,hx,hj⟩:=insOf_node h
 have hs:k∈ofN c [14]:=ofN_mem.2 ⟨lt_of_get hx,hk⟩
 obtain⟨y,hy,_,hd,hl⟩:=dff_pin C hs
 rw[hx] at hy;cases hy
 have j0:j=0:=by have:=lt_of_get hj;omega
 subst j0
 rw[hd] at h
 cases h
 exact net_state C F.pat (notN_3 _) hs (con_not (V_bin P F _))
theorem critN_one {c:Circ} (P:Plz c) {p:Pat} (F:Full c p) {m k j:Nat} (h:One c m k j) (hm:m<c.nodes.length):critN c p m=critP c p k j:=by
 unfold critN critP
 rw[getD_eq h.pin]
 exact net_one P.cir F.pat (notN_3 _) h hm
theorem critN_none {c:Circ} (P:Plz c) {p:Pat} (F:Full c p) {m:Nat} (h:manyN c m=0) (hm:m<c.nodes.length):critN c p m=false :=
 net_none P.cir F.pat (notN_3 _) hm (many_zero h).1 (many_zero h).2
theorem pin_comb {c:Circ} (P:Plz c) {k j m:Nat}{x:Node} (hx:c.nodes[k]?=some x) (hj:x.ins[j]?=some m) (hk:x.kind≠14):combB x.kind=true:=by
 refine decide_eq_true ?_
 have:=P.cir.kinds k x hx
 by_cases e:x.kind=0
 ·have ha:=(P.cir.good.node k x hx).arity
  rw[e] at ha
  have:hiZ 0=0:=by decide
  have q:=ha.2
  rw[this] at q
  have:=lt_of_get hj
  simp only[Int.ofNat_eq_natCast] at q
  omega
 ·omega
inductive Rch (c:Circ) (t:List Nat) (s:Nat):Nat->Prop
 |base:Rch c t s s
 |step {k j m:Nat} {x:Node}:Rch c t s k->c.nodes[k]?=some x->combB x.kind=true->x.ins[j]?=some m->chgB c t k j=true->manyN c m=1->Rch c t s m
def startB (c:Circ) (p:Pat) (n:Nat):Bool:=(c.outs.contains n||(decide (1<manyN c n)&&critN c p n))||(fanOf c n).any fun l=>kd c l.node==14
def InW (c:Circ) (t:List Nat) (s:Nat) (l:LnZ):Prop:=Rch c t s l.node/\(l.pin=Int.negSucc 0\/∃ j x,l.pin=Int.ofNat j/\c.nodes[l.node]?=some x/\combB x.kind=true/\j<x.ins.length/\chgB c t l.node j=true)
theorem Rch.le {c:Circ} (C:Cir c) {t:List Nat}{s m:Nat} (h:Rch c t s m):m<=s:=by
 induction h with
 |base=>exact Nat.le_refl _
 |step _ hx hc hj _ _ ih=>have:=ins_lt C hx hc (List.mem_of_getElem? hj);omega
theorem Rch.lt {c:Circ} (C:Cir c) {t:List Nat}{s m:Nat} (hs:s<c.nodes.length) (h:Rch c t s m):m<c.nodes.length:=Nat.lt_of_le_of_lt (h.le C) hs
theorem not_start {c:Circ}{p:Pat}{k j m:Nat}{x:Node} (hx:c.nodes[k]?=some x) (hc:combB x.kind=true) (hj:x.ins[j]?=some m) (h1:manyN c m=1):startB c p m=false:=by
 have o:=one_of h1 (by rw[insOf_eq hx];exact hj)
 unfold startB
 have a1:c.outs.contains m=false:=by
  rw[Bool.eq_false_iff]
  intro q
  exact o.outs (List.contains_iff_mem.1 q)
 have a2:(fanOf c m).any (fun l=>kd c l.node==14)=false:=by
  rw[List.any_eq_false]
  rintro⟨a,b⟩ hm q
  have q:kd c a=14:=by simpa using q
  obtain⟨rfl,rfl⟩:=o.only a b (fan_mem.1 hm)
  rw[kd_eq hx] at q
  have:=of_decide_eq_true hc
  omega
 rw[a1,a2,h1]
 rfl
theorem Rch.uniq {c:Circ}{p:Pat}{t:List Nat}{s s' m:Nat} (hs:startB c p s=true) (hs':startB c p s'=true) (h:Rch c t s m):Rch c t s' m->s=s':=by
 induction h with
 |base =>
  intro h'
  cases h' with
  |base=>rfl
  |step _ hx hc hj _ h1=>rw[not_start hx hc hj h1] at hs;cases hs
 |step hr hx hc hj _ h1 ih =>
  intro h'
  cases h' with
  |base=>rw[not_start hx hc hj h1] at hs';cases hs'
  |step hr' hx' hc' hj' _ _ =>
   have o:=one_of h1 (by rw[insOf_eq hx];exact hj)
   have:=(o.only _ _ (by rw[insOf_eq hx'];exact hj')).1
   subst this
   exact ih hr'
theorem start_crit {c:Circ} (P:Plz c) {p:Pat} (F:Full c p) {s:Nat} (h:startB c p s=true):critN c p s=true:=by
 unfold startB at h
 rw[Bool.or_eq_true,Bool.or_eq_true,Bool.and_eq_true] at h
 rcases h with (h|h) | h
 ·exact critN_out P F (List.contains_iff_mem.1 h)
 ·exact h.2
 ·obtain⟨⟨a,b⟩,hm,q⟩:=List.any_eq_true.1 h
  exact critN_dff P F (by simpa using q) (fan_mem.1 hm)
theorem Rch.crit {c:Circ} (P:Plz c) {p:Pat} (F:Full c p) {s m:Nat} (hs:critN c p s=true) (h:Rch c (valV c p) s m):critN c p m=true:=by
 induction h with
 |base=>exact hs
 |step hr hx hc hj hg h1 ih =>
  have o:=one_of h1 (by rw[insOf_eq hx];exact hj)
  have hm:=(P.cir.good.node _ _ hx).ins _ (List.mem_of_getElem? hj)
  rw[critN_one P F o hm,critP_gate P F hx hc hj,hg,ih]
  rfl
theorem crit_cover {c:Circ} (P:Plz c) {p:Pat} (F:Full c p):∀ n m,m<c.nodes.length->c.nodes.length-m<=n->critN c p m=true->∃ s,s<c.nodes.length/\startB c p s=true/\Rch c (valV c p) s m:=by
 have C:=P.cir
 intro n
 induction n with
 |zero=>intro m h1 h2;omega
 |succ n ih =>
  intro m hm hn hcr
  by_cases hs:startB c p m=true
  ·exact⟨m,hm,hs,.base⟩
  have hs0:=hs
  unfold startB at hs
  rw[Bool.or_eq_true,Bool.or_eq_true,Bool.and_eq_true,not_or,not_or] at hs
  obtain⟨⟨a1,a2⟩,a3⟩:=hs
  have h1:¬ 1<manyN c m:=fun q=>a2 ⟨decide_eq_true q,hcr⟩
  have h0:manyN c m≠0:=fun q=>by rw[critN_none P F q hm] at hcr;cases hcr
  have h1:manyN c m=1:=by omega
  have ho:m ∉ c.outs:=fun q=>a1 (List.contains_iff_mem.2 q)
  have hf:(fanOf c m).length=1:=by
   unfold manyN at h1
   rw[List.count_eq_zero.2 ho] at h1
   exact h1
  obtain⟨⟨k,j⟩,hl⟩:=List.length_eq_one_iff.1 hf
  have hmem:(⟨k,j⟩:Ln)∈fanOf c m:=by rw[hl];exact .head _
  have hpin:=fan_mem.1 hmem
  obtain⟨x,hx,hj⟩:=insOf_node hpin
  have hk:x.kind≠14:=fun q=>a3 (List.any_eq_true.2 ⟨_,hmem,by rw[kd_eq hx,q];rfl⟩)
  have hc:=pin_comb P hx hj hk
  have o:=one_of h1 hpin
  have:=ins_lt C hx hc (List.mem_of_getElem? hj)
  rw[critN_one P F o hm,critP_gate P F hx hc hj,Bool.and_eq_true] at hcr
  obtain⟨s,hsn,hss,hr⟩:=ih k (lt_of_get hx) (by omega) hcr.2
  exact⟨s,hsn,hss,hr.step hx hc hj hcr.1 h1⟩
def PartW (c:Circ) (p:Pat) (m:Nat) (l:LnZ):Prop:=(l∈(fanOf c m).map Ln.toZ/\kd c l.node=14)\/(startB c p m=true/\InW c (valV c p) m l)
theorem toZ_mem {c:Circ}{m:Nat}{l:LnZ}:l∈(fanOf c m).map Ln.toZ ↔ ∃ j,l.pin=Int.ofNat j/\(insOf c l.node)[j]?=some m:=by
 rw[List.mem_map]
 constructor
 ·rintro⟨⟨a,b⟩,h,rfl⟩
  exact⟨b,rfl,fan_mem.1 h⟩
 ·rintro⟨j,h1,h2⟩
  refine⟨⟨l.node,j⟩,fan_mem.2 h2,?_⟩
  obtain⟨a,b⟩:=l
  dsimp only at h1
  subst h1
  rfl
theorem part_uniq {c:Circ}{p:Pat}{m m':Nat}{l:LnZ} (h:PartW c p m l) (h':PartW c p m' l):m=m':=by
 have mix:∀ {a b:Nat},(l∈(fanOf c a).map Ln.toZ/\kd c l.node=14)->InW c (valV c p) b l->False:=by
  rintro a b ⟨h1,h2⟩ ⟨_,h3⟩
  obtain⟨j,e,_⟩:=toZ_mem.1 h1
  rcases h3 with h3|⟨j',x,h3,hx,hc,_⟩
  ·rw[e] at h3;cases h3
  ·rw[kd_eq hx] at h2
   have:=of_decide_eq_true hc
   omega
 rcases h with⟨h1,h2⟩|⟨h1,h2⟩ <;> rcases h' with⟨h3,h4⟩|⟨h3,h4⟩
 ·obtain⟨j,e,g⟩:=toZ_mem.1 h1
  obtain⟨j',e',g'⟩:=toZ_mem.1 h3
  rw[e] at e'
  cases e'
  rw[g] at g'
  exact Option.some.inj g'
 ·exact (mix ⟨h1,h2⟩ h4).elim
 ·exact (mix ⟨h3,h4⟩ h2).elim
 ·exact Rch.uniq h1 h3 h2.1 h4.1
theorem line_mem {c:Circ}{l:LnZ}:l∈linesN c↔l.node<c.nodes.length/\(l.pin=Int.negSucc 0\/∃ j,l.pin=Int.ofNat j/\j<(insOf c l.node).length):=by
 unfold linesN linesTo rowL
 rw[List.mem_flatMap]
 constructor
 ·rintro⟨i,hi,h⟩
  obtain⟨j,hj,rfl⟩:=List.mem_map.1 h
  have hi:=List.mem_range.1 hi
  have hj:=List.mem_range.1 hj
  refine⟨hi,?_⟩
  cases j with
  |zero=>exact .inl rfl
  |succ j=>exact .inr ⟨j,by simp only[Int.ofNat_eq_natCast];omega,by dsimp only;omega⟩
 ·obtain⟨n,q⟩:=l
  rintro⟨h1,h2⟩
  dsimp only at h1 h2
  refine⟨n,List.mem_range.2 h1,?_⟩
  rcases h2 with rfl|⟨j,rfl,hj⟩
  ·exact List.mem_map.2 ⟨0,List.mem_range.2 (by omega),rfl⟩
  ·exact List.mem_map.2 ⟨j+1,List.mem_range.2 (by omega),by simp only[Int.ofNat_eq_natCast,LnZ.mk.injEq,true_and];omega⟩
theorem inW_line {c:Circ} (P:Plz c) {p:Pat} (_F:Full c p) {s:Nat}{l:LnZ} (hs:s<c.nodes.length) (h:InW c (valV c p) s l):l∈linesN c:=by
 obtain⟨h1,h2⟩:=h
 refine line_mem.2 ⟨h1.lt P.cir hs,?_⟩
 rcases h2 with h2|⟨j,x,h2,hx,_,hj,_⟩
 ·exact .inl h2
 ·exact .inr ⟨j,h2,by rw[insOf_eq hx];exact hj⟩
theorem part_crit {c:Circ} (P:Plz c) {p:Pat} (F:Full c p) {l:LnZ}:(∃ m,m<c.nodes.length/\PartW c p m l)↔l∈linesN c/\critL c p l=true:=by
 have C:=P.cir
 constructor
 ·rintro⟨m,hm,h⟩
  rcases h with⟨h1,h2⟩|⟨h1,h2⟩
  ·obtain⟨j,e,g⟩:=toZ_mem.1 h1
   obtain⟨x,hx,hj⟩:=insOf_node g
   rw[kd_eq hx] at h2
   have hl:=lt_of_get hj
   refine⟨line_mem.2 ⟨lt_of_get hx,.inr ⟨j,e,by rw[insOf_eq hx];exact hl⟩⟩,?_⟩
   obtain⟨a,b⟩:=l
   dsimp only at e
   subst e
   rw[critL_pin]
   exact critP_dff P F hx h2 hl
  ·refine⟨inW_line P F hm h2,?_⟩
   obtain⟨h3,h4⟩:=h2
   have hcr:=Rch.crit P F (start_crit P F h1) h3
   obtain⟨a,b⟩:=l
   dsimp only at h3 h4 hcr
   rcases h4 with rfl|⟨j,x,rfl,hx,hc,hj,hg⟩
   ·rw[critL_net];exact hcr
   ·obtain⟨y,hy⟩:=get_lt hj
    rw[critL_pin,critP_gate P F hx hc hy,hg,hcr]
    rfl
 ·rintro⟨h1,h2⟩
  obtain⟨h3,h4⟩:=line_mem.1 h1
  obtain⟨a,b⟩:=l
  dsimp only at h3 h4
  rcases h4 with rfl|⟨j,rfl,hj⟩
  ·rw[critL_net] at h2
   obtain⟨s,hs,hss,hr⟩:=crit_cover P F _ a h3 (Nat.le_refl _) h2
   exact⟨s,hs,.inr ⟨hss,hr,.inl rfl⟩⟩
  ·obtain⟨x,hx⟩:=get_lt h3
   rw[insOf_eq hx] at hj
   obtain⟨y,hy⟩:=get_lt hj
   by_cases hk:x.kind=14
   ·have hyn:=(C.good.node a x hx).ins y (List.mem_of_getElem? hy)
    exact⟨y,hyn,.inl ⟨toZ_mem.2 ⟨j,rfl,by rw[insOf_eq hx];exact hy⟩,by rw[kd_eq hx];exact hk⟩⟩
   ·have hc:=pin_comb P hx hy hk
    rw[critL_pin,critP_gate P F hx hc hy,Bool.and_eq_true] at h2
    obtain⟨s,hs,hss,hr⟩:=crit_cover P F _ a h3 (Nat.le_refl _) h2.2
    exact⟨s,hs,.inr ⟨hss,hr,.inr ⟨j,x,rfl,hx,hc,hj,h2.1⟩⟩⟩
theorem changes_vc {c:Circ} (C:Cir c) {t:List Nat} (ht:t.length=c.nodes.length) {k:Nat}{x:Node} (hx:c.nodes[k]?=some x) (hc:combB x.kind=true) (j:Nat) {K:Bool->Prop} (h:K (chgB c t k j)):traces_changes_wp c t k j K:=by
 have g:=C.good.node k x hx
 have hfew:=g.few
 unfold traces_changes_wp
 refine joinP (fun l=>l=chgL t x.ins j) (fun k1 hk1=>⟨x,hx,?_⟩) ?_
 ·refine loopW_intro (fun s=>s.2<=x.ins.length/\s.1=(chgL t x.ins j).take s.2) (fun s=>x.ins.length-s.2) ?_ ⟨Nat.zero_le _,rfl⟩
  rintro⟨l,i⟩ nx ⟨hi,hl⟩ hnx
  dsimp only at hi hl
  refine⟨fun q=>?_,fun q=>hk1 _ ?_⟩
  ·have q:i<x.ins.length:=lt_t.1 q
   obtain⟨y,hy⟩:=get_lt q
   have hyn:=g.ins y (List.mem_of_getElem? hy)
   have hv:(chgL t x.ins j)[i]?=some (if i=j then notN (t.getD y 0) else t.getD y 0):=by
    unfold chgL
    rw[List.getElem?_mapIdx,hy]
    rfl
   have hll:l.length<=16:=by rw[hl,List.length_take];omega
   refine⟨y,hy,_,getN ht hyn,joinB' (a:=if i=j then notN (t.getD y 0) else t.getD y 0) (fun G=>⟨fun q=>not_vc ?_,fun q=>?_⟩) ⟨by simp only[List.length_cons,List.length_nil];omega,by omega,hnx _ ⟨q,?_⟩ (by dsimp only;omega)⟩⟩
   ·rw[if_pos (eq_t.1 q)] at G;exact G
   ·rw[if_neg (eq_f.1 q)] at G;exact G
   ·dsimp only
    rw[hl,takeG hv]
  ·have q:x.ins.length<=i:=lt_f.1 q
   rw[hl,List.take_of_length_le (by unfold chgL;rw[List.length_mapIdx];exact q)]
 ·rintro _ rfl
  refine⟨x,hx,evalNode C hx hc (by unfold chgL;rw[List.length_mapIdx]) ⟨_,getN ht (lt_of_get hx),?_⟩⟩
  unfold chgB at h
  rw[kd_eq hx,insOf_eq hx] at h
  exact h
theorem nodupLen {α:Type} [DecidableEq α]:∀ {l m:List α},l.Nodup->(∀ x∈l,x∈m)->l.length<=m.length
 |[],_,_,_=>Nat.zero_le _
 |a::l,m,hn,hs=>by
  obtain⟨h1,h2⟩:=List.nodup_cons.1 hn
  have ha:a∈m:=hs a (.head _)
  have:=nodupLen (m:=m.erase a) h2 fun x hx=>(List.mem_erase_of_ne (fun e=>h1 (by rw[<- e];exact hx))).2 (hs x (.tail _ hx))
  rw[List.length_erase_of_mem ha] at this
  have:=List.length_pos_of_mem ha
  rw[List.length_cons]
  omega
theorem nodup_snoc {α:Type}{l:List α}{a:α}:(l++[a]).Nodup↔l.Nodup/\a ∉ l:=by
 rw[List.nodup_append]
 constructor
 ·rintro⟨h1,_,h3⟩
  exact⟨h1,fun m=>h3 a m a (.head _) rfl⟩
 ·rintro⟨h1,h2⟩
  refine⟨h1,List.pairwise_singleton _ _,fun x hx y hy e=>h2 ?_⟩
  rw[List.mem_singleton] at hy
  rw[<- hy,<- e];exact hx
structure Wk (c:Circ) (t:List Nat) (s:Nat) (out:List LnZ) (st:List Nat) (k j:Nat):Prop where
 nd:out.Nodup
 sub:∀ l∈out,InW c t s l
 snd:st.Nodup
 stn:∀ q∈st,(⟨q,Int.negSucc 0⟩:LnZ)∈out/\∀ i:Nat,(⟨q,Int.ofNat i⟩:LnZ) ∉ out
 root:(⟨s,Int.negSucc 0⟩:LnZ)∈out
 par:∀ m,(⟨m,Int.negSucc 0⟩:LnZ)∈out->m=s\/∃ a b,(insOf c a)[b]?=some m/\(⟨a,Int.ofNat b⟩:LnZ)∈out
 cls:∀ q,(⟨q,Int.negSucc 0⟩:LnZ)∈out->q ∉ st->∀ i x y,(q=k->i<j)->c.nodes[q]?=some x->combB x.kind=true->x.ins[i]?=some y->chgB c t q i=true->(⟨q,Int.ofNat i⟩:LnZ)∈out/\(manyN c y=1->(⟨y,Int.negSucc 0⟩:LnZ)∈out)
 free:∀ i,j<=i->(⟨k,Int.ofNat i⟩:LnZ) ∉ out
 kst:k ∉ st
 own:∀ q i,(⟨q,Int.ofNat i⟩:LnZ)∈out->(⟨q,Int.negSucc 0⟩:LnZ)∈out
theorem Wk.start {c:Circ}{t:List Nat}{s:Nat} (hs:s<c.nodes.length):Wk c t s [⟨s,Int.negSucc 0⟩] [s] c.nodes.length 0 where
 nd:=List.pairwise_singleton _ _
 sub l h:=by rw[List.mem_singleton] at h;subst h;exact⟨.base,.inl rfl⟩
 snd:=List.pairwise_singleton _ _
 stn q h:=by rw[List.mem_singleton] at h;subst h;exact⟨.head _,fun i m=>by rw[List.mem_singleton] at m;cases m⟩
 root:=.head _
 par m h:=by rw[List.mem_singleton] at h;cases h;exact .inl rfl
 cls q h1 h2:=by rw[List.mem_singleton] at h1;cases h1;exact absurd (.head _) h2
 free i _ m:=by rw[List.mem_singleton] at m;cases m
 kst m:=by rw[List.mem_singleton] at m;omega
 own q i m:=by rw[List.mem_singleton] at m;cases m
theorem Wk.enter {c:Circ}{t:List Nat}{s k:Nat}{out:List LnZ}{st:List Nat} (W:Wk c t s out (st++[k]) c.nodes.length 0):Wk c t s out st k 0 where
 nd:=W.nd
 sub:=W.sub
 snd:=(nodup_snoc.1 W.snd).1
 stn q h:=W.stn q (List.mem_append.2 (.inl h))
 root:=W.root
 par:=W.par
 cls q h1 h2 i x y h3 hx:=W.cls q h1 (fun m=>by
  rcases List.mem_append.1 m with m|m
  ·exact h2 m
  ·rw[List.mem_singleton] at m
   exact absurd (h3 m) (Nat.not_lt_zero _)) i x y (fun e=>by have:=lt_of_get hx;omega) hx
 free i _:=(W.stn k (List.mem_append.2 (.inr (.head _)))).2 i
 kst:=(nodup_snoc.1 W.snd).2
 own:=W.own
theorem Wk.leave {c:Circ}{t:List Nat}{s k j:Nat}{out:List LnZ}{st:List Nat} (hs:s<c.nodes.length) (C:Cir c) (W:Wk c t s out st k j) (hk:∀ x,c.nodes[k]?=some x->combB x.kind=true->x.ins.length<=j):Wk c t s out st c.nodes.length 0 where
 nd:=W.nd
 sub:=W.sub
 snd:=W.snd
 stn:=W.stn
 root:=W.root
 par:=W.par
 cls q h1 h2 i x y _ hx hc hi:=W.cls q h1 h2 i x y (fun e=>by subst e;have:=hk x hx hc;have:=lt_of_get hi;omega) hx hc hi
 free i _ m:=by
  have:=(W.sub _ m).1.lt C hs
  dsimp only at this
  omega
 kst m:=by
  have:=(W.sub _ (W.stn _ m).1).1.lt C hs
  dsimp only at this
  omega
 own:=W.own
theorem Wk.step0 {c:Circ}{t:List Nat}{s k j:Nat}{out:List LnZ}{st:List Nat} (W:Wk c t s out st k j) (h:chgB c t k j=false):Wk c t s out st k (j+1) where
 nd:=W.nd
 sub:=W.sub
 snd:=W.snd
 stn:=W.stn
 root:=W.root
 par:=W.par
 cls q h1 h2 i x y h3 hx hc hi hg:=W.cls q h1 h2 i x y (fun e=>by
  have:=h3 e
  by_cases q:i=j
  ·subst q;rw[e,h] at hg;cases hg
  ·omega) hx hc hi hg
 free i hi:=W.free i (by omega)
 kst:=W.kst
 own:=W.own
theorem snoc_mem {α:Type}{l:List α}{a b:α}:a∈l++[b]↔a∈l\/a=b:=by rw[List.mem_append,List.mem_singleton]
theorem Wk.step1 {c:Circ}{t:List Nat}{s k j y:Nat}{x:Node}{out:List LnZ}{st:List Nat} (W:Wk c t s out st k j) (hx:c.nodes[k]?=some x) (hc:combB x.kind=true) (hj:x.ins[j]?=some y) (hk:(⟨k,Int.negSucc 0⟩:LnZ)∈out) (h:chgB c t k j=true) (hm:manyN c y≠1):Wk c t s (out++[⟨k,Int.ofNat j⟩]) st k (j+1) where
 nd:=nodup_snoc.2 ⟨W.nd,W.free j (Nat.le_refl _)⟩
 sub l m:=by
  rcases snoc_mem.1 m with m|rfl
  ·exact W.sub l m
  ·exact⟨(W.sub _ hk).1,.inr ⟨j,x,rfl,hx,hc,lt_of_get hj,h⟩⟩
 snd:=W.snd
 stn q m:=by
  obtain⟨h1,h2⟩:=W.stn q m
  refine⟨snoc_mem.2 (.inl h1),fun i m2=>?_⟩
  rcases snoc_mem.1 m2 with m2|e
  ·exact h2 i m2
  ·cases e;exact W.kst m
 root:=snoc_mem.2 (.inl W.root)
 par m hm:=by
  rcases snoc_mem.1 hm with hm|e
  ·rcases W.par m hm with e|⟨a,b,h1,h2⟩
   ·exact .inl e
   ·exact .inr ⟨a,b,h1,snoc_mem.2 (.inl h2)⟩
  ·cases e
 cls q h1 h2 i x' y' h3 hx' hc' hi hg:=by
  have h1:(⟨q,Int.negSucc 0⟩:LnZ)∈out:=by
   rcases snoc_mem.1 h1 with m|e
   ·exact m
   ·cases e
  by_cases e:q=k/\i=j
  ·obtain⟨rfl,rfl⟩:=e
   rw[hx] at hx';cases hx'
   rw[hj] at hi;cases hi
   exact⟨snoc_mem.2 (.inr rfl),fun e=>absurd e hm⟩
  ·obtain⟨a,b⟩:=W.cls q h1 h2 i x' y' (fun e2=>by have:=h3 e2;have:i≠j:=fun e3=>e ⟨e2,e3⟩;omega) hx' hc' hi hg
   exact⟨snoc_mem.2 (.inl a),fun e=>snoc_mem.2 (.inl (b e))⟩
 free i hi m:=by
  rcases snoc_mem.1 m with m|e
  ·exact W.free i (by omega) m
  ·have:=congrArg LnZ.pin e
   have:i=j:=Int.ofNat.inj this
   omega
 kst:=W.kst
 own q i m:=by
  rcases snoc_mem.1 m with m|e
  ·exact snoc_mem.2 (.inl (W.own q i m))
  ·have:=congrArg LnZ.node e
   dsimp only at this
   subst this
   exact snoc_mem.2 (.inl hk)
theorem Wk.step2 {c:Circ} (C:Cir c) {t:List Nat}{s k j y:Nat}{x:Node}{out:List LnZ}{st:List Nat} (W:Wk c t s out st k j) (hx:c.nodes[k]?=some x) (hc:combB x.kind=true) (hj:x.ins[j]?=some y) (hk:(⟨k,Int.negSucc 0⟩:LnZ)∈out) (h:chgB c t k j=true) (hm:manyN c y=1):Wk c t s ((out++[⟨k,Int.ofNat j⟩])++[⟨y,Int.negSucc 0⟩]) (st++[y]) k (j+1):=by
 have o:=one_of hm (by rw[insOf_eq hx];exact hj)
 have hlt:=ins_lt C hx hc (List.mem_of_getElem? hj)
 have hr:=(W.sub _ hk).1
 have hle:=hr.le C
 dsimp only at hle
 have hpin:(⟨k,Int.ofNat j⟩:LnZ) ∉ out:=W.free j (Nat.le_refl _)
 have hnew:(⟨y,Int.negSucc 0⟩:LnZ) ∉ out:=by
  intro m
  rcases W.par y m with e|⟨a,b,h1,h2⟩
  ·omega
  ·obtain⟨rfl,rfl⟩:=o.only a b h1
   exact hpin h2
 have up:∀ {l},l∈out->l∈(out++[(⟨k,Int.ofNat j⟩:LnZ)])++[⟨y,Int.negSucc 0⟩]:=fun m=>snoc_mem.2 (.inl (snoc_mem.2 (.inl m)))
 have net:∀ q,(⟨q,Int.negSucc 0⟩:LnZ)∈(out++[(⟨k,Int.ofNat j⟩:LnZ)])++[⟨y,Int.negSucc 0⟩]->(⟨q,Int.negSucc 0⟩:LnZ)∈out\/q=y:=by
  intro q m
  rcases snoc_mem.1 m with m|e
  ·rcases snoc_mem.1 m with m|e
   ·exact .inl m
   ·cases e
  ·cases e;exact .inr rfl
 have pin:∀ q i,(⟨q,Int.ofNat i⟩:LnZ)∈(out++[(⟨k,Int.ofNat j⟩:LnZ)])++[⟨y,Int.negSucc 0⟩]->(⟨q,Int.ofNat i⟩:LnZ)∈out\/(q=k/\i=j):=by
  intro q i m
  rcases snoc_mem.1 m with m|e
  ·rcases snoc_mem.1 m with m|e
   ·exact .inl m
   ·cases e;exact .inr ⟨rfl,rfl⟩
  ·cases e
 refine⟨nodup_snoc.2 ⟨nodup_snoc.2 ⟨W.nd,hpin⟩,fun m=>?_⟩,fun l m=>?_,nodup_snoc.2 ⟨W.snd,fun m=>hnew (W.stn y m).1⟩,fun q m=>?_,up W.root,fun m hm'=>?_,fun q h1 h2 i x' y' h3 hx' hc' hi hg=>?_,fun i hi m=>?_,fun m=>?_,fun q i m=>?_⟩
 ·rcases snoc_mem.1 m with m|e
  ·exact hnew m
  ·cases e
 ·rcases snoc_mem.1 m with m|rfl
  ·rcases snoc_mem.1 m with m|rfl
   ·exact W.sub l m
   ·exact⟨hr,.inr ⟨j,x,rfl,hx,hc,lt_of_get hj,h⟩⟩
  ·exact⟨hr.step hx hc hj h hm,.inl rfl⟩
 ·rcases snoc_mem.1 m with m|rfl
  ·obtain⟨h1,h2⟩:=W.stn q m
   refine⟨up h1,fun i m2=>?_⟩
   rcases pin q i m2 with m2|⟨rfl,rfl⟩
   ·exact h2 i m2
   ·exact W.kst m
  ·refine⟨snoc_mem.2 (.inr rfl),fun i m2=>?_⟩
   rcases pin q i m2 with m2|⟨rfl,rfl⟩
   ·exact hnew (W.own q i m2)
   ·omega
 ·rcases net m hm' with hm' | rfl
  ·rcases W.par m hm' with e|⟨a,b,h1,h2⟩
   ·exact .inl e
   ·exact .inr ⟨a,b,h1,up h2⟩
  ·exact .inr ⟨k,j,o.pin,snoc_mem.2 (.inl (snoc_mem.2 (.inr rfl)))⟩
 ·have h1:(⟨q,Int.negSucc 0⟩:LnZ)∈out:=by
   rcases net q h1 with m|rfl
   ·exact m
   ·exact absurd (snoc_mem.2 (.inr rfl)) h2
  by_cases e:q=k/\i=j
  ·obtain⟨rfl,rfl⟩:=e
   rw[hx] at hx';cases hx'
   rw[hj] at hi;cases hi
   exact⟨snoc_mem.2 (.inl (snoc_mem.2 (.inr rfl))),fun _=>snoc_mem.2 (.inr rfl)⟩
  ·obtain⟨a,b⟩:=W.cls q h1 (fun m=>h2 (snoc_mem.2 (.inl m))) i x' y' (fun e2=>by have:=h3 e2;have:i≠j:=fun e3=>e ⟨e2,e3⟩;omega) hx' hc' hi hg
   exact⟨up a,fun e=>up (b e)⟩
 ·rcases pin k i m with m|⟨_,e⟩
  ·exact W.free i (by omega) m
  ·omega
 ·rcases snoc_mem.1 m with m|e
  ·exact W.kst m
  ·omega
 ·rcases pin q i m with m|⟨rfl,rfl⟩
  ·exact up (W.own q i m)
  ·exact up hk
theorem Wk.fin {c:Circ}{t:List Nat}{s:Nat}{out:List LnZ} (W:Wk c t s out [] c.nodes.length 0) (l:LnZ):l∈out↔InW c t s l:=by
 refine⟨W.sub l,fun h=>?_⟩
 have key:∀ m,Rch c t s m->(⟨m,Int.negSucc 0⟩:LnZ)∈out:=by
  intro m h
  induction h with
  |base=>exact W.root
  |step _ hx hc hj hg h1 ih=>exact (W.cls _ ih (by simp) _ _ _ (fun e=>by have:=lt_of_get hx;omega) hx hc hj hg).2 h1
 obtain⟨h1,h2⟩:=h
 obtain⟨a,b⟩:=l
 dsimp only at h1 h2
 rcases h2 with rfl|⟨j,x,rfl,hx,hc,hj,hg⟩
 ·exact key a h1
 ·obtain⟨y,hy⟩:=get_lt hj
  exact (W.cls a (key a h1) (by simp) j x y (fun e=>by have:=lt_of_get hx;omega) hx hc hy hg).1
theorem linesN_len {c:Circ} (C:Cir c):(linesN c).length<=272:=by
 have:=linesTo_len C c.nodes.length (Nat.le_refl _)
 have:=C.len
 unfold linesN
 omega
theorem inW_mem {c:Circ} (C:Cir c) {t:List Nat}{s:Nat}{l:LnZ} (hs:s<c.nodes.length) (h:InW c t s l):l∈linesN c:=by
 obtain⟨h1,h2⟩:=h
 refine line_mem.2 ⟨h1.lt C hs,?_⟩
 rcases h2 with h2|⟨j,x,h2,hx,_,hj,_⟩
 ·exact .inl h2
 ·exact .inr ⟨j,h2,by rw[insOf_eq hx];exact hj⟩
theorem walk_vc {c:Circ} (P:Plz c) {t:List Nat} (ht:t.length=c.nodes.length) {s:Nat} (hs:s<c.nodes.length) {K:List LnZ->Prop} (h:∀ r,r.Nodup->(∀ l,l∈r↔InW c t s l)->K r):traces_walk_wp c t (manyL c) s K:=by
 have C:=P.cir
 have hlen:=C.len
 have hL:=linesN_len C
 have bound:∀ {out:List LnZ} {st:List Nat} {k j:Nat},Wk c t s out st k j->out.length<=272:=fun W=>Nat.le_trans (nodupLen W.nd fun l m=>inW_mem C hs (W.sub l m)) hL
 have stb:∀ {out:List LnZ} {st:List Nat} {k j:Nat},Wk c t s out st k j->st.length<=16:=by
  intro out st k j W
  have:=nodupLen (m:=List.range c.nodes.length) W.snd fun q m=>List.mem_range.2 (by
   have:=(W.sub _ (W.stn q m).1).1.lt C hs
   exact this)
  rw[List.length_range] at this
  omega
 unfold traces_walk_wp
 refine joinLoop (fun q=>Wk c t s q.1 q.2 c.nodes.length 0) (fun q=>2*(272-q.1.length)+q.2.length) (fun r=>r.Nodup/\∀ l,l∈r↔InW c t s l) ?_ (Wk.start hs) (fun r ⟨h1,h2⟩=>⟨List.length_pos_of_mem ((h2 ⟨s,Int.negSucc 0⟩).2 ⟨.base,.inl rfl⟩),h r h1 h2⟩)
 rintro kk ⟨out,st⟩ nx W hnx hk
 dsimp only at W hnx
 refine⟨fun q=>?_,fun q=>hk _ ?_⟩
 ·have q:0<st.length:=lt_t.1 q
  have b2:=stb W
  obtain⟨k,hkk⟩:=get_lt (show st.length-1<st.length by omega)
  have est:st=st.take (st.length-1)++[k]:=by
   rw[<- takeG hkk,List.take_of_length_le (by omega)]
  have hko:(⟨k,Int.negSucc 0⟩:LnZ)∈out:=(W.stn k (List.mem_of_getElem? hkk)).1
  have hkn:k<c.nodes.length:=(W.sub _ hko).1.lt C hs
  obtain⟨x,hx⟩:=get_lt hkn
  have hfew:=(C.good.node k x hx).few
  have W0:Wk c t s out (st.take (st.length-1)) k 0:=by
   rw[est] at W
   exact W.enter
  have hl0:(st.take (st.length-1)).length=st.length-1:=by rw[List.length_take];omega
  refine⟨q,by omega,k,hkk,q,by omega,by omega,x,hx,fun e=>?_,fun e=>⟨x,hx,?_⟩⟩
  ·refine hnx _ (W0.leave hs C fun x' hx' hc=>?_) (by dsimp only;omega)
   rw[hx] at hx';cases hx'
   have:=eq_t.1 e
   have:=of_decide_eq_true hc
   omega
  ·have e:=eq_f.1 e
   refine loopW_intro (fun q=>q.2.2<=x.ins.length/\Wk c t s q.1 q.2.1 k q.2.2/\(⟨k,Int.negSucc 0⟩:LnZ)∈q.1/\2*out.length+q.2.1.length<=2*q.1.length+(st.length-1)) (fun q=>x.ins.length-q.2.2) ?_ ⟨Nat.zero_le _,W0,hko,by dsimp only;omega⟩
   rintro⟨o2,s2,j⟩ nx2 ⟨hj,W2,hk2,hb⟩ hnx2
   dsimp only at hj W2 hk2 hb
   refine⟨fun q=>?_,fun q=>?_⟩
   ·have q:j<x.ins.length:=lt_t.1 q
    obtain⟨y,hy⟩:=get_lt q
    have hc:=pin_comb P hx hy e
    have b3:=bound W2
    have b4:=stb W2
    have hyn:=(C.good.node k x hx).ins y (List.mem_of_getElem? hy)
    refine joinP (fun r=>Wk c t s r.1 r.2 k (j+1)/\(⟨k,Int.negSucc 0⟩:LnZ)∈r.1/\2*out.length+r.2.length<=2*r.1.length+(st.length-1)) (fun k3 hk3=>⟨y,hy,changes_vc C ht hx hc j ⟨fun e1=>?_,fun e1=>⟨?_,_,manyL_get hyn,fun e2=>⟨?_,?_,?_⟩,fun e2=>?_⟩⟩⟩) ?_
    ·have e1:chgB c t k j=false:=by revert e1;cases chgB c t k j <;> simp
     exact hk3 _ ⟨W2.step0 e1,hk2,hb⟩
    ·simp only[List.length_singleton];omega
    ·simp only[List.length_append,List.length_singleton];omega
    ·simp only[List.length_singleton];omega
    ·have e1:chgB c t k j=true:=by revert e1;cases chgB c t k j <;> simp
     refine hk3 _ ⟨W2.step2 C hx hc hy hk2 e1 (eq_t.1 e2),snoc_mem.2 (.inl (snoc_mem.2 (.inl hk2))),?_⟩
     simp only[List.length_append,List.length_singleton];omega
    ·have e1:chgB c t k j=true:=by revert e1;cases chgB c t k j <;> simp
     refine hk3 _ ⟨W2.step1 hx hc hy hk2 e1 (eq_f.1 e2),snoc_mem.2 (.inl hk2),?_⟩
     simp only[List.length_append,List.length_singleton];omega
    ·rintro⟨o3,s3⟩ ⟨W3,h3,h4⟩
     exact⟨by omega,hnx2 _ ⟨q,W3,h3,h4⟩ (by dsimp only;omega)⟩
   ·have q:x.ins.length<=j:=lt_f.1 q
    have b3:=bound W2
    refine hnx _ (W2.leave hs C fun x' hx' hc=>?_) ?_
    ·rw[hx] at hx';cases hx';exact q
    ·dsimp only;omega
 ·have q:st.length<=0:=lt_f.1 q
  have:st=[]:=List.length_eq_zero_iff.1 (by omega)
  subst this
  exact⟨W.nd,W.fin⟩
def dffPins (c:Circ) (m:Nat):List LnZ:=((fanOf c m).map Ln.toZ).filter fun l=>kd c l.node==14
theorem critical_vc {c:Circ} (P:Plz c) {p:Pat} (F:Full c p) {K:List LnZ->Prop} (h:∀ r,r.Nodup->(∀ l,l∈r↔l∈linesN c/\critL c p l=true)->K r):traces_critical_wp c p K:=by
 have C:=P.cir
 have hp:=F.pat
 have hlen:=C.len
 have hol:=C.good.outsLen
 have V:=V_sol C hp
 have hL:=linesN_len C
 unfold traces_critical_wp
 refine runV_vc C hp (loads_wp_vc C ?_)
 have inL:∀ {m:Nat} {l:LnZ},m<c.nodes.length->PartW c p m l->l∈linesN c:=fun hm hq=>((part_crit P F).1 ⟨_,hm,hq⟩).1
 refine joinLoop (fun s=>s.2<=c.nodes.length/\s.1.Nodup/\∀ l,l∈s.1 ↔ ∃ m,m<s.2/\PartW c p m l) (fun s=>c.nodes.length-s.2) (fun r=>r.Nodup/\∀ l,l∈r↔l∈linesN c/\critL c p l=true) ?_ ⟨Nat.zero_le _,List.nodup_nil,fun l=>⟨(fun m=>by cases m),fun ⟨m,hm,_⟩=>absurd hm (Nat.not_lt_zero _)⟩⟩ (fun r ⟨h1,h2⟩=>h r h1 h2)
 rintro k ⟨out,n⟩ nx ⟨hn,nd,mem⟩ hnx hk
 dsimp only at hn nd mem
 refine⟨fun q=>?_,fun q=>hk _ ⟨nd,fun l=>?_⟩⟩
 ·have q:n<c.nodes.length:=lt_t.1 q
  have hfl:=fan_len C.good q
  have bout:∀ {r:List LnZ},r.Nodup->(∀ l∈r,∃ m,m<n+1/\PartW c p m l)->r.length<=272:=fun h1 h2=>Nat.le_trans (nodupLen h1 fun l hl=>by
    obtain⟨m,hm,hq⟩:=h2 l hl
    exact inL (by omega) hq) hL
  refine joinP (fun r=>r.Nodup/\∀ l,l∈r ↔ ∃ m,m<n+1/\PartW c p m l) (fun k1 hk1=>containsI_vc (by omega) ?_) ?_
  ·
    refine joinB' (a:=c.outs.contains n||(decide (1<manyN c n)&&critN c p n)) (fun G=>?_) ?_
    · refine joinB' (a := !c.outs.contains n&&decide (1<manyN c n)) (fun G2=>⟨fun e=>⟨_,manyL_get q,?_⟩,fun e=>?_⟩) ⟨fun e=>⟨_,getN V.len q,not_vc ?_⟩,fun e=>?_⟩
      ·have e:c.outs.contains n=false:=nb_t e
       have:ltN 1 (manyN c n)=(!c.outs.contains n&&decide (1<manyN c n)):=by rw[ltN_eq,e];rfl
       rw[this];exact G2
      ·have e:c.outs.contains n=true:=nb_f e
       have e2:(!c.outs.contains n&&decide (1<manyN c n))=false:=by rw[e];rfl
       rw[e2] at G2;exact G2
      ·refine detects_vc C hp ⟨rfl,?_,rfl,q,show (-1:Int)<=Int.negSucc 0 by decide,?_⟩ ?_
       ·have:=V_bin P F n
        dsimp only
        rw[notN_bin this];omega
       ·exact Int.lt_of_lt_of_le (show Int.negSucc 0<0 by decide) (Int.natCast_nonneg _)
       ·rw[Bool.and_eq_true,Bool.not_eq_true'] at e
        rw[e.1,e.2,Bool.false_or,Bool.true_and] at G
        rw[det_net]
        exact G
      ·rw[Bool.and_eq_false_iff,Bool.not_eq_false'] at e
       rcases e with e|e
       ·rw[e,Bool.true_or] at G;rw[e];exact G
       ·rw[e,Bool.false_and,Bool.or_false] at G;exact G
    ·
      have es:startB c p n=((c.outs.contains n||(decide (1<manyN c n)&&critN c p n))||((fanOf c n).map Ln.toZ).any fun l=>kd c l.node==14):=by
       unfold startB
       rw[List.any_map]
       rfl
      have hdl:(((fanOf c n).map Ln.toZ).filter fun l=>kd c l.node==14).length<=1000:=Nat.le_trans (List.length_filter_le _ _) (by rw[List.length_map];exact hfl)
      have hnd:(dffPins c n).Nodup:=by
       refine List.Pairwise.filter _ (List.pairwise_map.2 ?_)
       refine (fan_nodup c n).imp fun {a b} hab e=>hab ?_
       obtain⟨a1,a2⟩:=a
       obtain⟨b1,b2⟩:=b
       unfold Ln.toZ at e
       cases e
       rfl
      have hdm:∀ l,l∈dffPins c n↔(l∈(fanOf c n).map Ln.toZ/\kd c l.node=14):=fun l=>by
       unfold dffPins
       rw[List.mem_filter,beq_iff_eq]
      have nd2:(out++dffPins c n).Nodup:=by
       refine List.nodup_append.2 ⟨nd,hnd,fun a ha b hb e=>?_⟩
       subst e
       obtain⟨m,hm,hq⟩:=(mem a).1 ha
       have:=part_uniq hq (.inl ((hdm a).1 hb))
       omega
      refine joinP (fun r=>r=(out++dffPins c n,startB c p n)) (fun k2 hk2=>⟨_,fanZ_get q,?_⟩) ?_
      ·have bo:=bout nd (fun l hl=>by obtain⟨m,hm,hq⟩:=(mem l).1 hl;exact⟨m,by omega,hq⟩)
       refine loopW_intro (fun s=>s.2.2<=(fanOf c n).length/\s.1=out++(((fanOf c n).map Ln.toZ).take s.2.2).filter (fun l=>kd c l.node==14)/\s.2.1=((c.outs.contains n||(decide (1<manyN c n)&&critN c p n))||(((fanOf c n).map Ln.toZ).take s.2.2).any fun l=>kd c l.node==14)) (fun s=>(fanOf c n).length-s.2.2) ?_ ⟨Nat.zero_le _,by simp,by simp⟩
       rintro⟨o2,b,j⟩ nx2 ⟨hj,ho2,hb⟩ hnx2
       dsimp only at hj ho2 hb
       refine⟨fun q2=>?_,fun q2=>?_⟩
       ·have q2:j<(fanOf c n).length:=by have:=lt_t.1 q2;rwa [List.length_map] at this
        obtain⟨l0,hl0⟩:=get_lt q2
        have hl:((fanOf c n).map Ln.toZ)[j]?=some l0.toZ:=by rw[List.getElem?_map,hl0];rfl
        have hln:l0.node<c.nodes.length:=fan_lt (List.mem_of_getElem? hl0)
        obtain⟨y,hy⟩:=get_lt hln
        have hb2:((((fanOf c n).map Ln.toZ).take j).filter fun l=>kd c l.node==14).length<=1000:=Nat.le_trans (List.length_filter_le _ _) (by rw[List.length_take,List.length_map];omega)
        refine joinP (fun r=>r.1=out++(((fanOf c n).map Ln.toZ).take (j+1)).filter (fun l=>kd c l.node==14)/\r.2=((c.outs.contains n||(decide (1<manyN c n)&&critN c p n))||(((fanOf c n).map Ln.toZ).take (j+1)).any fun l=>kd c l.node==14)) (fun k3 hk3=>⟨_,hl,y,hy,fun e=>⟨?_,hk3 _ ⟨?_,?_⟩⟩,fun e=>hk3 _ ⟨?_,?_⟩⟩) ?_
        ·rw[ho2,List.length_append]
         simp only[List.length_singleton]
         omega
        ·have e:kd c l0.toZ.node=14:=by rw[<- eq_t.1 e];exact kd_eq hy
         dsimp only
         rw[ho2,takeG hl,List.filter_append,List.append_assoc]
         congr 2
         rw[List.filter_cons,e]
         rfl
        ·have e:kd c l0.toZ.node=14:=by rw[<- eq_t.1 e];exact kd_eq hy
         dsimp only
         rw[takeG hl,List.any_append]
         simp[e]
        ·have e:¬ kd c l0.toZ.node=14:=by rw[show kd c l0.toZ.node=y.kind from kd_eq hy];exact eq_f.1 e
         dsimp only
         rw[ho2,takeG hl,List.filter_append]
         congr 1
         rw[List.filter_cons,if_neg (by simpa using e)]
         simp
        ·have e:¬ kd c l0.toZ.node=14:=by rw[show kd c l0.toZ.node=y.kind from kd_eq hy];exact eq_f.1 e
         have e':(kd c l0.toZ.node==14)=false:=by simpa using e
         dsimp only
         rw[hb,takeG hl,List.any_append,List.any_cons,e',List.any_nil]
         simp only[Bool.or_false]
        ·rintro⟨o3,b3⟩ ⟨h3,h4⟩
         exact⟨by omega,hnx2 _ ⟨q2,h3,h4⟩ (by dsimp only;omega)⟩
       ·have q2:(fanOf c n).length<=j:=by have:=lt_f.1 q2;rwa [List.length_map] at this
        rw[List.take_of_length_le (by rw[List.length_map];exact q2)] at ho2 hb
        refine hk2 _ ?_
        rw[ho2,hb,es]
        rfl
      ·rintro _ rfl
       refine⟨fun e=>walk_vc P V.len q fun r hr1 hr2=>?_,fun e=>hk1 _ ⟨nd2,fun l=>?_⟩⟩
       ·have e:startB c p n=true:=e
        have hrl:r.length<=272:=Nat.le_trans (nodupLen hr1 fun l hl=>inW_mem C q ((hr2 l).1 hl)) hL
        have bo:=bout nd2 (fun l hl=>by
         rcases List.mem_append.1 hl with hl|hl
         ·obtain⟨m,hm,hq⟩:=(mem l).1 hl;exact⟨m,by omega,hq⟩
         ·exact⟨n,by omega,.inl ((hdm l).1 hl)⟩)
        refine⟨by omega,hk1 _ ⟨List.nodup_append.2 ⟨nd2,hr1,fun a ha b hb e2=>?_⟩,fun l=>?_⟩⟩
        ·subst e2
         have hb:=(hr2 a).1 hb
         rcases List.mem_append.1 ha with ha|ha
         ·obtain⟨m,hm,hq⟩:=(mem a).1 ha
          have:=part_uniq hq (.inr ⟨e,hb⟩)
          omega
         ·have ha:=(hdm a).1 ha
          obtain⟨j,e3,_⟩:=toZ_mem.1 ha.1
          rcases hb.2 with e4|⟨j',x,_,hx,hc,_⟩
          ·rw[e3] at e4;cases e4
          ·have:=ha.2
           rw[kd_eq hx] at this
           have:=of_decide_eq_true hc
           omega
        ·rw[List.mem_append,List.mem_append,mem,hdm,hr2]
         constructor
         ·rintro ((⟨m,hm,hq⟩|hq) | hq)
          ·exact⟨m,by omega,hq⟩
          ·exact⟨n,by omega,.inl hq⟩
          ·exact⟨n,by omega,.inr ⟨e,hq⟩⟩
         ·rintro⟨m,hm,hq⟩
          by_cases e2:m=n
          ·subst e2
           rcases hq with hq|hq
           ·exact .inl (.inr hq)
           ·exact .inr hq.2
          ·exact .inl (.inl ⟨m,by omega,hq⟩)
       ·have e:startB c p n=false:=e
        rw[List.mem_append,mem,hdm]
        constructor
        ·rintro (⟨m,hm,hq⟩|hq)
         ·exact⟨m,by omega,hq⟩
         ·exact⟨n,by omega,.inl hq⟩
        ·rintro⟨m,hm,hq⟩
         by_cases e2:m=n
         ·subst e2
          rcases hq with hq|hq
          ·exact .inr hq
          ·rw[e] at hq;cases hq.1
         ·exact .inl ⟨m,by omega,hq⟩
  · rintro r ⟨h1,h2⟩
    exact⟨by omega,hnx _ ⟨q,h1,h2⟩ (by dsimp only;omega)⟩
 ·have q:c.nodes.length<=n:=lt_f.1 q
  have e:n=c.nodes.length:=by omega
  subst e
  rw[mem]
  exact part_crit P F
theorem linesN_sorted (c:Circ):(linesN c).Pairwise fun x y=>x.node<y.node\/x.node=y.node/\x.pin<y.pin:=by
 unfold linesN linesTo
 refine List.pairwise_flatMap.2 ⟨fun i _=>?_,?_⟩
 ·unfold rowL
  refine List.pairwise_map.2 (List.pairwise_lt_range.imp fun {a b} h=>.inr ⟨rfl,?_⟩)
  simp only[Int.ofNat_eq_natCast];omega
 ·refine List.pairwise_lt_range.imp fun {a b} h x hx y hy=>.inl ?_
  unfold rowL at hx hy
  obtain⟨i,_,rfl⟩:=List.mem_map.1 hx
  obtain⟨j,_,rfl⟩:=List.mem_map.1 hy
  exact h
theorem sorted_eq:∀ {l m:List LnZ},l.Pairwise (fun x y=>x.node<y.node\/x.node=y.node/\x.pin<y.pin)->m.Pairwise (fun x y=>x.node<y.node\/x.node=y.node/\x.pin<y.pin)->(∀ x,x∈l↔x∈m)->l=m
 |[],[],_,_,_=>rfl
 |[],b::m,_,_,h=>by have:=(h b).2 (.head _);cases this
 |a::l,[],_,_,h=>by have:=(h a).1 (.head _);cases this
 |a::l,b::m,h1,h2,h=>by
  obtain⟨a1,a2⟩:=List.pairwise_cons.1 h1
  obtain⟨b1,b2⟩:=List.pairwise_cons.1 h2
  have e:a=b:=by
   rcases List.mem_cons.1 ((h a).1 (.head _)) with e|e
   ·exact e
   rcases List.mem_cons.1 ((h b).2 (.head _)) with e2|e2
   ·exact e2.symm
   have q1:=b1 a e
   have q2:=a1 b e2
   omega
  subst e
  congr 1
  refine sorted_eq a2 b2 fun x=>?_
  constructor
  ·intro hx
   rcases List.mem_cons.1 ((h x).1 (.tail _ hx)) with e|e
   ·subst e;have:=a1 x hx;omega
   ·exact e
  ·intro hx
   rcases List.mem_cons.1 ((h x).2 (.tail _ hx)) with e|e
   ·subst e;have:=b1 x hx;omega
   ·exact e
theorem sorted_is {c:Circ}{q:LnZ->Bool}{r l:List LnZ} (nd:r.Nodup) (hm:∀ x,x∈r↔x∈linesN c/\q x=true) (hp:l.Perm r) (hs:l.Pairwise lnLe):l=(linesN c).filter q:=by
 have ndl:l.Nodup:=hp.nodup_iff.2 nd
 refine sorted_eq ?_ ((linesN_sorted c).filter _) fun x=>?_
 ·have:=List.Pairwise.and hs ndl
  refine this.imp fun {a b} h=>?_
  obtain⟨h1,h2⟩:=h
  have h1:=lnLe_iff.1 h1
  by_cases e:a.node=b.node/\a.pin=b.pin
  ·exact absurd (by cases a;cases b;simp only[LnZ.mk.injEq];exact e) h2
  ·omega
 ·rw[hp.mem_iff,hm,List.mem_filter]
theorem line_bd {c:Circ} (C:Cir c) {l:LnZ} (h:l∈linesN c):lnB l:=by
 have hlen:=C.len
 obtain⟨h1,h2⟩:=line_mem.1 h
 refine⟨by omega,?_⟩
 rcases h2 with e|⟨j,e,hj⟩
 ·rw[e];exact⟨by decide,by decide⟩
 ·obtain⟨x,hx⟩:=get_lt h1
  have:=(C.good.node _ x hx).few
  rw[insOf_eq hx] at hj
  rw[e]
  simp only[Int.ofNat_eq_natCast]
  omega
theorem Critical_vc {c:Circ} (P:Plz c) {p:Pat} (F:Full c p) {K:List LnZ×Nat->Prop} (h:K ((linesN c).filter (critL c p),0)):traces_Critical_wp c p K:=by
 have C:=P.cir
 have hL:=linesN_len C
 unfold traces_Critical_wp
 refine tplain_vc P ⟨(fun q=>absurd rfl (ne_t.1 q)),fun _=>tfull_vc C F ⟨(fun q=>absurd rfl (ne_t.1 q)),fun _=>critical_vc P F fun r hr1 hr2=>⟨?_,fun x hx=>line_bd C ((hr2 x).1 hx).1,fun l h1 h2=>?_⟩⟩⟩
 ·have:=nodupLen hr1 fun l hl=>((hr2 l).1 hl).1
  omega
 ·rw[sorted_is hr1 hr2 h1 h2]
  exact h
def noMem (x:CData):CData:=⟨x.inp,x.dffs,x.data0,x.data1,x.bus,false,x.port0,x.port1,x.port2,x.port3,x.gates,x.outs⟩
def noBus (x:CData):CData:=⟨x.inp,x.dffs,x.data0,x.data1,false,x.mem,x.port0,x.port1,x.port2,x.port3,x.gates,x.outs⟩
def noDff (x:CData):CData:=⟨x.inp,0,x.data0,x.data1,x.bus,x.mem,x.port0,x.port1,x.port2,x.port3,x.gates,x.outs⟩
theorem cb_noMem {x:CData} (h:CB x):CB (noMem x):=⟨h.inp,h.dffs,h.data0,h.data1,h.port0,h.port1,h.port2,h.port3,h.gates,h.outs⟩
theorem cb_noBus {x:CData} (h:CB x):CB (noBus x):=⟨h.inp,h.dffs,h.data0,h.data1,h.port0,h.port1,h.port2,h.port3,h.gates,h.outs⟩
theorem cb_noDff {x:CData} (h:CB x):CB (noDff x):=⟨h.inp,(show (0:Nat)<256 by decide),h.data0,h.data1,h.port0,h.port1,h.port2,h.port3,h.gates,h.outs⟩
theorem circ12_vc {x:CData} (hx:CB x) {K:Circ->Prop} (h:K (circN (noMem x))):probecardlaw12_Circuit_wp x K:=of_circ_vc (cb_noMem hx) h
theorem plain12_vc {x:CData} (hx:CB x) {K:Circ->Prop} (h:K (circN (noMem (noBus x)))):probecardlaw12_Plain_wp x K:=circ12_vc (cb_noBus hx) h
theorem cir_circ {x:CData} (hm:x.mem=false):Cir (circN x):=by
 refine⟨good_circ hm,by rw[circ_mems,hm];rfl,fun i y h=>?_⟩
 rcases circ_node hm h with⟨_,rfl⟩|⟨_,_,d,_,rfl⟩|⟨h1,_,g,hg⟩
 ·show (0:Nat)<=14;decide
 ·show (14:Nat)<=14;decide
 ·have hi:=lt_of_get h
  have hn:(circN x).nodes.length=(rawN x).length:=updN_length _
  have q:=gateK_ok x.bus g (ks:=((rawN x).take i).map Node.kind) (by rw[List.length_map,List.length_take];omega)
  rw[<- hg] at q
  have:=q.kind
  omega
theorem plz_circ {x:CData} (hm:x.mem=false) (hb:x.bus=false):Plz (circN x):=⟨cir_circ hm,fun i y h=>⟨(plain_circ hm hb i y h).1,(plain_circ hm hb i y h).2.1⟩⟩
theorem bit_le (n k:Nat):n/2 ^ k%2 ^ 1%256<=1:=by
 have:n/2 ^ k%2 ^ 1<2:=Nat.mod_lt _ (by decide)
 omega
theorem ofN_pre (c:Circ) (k:Nat):ofN c [k]=(List.range c.nodes.length).filter fun i=>decide (kd c i=k):=by
 unfold ofN kd
 congr 1
 funext i
 rw[Bool.eq_iff_iff]
 simp
theorem full12_vc {c:Circ} (C:Cir c) {n:Nat}{K:Pat->Prop} (h:∀ p,Full c p->K p):probecardlaw12_Full_wp c n K:=by
 have hlen:=C.len
 unfold probecardlaw12_Full_wp
 have pl:∀ (k i:Nat),((List.range i).filter fun i=>decide (kd c i=k)).length<=i:=fun k i=>filtLen
 have step:∀ (k i:Nat) (l:List Nat) (v:Nat),l.length=((List.range i).filter fun i=>decide (kd c i=k)).length->(kd c i=k->(l++[v]).length=((List.range (i+1)).filter fun i=>decide (kd c i=k)).length)/\(¬ kd c i=k->l.length=((List.range (i+1)).filter fun i=>decide (kd c i=k)).length):=by
  intro k i l v e
  rw[filtS]
  refine⟨fun q=>?_,fun q=>?_⟩
  ·rw[if_pos (decide_eq_true q)];simp[e]
  ·rw[if_neg (by simpa using q),List.append_nil];exact e
 refine joinLoop (fun s=>s.2.2<=c.nodes.length/\s.1.length=((List.range s.2.2).filter fun i=>decide (kd c i=0)).length/\(∀ v∈s.1,v<=1)/\s.2.1<=s.2.2) (fun s=>c.nodes.length-s.2.2) (fun s=>s.1.length=(ofN c [0]).length/\(∀ v∈s.1,v<=1)/\s.2<=16) ?_ ⟨Nat.zero_le _,rfl,(fun v m=>by cases m),Nat.le_refl _⟩ ?_
 ·rintro k ⟨l,b,i⟩ nx ⟨hi,hl,hv,hb⟩ hnx hk
  dsimp only at hi hl hv hb
  refine⟨fun q=>?_,fun q=>hk _ ?_⟩
  ·have q:i<c.nodes.length:=lt_t.1 q
   obtain⟨x,hx⟩:=get_lt q
   have e:=kd_eq hx
   have:=pl 0 i
   refine joinP (fun s=>s.1.length=((List.range (i+1)).filter fun i=>decide (kd c i=0)).length/\(∀ v∈s.1,v<=1)/\s.2<=i+1) (fun k2 hk2=>⟨x,hx,fun q2=>⟨by decide,by omega,?_,by omega,hk2 _ ⟨?_,?_,by dsimp only;omega⟩⟩,fun q2=>hk2 _ ⟨?_,hv,by dsimp only;omega⟩⟩) ?_
   ·simp only[List.length_singleton];omega
   ·exact (step 0 i l _ hl).1 (by rw[e];exact eq_t.1 q2)
   ·intro v m
    rcases snoc_mem.1 m with m|rfl
    ·exact hv v m
    ·exact bit_le _ _
   ·exact (step 0 i l 0 hl).2 (by rw[e];exact eq_f.1 q2)
   ·rintro⟨l2,b2⟩ ⟨h1,h2,h3⟩
    exact⟨by omega,hnx _ ⟨q,h1,h2,h3⟩ (by dsimp only;omega)⟩
  ·have q:c.nodes.length<=i:=lt_f.1 q
   have e:i=c.nodes.length:=by omega
   subst e
   exact⟨by rw[ofN_pre];exact hl,hv,by dsimp only;omega⟩
 rintro⟨pi,b0⟩ ⟨p1,p2,p3⟩
 dsimp only at p1 p2 p3
 refine joinLoop (fun s=>s.2.2<=c.nodes.length/\s.1.length=((List.range s.2.2).filter fun i=>decide (kd c i=14)).length/\(∀ v∈s.1,v<=1)/\s.2.1<=16+s.2.2) (fun s=>c.nodes.length-s.2.2) (fun s=>s.length=(ofN c [14]).length/\∀ v∈s,v<=1) ?_ ⟨Nat.zero_le _,rfl,(fun v m=>by cases m),p3⟩ ?_
 ·rintro k ⟨l,b,i⟩ nx ⟨hi,hl,hv,hb⟩ hnx hk
  dsimp only at hi hl hv hb
  refine⟨fun q=>?_,fun q=>hk _ ?_⟩
  ·have q:i<c.nodes.length:=lt_t.1 q
   obtain⟨x,hx⟩:=get_lt q
   have e:=kd_eq hx
   have:=pl 14 i
   refine joinP (fun s=>s.1.length=((List.range (i+1)).filter fun i=>decide (kd c i=14)).length/\(∀ v∈s.1,v<=1)/\s.2<=16+(i+1)) (fun k2 hk2=>⟨x,hx,fun q2=>⟨by decide,by omega,?_,by omega,hk2 _ ⟨?_,?_,by dsimp only;omega⟩⟩,fun q2=>hk2 _ ⟨?_,hv,by dsimp only;omega⟩⟩) ?_
   ·simp only[List.length_singleton];omega
   ·exact (step 14 i l _ hl).1 (by rw[e];exact eq_t.1 q2)
   ·intro v m
    rcases snoc_mem.1 m with m|rfl
    ·exact hv v m
    ·exact bit_le _ _
   ·exact (step 14 i l 0 hl).2 (by rw[e];exact eq_f.1 q2)
   ·rintro⟨l2,b2⟩ ⟨h1,h2,h3⟩
    exact⟨by omega,hnx _ ⟨q,h1,h2,h3⟩ (by dsimp only;omega)⟩
  ·have q:c.nodes.length<=i:=lt_f.1 q
   have e:i=c.nodes.length:=by omega
   subst e
   exact⟨by rw[ofN_pre];exact hl,hv⟩
 ·rintro ps ⟨q1,q2⟩
  exact h ⟨pi,ps⟩ ⟨⟨p1,q1,fun v m=>Nat.le_trans (p2 v m) (by decide),fun v m=>Nat.le_trans (q2 v m) (by decide)⟩,p2,q2⟩
def gateC:Circ:=⟨[⟨0,[],0,0⟩,⟨0,[],0,0⟩,⟨5,[0,1],0,0⟩],[⟨#[97]⟩,⟨#[98]⟩,⟨#[121]⟩],[],[2]⟩
theorem isname_aby:(([⟨#[97]⟩,⟨#[98]⟩,⟨#[121]⟩]:List ByteArray).all fun s=>isTrue (runFn Tryz.prog [] (orcExt Tryz.prog) 60 136 #[.string s] (heapOf vars)))=true:=by kernel_rfl
theorem isNm_aby {s:ByteArray} (h:s∈([⟨#[97]⟩,⟨#[98]⟩,⟨#[121]⟩]:List ByteArray)):IsNm s:=by
 obtain⟨h',e⟩:=isTrue_iff (List.all_eq_true.1 isname_aby s h)
 have c:=(runFn_sound hM hP (fun f vs h v e=>orcExt_sound f vs h v e) 60 _ _ _ _ _ e).1
 exact⟨PureV.flatB rfl,fun h b=>c.lift (by kernel_rfl) rfl (bears_vars (hasSize b) (hasVars b))⟩
theorem gate_node {i:Nat}{x:Node} (h:gateC.nodes[i]?=some x):(i=0/\x=⟨0,[],0,0⟩)\/(i=1/\x=⟨0,[],0,0⟩)\/(i=2/\x=⟨5,[0,1],0,0⟩):=by
 have hi:=lt_of_get h
 have hi:i<3:=hi
 have:i=0\/i=1\/i=2:=by omega
 rcases this with rfl|rfl|rfl
 ·cases h;exact .inl ⟨rfl,rfl⟩
 ·cases h;exact .inr (.inl ⟨rfl,rfl⟩)
 ·cases h;exact .inr (.inr ⟨rfl,rfl⟩)
theorem gate_plz:Plz gateC:=by
 have node:∀ i x,gateC.nodes[i]?=some x->GoodN gateC i x:=by
  intro i x h
  rcases gate_node h with⟨rfl,rfl⟩|⟨rfl,rfl⟩|⟨rfl,rfl⟩
  ·exact⟨(by decide:0<=15),(by decide:Arity 0 0),(fun k m=>by cases m),(fun e=>by cases e),fun _=>⟨rfl,rfl⟩,(fun e=>by cases e),fun e=>absurd e (by decide:¬ 1<=0)⟩
  ·exact⟨(by decide:0<=15),(by decide:Arity 0 0),(fun k m=>by cases m),(fun e=>by cases e),fun _=>⟨rfl,rfl⟩,(fun e=>by cases e),fun e=>absurd e (by decide:¬ 1<=0)⟩
  ·exact⟨(by decide:5<=15),(by decide:Arity 5 2),(by decide:∀ k∈[0,1],k<3),(fun e=>by cases e),fun _=>⟨rfl,rfl⟩,(fun e=>by cases e),fun _ _=>(by decide:∀ k∈[0,1],k<2)⟩
 have F:FanOk gateC:=fan_ok ⟨by decide,fun i x h=>⟨(node i x h).ins,(node i x h).few⟩⟩
 have N:NamesOk gateC:=by
  refine FnV.of_walk (enc:=i64) (PureV.flat rfl) fun h hB=>?_
  exact names_all_walk (K:=fun r=>r=0) (names_all_vc (fun s m=>isNm_aby m) (by decide) (by decide) rfl) hB
 refine⟨⟨⟨by decide,rfl,N,F,(fun m h=>by cases h),by decide,by decide,by decide,node,by decide⟩,rfl,fun i x h=>?_⟩,fun i x h=>?_⟩
 ·rcases gate_node h with⟨rfl,rfl⟩|⟨rfl,rfl⟩|⟨rfl,rfl⟩ <;> decide
 ·rcases gate_node h with⟨rfl,rfl⟩|⟨rfl,rfl⟩|⟨rfl,rfl⟩ <;> decide
theorem gate_full {a b:Nat} (ha:a<=1) (hb:b<=1):Full gateC ⟨[a,b],[]⟩:=by
 have key:∀ v∈([a,b]:List Nat),v<=1:=by
  intro v m
  simp only[List.mem_cons,List.not_mem_nil,or_false] at m
  rcases m with rfl|rfl
  ·exact ha
  ·exact hb
 exact⟨⟨rfl,rfl,fun v m=>Nat.le_trans (key v m) (by decide),fun v m=>by cases m⟩,key,fun v m=>by cases m⟩
theorem lives17_vc {K:Bool->Prop} (h:K true):probecardlaw17_lives_wp K:=by
 have e1:(linesN gateC).filter (critL gateC ⟨[1,1],[]⟩)=[⟨0,-1⟩,⟨1,-1⟩,⟨2,-1⟩,⟨2,0⟩,⟨2,1⟩]:=by decide +kernel
 have e2:(linesN gateC).filter (critL gateC ⟨[0,1],[]⟩)=[⟨0,-1⟩,⟨2,-1⟩,⟨2,0⟩]:=by decide +kernel
 have e3:(linesN gateC).filter (critL gateC ⟨[0,0],[]⟩)=[⟨2,-1⟩]:=by decide +kernel
 unfold probecardlaw17_lives_wp probecardlaw17_gate_wp
 refine Critical_vc gate_plz (gate_full (by decide) (by decide)) (Critical_vc gate_plz (gate_full (by decide) (by decide)) (Critical_vc gate_plz (gate_full (by decide) (by decide)) ?_))
 rw[e1,e2,e3]
 refine joinB' (a:=false) (fun G=>⟨(fun q=>by cases q),fun _=>⟨(fun q=>by cases q),fun _=>⟨(fun q=>by cases q),fun _=>⟨(fun q=>by cases q),fun _=>⟨(fun q=>by cases q),fun _=>G⟩⟩⟩⟩⟩) ⟨(fun q=>by cases q),fun _=>?_⟩
 refine⟨_,rfl,fun _=>⟨_,rfl,fun _=>⟨_,rfl,fun _=>⟨_,rfl,_,rfl,fun _=>⟨_,rfl,h⟩,(fun q=>by cases q)⟩,(fun q=>by cases q)⟩,(fun q=>by cases q)⟩,(fun q=>by cases q)⟩
def LastP (l:List Ln) (a b:Int):Prop:=(l=[]/\a=Int.negSucc 0/\b=Int.negSucc 0)\/∃ q∈l,a=Int.ofNat q.node/\b=Int.ofNat q.pin
theorem loads17_vc {c:Circ} (C:Cir c) {m:Nat}{K:Nat×LnI->Prop} (h:∀ a b,LastP (fanOf c m) a b->K (manyN c m,⟨a,b⟩)):probecardlaw17_loads_wp c m K:=by
 have hlen:=C.len
 have hol:=C.good.outsLen
 have fp:FanPre c:=⟨hlen,fun i x hx=>⟨(C.good.node i x hx).ins,(C.good.node i x hx).few⟩⟩
 unfold probecardlaw17_loads_wp
 refine joinLoop (fun s=>s.2.2.2<=c.nodes.length/\s.1=(fanPre c s.2.2.2 m).length/\LastP (fanPre c s.2.2.2 m) s.2.1 s.2.2.1) (fun s=>c.nodes.length-s.2.2.2) (fun s=>s.1=(fanOf c m).length/\LastP (fanOf c m) s.2.1 s.2.2) ?_ ⟨Nat.zero_le _,rfl,.inl ⟨rfl,rfl,rfl⟩⟩ ?_
 ·rintro k ⟨a,b,d,i⟩ nx ⟨hi,h1,h2⟩ hnx hk
  dsimp only at hi h1 h2
  refine⟨fun q=>?_,fun q=>hk _ ?_⟩
  ·have q:i<c.nodes.length:=lt_t.1 q
   obtain⟨x,hx⟩:=get_lt q
   have g:=C.good.node i x hx
   have hfew:=g.few
   have hpl:=fanPre_len fp m i hi
   refine joinLoop (fun s=>s.2.2.2<=x.ins.length/\s.1=(fanPre c i m++fanNode m i (x.ins.take s.2.2.2)).length/\LastP (fanPre c i m++fanNode m i (x.ins.take s.2.2.2)) s.2.1 s.2.2.1) (fun s=>x.ins.length-s.2.2.2) (fun s=>s.1=(fanPre c (i+1) m).length/\LastP (fanPre c (i+1) m) s.2.1 s.2.2) ?_ ⟨Nat.zero_le _,by simpa[fanNode] using h1,by simpa[fanNode] using h2⟩ ?_
   ·rintro k2 ⟨a,b,d,j⟩ nx2 ⟨hj,h1,h2⟩ hnx2 hk2
    dsimp only at hj h1 h2
    refine⟨x,hx,fun q2=>?_,fun q2=>hk2 _ ?_⟩
    ·have q2:j<x.ins.length:=lt_t.1 q2
     obtain⟨y,hy⟩:=get_lt q2
     have e:fanNode m i (x.ins.take (j+1))=fanNode m i (x.ins.take j)++(if y=m then [⟨i,j⟩] else []):=by
      rw[takeG hy,fanNode_snoc,List.length_take,Nat.min_eq_left (by omega)]
     have hb:=fanNode_len m i (x.ins.take j)
     rw[List.length_take] at hb
     refine joinP (fun s=>s.1=(fanPre c i m++fanNode m i (x.ins.take (j+1))).length/\LastP (fanPre c i m++fanNode m i (x.ins.take (j+1))) s.2.1 s.2.2) (fun k3 hk3=>⟨x,hx,y,hy,fun q3=>⟨?_,hk3 _ ⟨?_,?_⟩⟩,fun q3=>hk3 _ ?_⟩) ?_
     ·rw[h1,List.length_append];omega
     ·dsimp only
      rw[e,if_pos (eq_t.1 q3),<- List.append_assoc,List.length_append,h1]
      rfl
     ·dsimp only
      rw[e,if_pos (eq_t.1 q3),<- List.append_assoc]
      exact .inr ⟨_,snoc_mem.2 (.inr rfl),rfl,rfl⟩
     ·rw[e,if_neg (eq_f.1 q3),List.append_nil]
      exact⟨h1,h2⟩
     ·rintro⟨a2,b2,d2⟩ ⟨h3,h4⟩
      exact⟨by omega,hnx2 _ ⟨q2,h3,h4⟩ (by dsimp only;omega)⟩
    ·have q2:x.ins.length<=j:=lt_f.1 q2
     rw[List.take_of_length_le q2] at h1 h2
     rw[fanPre_succ hx]
     exact⟨h1,h2⟩
   ·rintro⟨a2,b2,d2⟩ ⟨h3,h4⟩
    exact⟨by omega,hnx _ ⟨q,h3,h4⟩ (by dsimp only;omega)⟩
  ·have q:c.nodes.length<=i:=lt_f.1 q
   have e:fanPre c i m=fanOf c m:=by
    unfold fanPre fanOf
    rw[List.take_of_length_le (by rw[List.length_zipIdx];exact q)]
   rw[e] at h1 h2
   exact⟨h1,h2⟩
 ·rintro⟨a,b,d⟩ ⟨h1,h2⟩
  dsimp only at h1 h2
  have hf:(fanOf c m).length<=256:=by
   have:=fanPre_len fp m c.nodes.length (Nat.le_refl _)
   have e:fanPre c c.nodes.length m=fanOf c m:=by
    unfold fanPre fanOf
    rw[List.take_of_length_le (by rw[List.length_zipIdx];exact Nat.le_refl _)]
   rw[e] at this
   omega
  refine joinLoop (fun s=>s.2<=c.outs.length/\s.1=(fanOf c m).length+(c.outs.take s.2).count m) (fun s=>c.outs.length-s.2) (fun s=>s=manyN c m) ?_ ⟨Nat.zero_le _,by simpa using h1⟩ (fun s e=>by subst e;exact h b d h2)
  rintro k ⟨n,i⟩ nx ⟨hi,hn⟩ hnx hk
  dsimp only at hi hn
  refine⟨fun q=>?_,fun q=>hk _ ?_⟩
  ·have q:i<c.outs.length:=lt_t.1 q
   obtain⟨o,ho⟩:=get_lt q
   have b2:(c.outs.take i).count m<=16:=Nat.le_trans List.count_le_length (by rw[List.length_take];omega)
   refine joinP (fun s=>s=(fanOf c m).length+(c.outs.take (i+1)).count m) (fun k2 hk2=>⟨o,ho,fun q2=>⟨by omega,hk2 _ ?_⟩,fun q2=>hk2 _ ?_⟩) ?_
   ·rw[takeG ho,List.count_append,eq_t.1 q2,hn]
    simp;omega
   ·rw[takeG ho,List.count_append,hn]
    have:=eq_f.1 q2
    simp[this]
   ·rintro _ rfl
    exact⟨by omega,hnx _ ⟨q,rfl⟩ (by dsimp only;omega)⟩
  ·have q:c.outs.length<=i:=lt_f.1 q
   rw[List.take_of_length_le q] at hn
   exact hn
theorem net17_vc {c:Circ}{l:LnZ} (hl:l∈linesN c) {K:Nat->Prop} (h:K (netOf c l)):probecardlaw17_net_wp c l K:=by
 obtain⟨h1,h2⟩:=line_mem.1 hl
 unfold netOf at h
 rcases h2 with e|⟨j,e,hj⟩
 ·rw[e,if_pos (by decide)] at h
  exact⟨fun _=>h,fun q=>by rw[e] at q;cases q⟩
 ·have hneg:¬ l.pin<0:=by rw[e];exact Int.not_lt.2 (Int.natCast_nonneg j)
  rw[if_neg hneg] at h
  obtain⟨x,hx⟩:=get_lt h1
  rw[insOf_eq hx] at hj h
  refine⟨fun q=>absurd (ltZ_t.1 q) hneg,fun _=>⟨x,hx,j,e,_,getD_some hj,?_⟩⟩
  rw[e] at h
  exact h
theorem netOf_lt {c:Circ} (C:Cir c) {l:LnZ} (hl:l∈linesN c):netOf c l<c.nodes.length:=by
 obtain⟨h1,h2⟩:=line_mem.1 hl
 unfold netOf
 rcases h2 with e|⟨j,e,hj⟩
 ·rw[e,if_pos (by decide)];exact h1
 ·have hneg:¬ l.pin<0:=by rw[e];exact Int.not_lt.2 (Int.natCast_nonneg j)
  obtain⟨x,hx⟩:=get_lt h1
  rw[insOf_eq hx] at hj
  rw[if_neg hneg,e,insOf_eq hx]
  exact (C.good.node _ x hx).ins _ (getD_mem hj)
theorem line_stuck {c:Circ}{l:LnZ} (hl:l∈linesN c) {v:Nat} (hv:v<=1):StuckOk c ⟨0,l,v,0⟩:=by
 obtain⟨h1,h2⟩:=line_mem.1 hl
 refine⟨rfl,hv,rfl,h1,?_,?_⟩
 ·rcases h2 with e|⟨j,e,_⟩
  ·dsimp only;rw[e];decide
  ·dsimp only;rw[e];simp only[Int.ofNat_eq_natCast];omega
 ·rcases h2 with e|⟨j,e,hj⟩
  ·dsimp only;rw[e];exact Int.lt_of_lt_of_le (show Int.negSucc 0<0 by decide) (Int.natCast_nonneg _)
  ·dsimp only;rw[e];simp only[Int.ofNat_eq_natCast];omega
theorem same_line (a:LnZ):((eqN a.node a.node)&&((eqZ a.pin a.pin)&&true))=true:=by rw[eq_t.2 rfl,eqz_t.2 rfl];rfl
set_option maxHeartbeats 8000000
def traces_WalkZ_wp (p0:Circ) (p1:Pat) (p2:Int) (K:((List LnZ)×Nat)->Prop):Prop :=
 traces_plain_wp p0 (fun r1=>((neN r1 0)=true->K ([],r1))/\((neN r1 0)=false->joinW (α:=Bool) (fun k3=>((ltI p2 (Int.ofNat 0))=true->k3 true)/\((ltI p2 (Int.ofNat 0))=false->k3 (!ltI p2 (Int.ofNat p0.nodes.length)))) (fun v2=>(v2=true->K ([],1))/\(v2=false->traces_full_wp p0 p1 (fun r4=>((neN r4 0)=true->K ([],r4))/\((neN r4 0)=false->False))))))
theorem traces_WalkZ_walkO {p0:Circ}{p1:Pat}{p2:Int}{K:((List LnZ)×Nat)->Prop} (hm:traces_WalkZ_wp p0 p1 p2 K) {h0:Heap} (hB:HasB vars h0):∃ v h',CallD Tryz.prog NG 21 ⟨[encCirc p0,encPat p1,z64 p2]⟩ h0 v h'/\OwnRes vars h0 K (fun (r:((List LnZ)×Nat)) a=>Value.tuple ⟨[clipV a (r.1.map encLnZ),i64 (r.2)]⟩) (fun (r:((List LnZ)×Nat))=>r.1) encLnZ false v h':=by
 unfold traces_WalkZ_wp at hm
 refine fg Tryz.func21 (Q:=OwnRes vars h0 K (fun (r:((List LnZ)×Nat)) a=>Value.tuple ⟨[clipV a (r.1.map encLnZ),i64 (r.2)]⟩) (fun (r:((List LnZ)×Nat))=>r.1) encLnZ false) ?_;have O:=Own.start hB;conv=>whnf
 refine gX ?_
 refine fz ?_;refine gH ?_
 refine fz ?_;refine gX ?_
 refine ca (traces_plain_walk hm O.has) fun r1 hm=>?_;refine gX ?_
 refine br hm (fun hm=>?_) fun hm=>?_
 ·refine gX ?_
  have O:=O.addNil (.cells (flatC (([]:(List LnZ)).map encLnZ)) false)
  exact⟨([],r1),none,hm,VLe.refl _ _,(fun _=>rfl),(fun _ _=>rfl),O.sel [0] (by decide)⟩
 ·apply Cs;conv=>whnf
  apply Cs;conv=>whnf
  refine jn hm 53 [2,3,4] (fun s=>s) (fun v2 h=>Own vars h0 [] h) (fun v2=>[(28,(.bool v2))]) (fun hm=>?_) ?_
  ·refine gX ?_
   refine br hm (fun hm=>?_) fun hm=>?_
   ·refine gX ?_
    exact jx true hm O
   ·refine gX ?_
    exact jx (!ltI p2 (Int.ofNat p0.nodes.length)) hm O
  ·clear hm;rintro v2 base h hm O
   refine gX ?_
   refine br hm (fun hm=>?_) fun hm=>?_
   ·refine gX ?_
    have O:=O.addNil (.cells (flatC (([]:(List LnZ)).map encLnZ)) false)
    exact⟨([],1),none,hm,VLe.refl _ _,(fun _=>rfl),(fun _ _=>rfl),O.sel [0] (by decide)⟩
   ·refine gX ?_
    refine ca (traces_full_walk hm O.has) fun r4 hm=>?_;refine gX ?_
    refine br hm (fun hm=>?_) fun hm=>?_
    ·refine gX ?_
     have O:=O.addNil (.cells (flatC (([]:(List LnZ)).map encLnZ)) false)
     exact⟨([],r4),none,hm,VLe.refl _ _,(fun _=>rfl),(fun _ _=>rfl),O.sel [0] (by decide)⟩
    ·refine gX ?_
     exact False.elim hm
def law17_TracesWalkZ_wp (p0:CData) (p1:Nat) (p2:Int) (K:Bool->Prop):Prop :=
 probecardlaw12_Plain_wp (⟨p0.inp,0,p0.data0,p0.data1,p0.bus,p0.mem,p0.port0,p0.port1,p0.port2,p0.port3,p0.gates,p0.outs⟩:CData) (fun r3=>((eqN r3.nodes.length 0)=true->K false)/\((eqN r3.nodes.length 0)=false->probecardlaw12_Full_wp r3 p1 (fun r6=>joinW (α:=Bool) (fun k10=>((ltI p2 (Int.ofNat 0))=true->k10 true)/\((ltI p2 (Int.ofNat 0))=false->k10 (!ltI p2 (Int.ofNat r3.nodes.length)))) (fun v9=>(v9=true->traces_WalkZ_wp r3 r6 p2 (fun r11=>((eqN r11.2 1)=true->((eqN r11.1.length 0)=true->probecardlaw17_lives_wp  (fun r16=>K r16))/\((eqN r11.1.length 0)=false->K false))/\((eqN r11.2 1)=false->K false)))/\(v9=false->traces_WalkZ_wp r3 r6 p2 (fun _=>False))))))
theorem law17_TracesWalkZ_walk {p0:CData}{p1:Nat}{p2:Int}{K:Bool->Prop} (hm:law17_TracesWalkZ_wp p0 p1 p2 K) {h0:Heap} (hB:HasB vars h0):∃ r,K r/\CallD Tryz.prog NG 6 ⟨[encC p0,n64 p1,z64 p2]⟩ h0 (Value.bool r) h0:=by
 unfold law17_TracesWalkZ_wp at hm
 refine fw Tryz.func6 hB (enc:=Value.bool) (fun r=>PureV.flat rfl) fun O=>?_;conv=>whnf
 refine gX ?_
 (first|refine O.new (boxK rfl) fun g1 h O=>?_|refine O.newX (boxK rfl) fun g1 h O=>?_);refine gH ?_
 refine gX ?_
 refine O.stC 1 (.head _) [(n8 p0.inp),(n8 0),(n8 p0.data0),(n8 p0.data1),(.bool p0.bus),(.bool p0.mem),(n8 p0.port0),(n8 p0.port1),(n8 p0.port2),(n8 p0.port3),((encL 4 encG) p0.gates),((encL 1 n8) p0.outs)] fun h O=>?_;refine gX ?_
 refine ldA (O.at (.head _)) ?_;refine gH ?_
 refine ca (probecardlaw12_Plain_walk hm O.has) fun r3 hm=>?_;refine gH ?_
 (first|refine O.new (anew_alloc (l:=[(.slice none 0 0),(.slice none 0 0),(.slice none 0 0),(.slice none 0 0)]) rfl rfl rfl) fun g4 h O=>?_|refine O.newX (anew_alloc (l:=[(.slice none 0 0),(.slice none 0 0),(.slice none 0 0),(.slice none 0 0)]) rfl rfl rfl) fun g4 h O=>?_);refine gH ?_
 refine O.stC 4 (.head _) [((encL 4 encNode) r3.nodes),((encL 1 Value.string) r3.names),((encL 3 encMem) r3.mems),((encL 1 i64) r3.outs)] fun h O=>?_;refine gX ?_
 refine br hm (fun hm=>?_) fun hm=>?_
 ·refine gX ?_
  exact fe hm O
 ·refine gX ?_
  refine ldA (O.at (.head _)) ?_;refine gH ?_
  refine ca (probecardlaw12_Full_walk hm O.has) fun r6 hm=>?_;refine gH ?_
  (first|refine O.new (anew_alloc (l:=[(.slice none 0 0),(.slice none 0 0)]) rfl rfl rfl) fun g7 h O=>?_|refine O.newX (anew_alloc (l:=[(.slice none 0 0),(.slice none 0 0)]) rfl rfl rfl) fun g7 h O=>?_);refine gH ?_
  refine O.stC 2 (.head _) [((encL 1 n8) r6.inp),((encL 1 n8) r6.state)] fun h O=>?_;refine gH ?_
  apply Cs;conv=>whnf
  refine jn hm 240 [2,7,8] (fun s=>s) (fun v9 h=>Own vars h0 [((some g4),.cells [((encL 4 encNode) r3.nodes),((encL 1 Value.string) r3.names),((encL 3 encMem) r3.mems),((encL 1 i64) r3.outs)] false),((some g7),.cells [((encL 1 n8) r6.inp),((encL 1 n8) r6.state)] false)] h) (fun v9=>[(49,(.bool v9))]) (fun hm=>?_) ?_
  ·refine gX ?_
   refine br hm (fun hm=>?_) fun hm=>?_
   ·refine gX ?_
    exact jx true hm (O.sel [1,0] (by decide))
   ·refine gX ?_
    exact jx (!ltI p2 (Int.ofNat r3.nodes.length)) hm (O.sel [1,0] (by decide))
  ·clear hm;rintro v9 base h hm O
   refine gX ?_
   refine br hm (fun hm=>?_) fun hm=>?_
   ·refine gX ?_
    refine ldA (O.at (.head _)) ?_;refine gH ?_
    refine ldA (O.at (.tail _ (.head _))) ?_;refine gH ?_
    refine caO (traces_WalkZ_walkO hm O.has) O fun r11 a12 h hx ha14 hn15 O hm=>?_;refine gX ?_
    refine br hm (fun hm=>?_) fun hm=>?_
    ·refine gX ?_
     refine br hm (fun hm=>?_) fun hm=>?_
     ·refine gX ?_
      refine ca (probecardlaw17_lives_walk hm O.has) fun r16 hm=>?_;refine gX ?_
      exact fe hm O
     ·refine gX ?_
      exact fe hm O
    ·refine gX ?_
     refine bf ?_;refine gX ?_
     exact fe hm O
   ·refine gX ?_
    refine ldA (O.at (.head _)) ?_;refine gH ?_
    refine ldA (O.at (.tail _ (.head _))) ?_;refine gH ?_
    refine caO (traces_WalkZ_walkO hm O.has) O fun r17 a18 h hx ha20 hn21 O hm=>?_;refine gX ?_
    refine ldA (O.at (.tail _ (.head _))) ?_;refine gH ?_
    refine ldA (O.at (.tail _ (.tail _ (.head _)))) ?_;refine gH ?_
    exact False.elim hm
def seeN (c:Circ) (s:Nat):Circ:=⟨c.nodes,c.names,c.mems,[s]⟩
theorem solL_see (c:Circ) (s:Nat) (p:Pat) (nt:Nat->Nat->Nat) (pn:Nat->Nat->Nat->Nat):∀ n,solL (seeN c s) p nt pn n=solL c p nt pn n
 |0=>rfl
 |n+1=>by
  unfold solL
  rw[solL_see c s p nt pn n]
  rfl
theorem valV_see (c:Circ) (s:Nat) (p:Pat):valV (seeN c s) p=valV c p:=solL_see c s p idN idP c.nodes.length
theorem good_see {c:Circ} (g:Good c) (hn:c.names=(List.range c.nodes.length).map nameB) {s:Nat} (hs:s<c.nodes.length):Good (seeN c s):=by
 have node:∀ i x,(seeN c s).nodes[i]?=some x->GoodN (seeN c s) i x:=fun i x h=>by
  have q:=g.node i x h
  exact⟨q.kind,q.arity,q.ins,q.bus,q.mem,q.memb,q.acyc⟩
 refine⟨g.len,g.names,names_ok (n:=c.nodes.length) g.len hn,fan_ok ⟨g.len,fun i x h=>⟨(node i x h).ins,(node i x h).few⟩⟩,fun m hm=>?_,g.memsLen,fun o ho=>?_,lbE rfl,node,g.pos⟩
 ·have q:=g.mems m hm
  exact⟨q.addr,q.data,q.addrs,q.datas,q.write⟩
 ·have ho:o∈[s]:=ho
  rw[List.mem_singleton] at ho
  rw[ho];exact hs
theorem plz_see {c:Circ} (P:Plz c) (hn:c.names=(List.range c.nodes.length).map nameB) {s:Nat} (hs:s<c.nodes.length):Plz (seeN c s):=⟨⟨good_see P.cir.good hn hs,P.cir.mems,P.cir.kinds⟩,P.kinds⟩
theorem full_see {c:Circ}{p:Pat} (F:Full c p) (s:Nat):Full (seeN c s) p:=⟨⟨F.pat.inp,F.pat.state,F.pat.inpv,F.pat.statev⟩,F.inp,F.state⟩
inductive Reg (c:Circ) (s:Nat):LnZ->Prop
 |base:Reg c s ⟨s,Int.negSucc 0⟩
 |pin {k j m:Nat}:Reg c s ⟨k,Int.negSucc 0⟩->(insOf c k)[j]?=some m->Reg c s ⟨k,Int.ofNat j⟩
 |net {k j m:Nat}:Reg c s ⟨k,Int.ofNat j⟩->(insOf c k)[j]?=some m->manyN c m=1->Reg c s ⟨m,Int.negSucc 0⟩
theorem all_comb {c:Circ} (P:Plz c) (hd:∀ (i:Nat) (x:Node),c.nodes[i]?=some x->x.kind≠14) {k j m:Nat} (h:(insOf c k)[j]?=some m):∃ x,c.nodes[k]?=some x/\combB x.kind=true/\x.ins[j]?=some m:=by
 obtain⟨x,hx,hj⟩:=insOf_node h
 exact⟨x,hx,pin_comb P hx hj (hd k x hx),hj⟩
theorem Reg.le {c:Circ} (P:Plz c) (hd:∀ (i:Nat) (x:Node),c.nodes[i]?=some x->x.kind≠14) {s:Nat}{l:LnZ} (h:Reg c s l):l.node<=s:=by
 induction h with
 |base=>exact Nat.le_refl _
 |pin _ _ ih=>exact ih
 |net _ hp _ ih =>
  obtain⟨x,hx,hc,hj⟩:=all_comb P hd hp
  have:=ins_lt P.cir hx hc (List.mem_of_getElem? hj)
  dsimp only at ih ⊢
  omega
theorem Reg.line {c:Circ} (P:Plz c) (hd:∀ (i:Nat) (x:Node),c.nodes[i]?=some x->x.kind≠14) {s:Nat} (hs:s<c.nodes.length) {l:LnZ} (h:Reg c s l):l∈linesN c:=by
 have hle:=h.le P hd
 refine line_mem.2 ⟨by omega,?_⟩
 cases h with
 |base=>exact .inl rfl
 |pin _ hp=>exact .inr ⟨_,rfl,lt_of_get hp⟩
 |net _ _ _=>exact .inl rfl
theorem reg_net {c:Circ} (P:Plz c) (hn:c.names=(List.range c.nodes.length).map nameB) (hd:∀ (i:Nat) (x:Node),c.nodes[i]?=some x->x.kind≠14) {p:Pat} (F:Full c p) {s:Nat} (hs:s<c.nodes.length) {l:LnZ} (h:Reg c s l):critN (seeN c s) p l.node=true↔Rch c (valV c p) s l.node:=by
 have D:=plz_see P hn hs
 have G:=full_see F s
 induction h with
 |base=>exact⟨fun _=>.base,fun _=>critN_out D G (.head _)⟩
 |pin _ _ ih=>exact ih
 |@net k j m hr hp h1 ih =>
  obtain⟨x,hx,hc,hj⟩:=all_comb P hd hp
  have hlt:=ins_lt P.cir hx hc (List.mem_of_getElem? hj)
  have hle:=hr.le P hd
  dsimp only at ih hle ⊢
  have o:=one_of h1 hp
  have od:One (seeN c s) m k j:=⟨o.pin,o.only,fun q=>by
   have q:m∈[s]:=q
   rw[List.mem_singleton] at q
   omega⟩
  have hmn:m<c.nodes.length:=by omega
  have e:chgB (seeN c s) (valV (seeN c s) p) k j=chgB c (valV c p) k j:=by rw[valV_see];rfl
  rw[critN_one D G od hmn,critP_gate D G hx hc hj,e,Bool.and_eq_true]
  constructor
  ·rintro⟨h2,h3⟩
   exact (ih.1 h3).step hx hc hj h2 h1
  ·intro h2
   cases h2 with
   |base=>omega
   |step hr2 hx2 hc2 hj2 hg2 hm2 =>
    obtain⟨rfl,rfl⟩:=o.only _ _ (by rw[insOf_eq hx2];exact hj2)
    exact⟨hg2,ih.2 hr2⟩
theorem reg_crit {c:Circ} (P:Plz c) (hn:c.names=(List.range c.nodes.length).map nameB) (hd:∀ (i:Nat) (x:Node),c.nodes[i]?=some x->x.kind≠14) {p:Pat} (F:Full c p) {s:Nat} (hs:s<c.nodes.length) {l:LnZ} (h:Reg c s l):critL (seeN c s) p l=true↔InW c (valV c p) s l:=by
 have D:=plz_see P hn hs
 have G:=full_see F s
 have key:=reg_net P hn hd F hs h
 have hl:=h.line P hd hs
 obtain⟨h1,h2⟩:=line_mem.1 hl
 obtain⟨a,b⟩:=l
 dsimp only at key h1 h2
 rcases h2 with rfl|⟨j,rfl,hj⟩
 ·rw[critL_net,key]
  exact⟨fun h=>⟨h,.inl rfl⟩,fun h=>h.1⟩
 ·obtain⟨y,hy⟩:=get_lt hj
  obtain⟨x,hx,hc,hj2⟩:=all_comb P hd hy
  have e:chgB (seeN c s) (valV (seeN c s) p) a j=chgB c (valV c p) a j:=by rw[valV_see];rfl
  rw[critL_pin,critP_gate D G hx hc hj2,e,Bool.and_eq_true,key]
  constructor
  ·rintro⟨h3,h4⟩
   exact⟨h4,.inr ⟨j,x,rfl,hx,hc,lt_of_get hj2,h3⟩⟩
  ·rintro⟨h3,h4⟩
   refine⟨?_,h3⟩
   rcases h4 with e|⟨j',x',e,_,_,_,h5⟩
   ·cases e
   ·cases e;exact h5
theorem inW_reg {c:Circ}{t:List Nat}{s:Nat}{l:LnZ} (h:InW c t s l):Reg c s l:=by
 have key:∀ m,Rch c t s m->Reg c s ⟨m,Int.negSucc 0⟩:=by
  intro m h
  induction h with
  |base=>exact .base
  |step _ hx hc hj _ h1 ih=>exact .net (.pin ih (by rw[insOf_eq hx];exact hj)) (by rw[insOf_eq hx];exact hj) h1
 obtain⟨h1,h2⟩:=h
 obtain⟨a,b⟩:=l
 dsimp only at h1 h2
 rcases h2 with rfl|⟨j,x,rfl,hx,hc,hj,_⟩
 ·exact key a h1
 ·obtain⟨y,hy⟩:=get_lt hj
  exact .pin (key a h1) (by rw[insOf_eq hx];exact hy)
theorem Walk_vc {c:Circ} (P:Plz c) {p:Pat} (F:Full c p) {s:Nat} (hs:s<c.nodes.length) {K:List LnZ×Nat->Prop} (h:∀ q:LnZ->Bool,(∀ l,l∈linesN c->(q l=true↔InW c (valV c p) s l))->K ((linesN c).filter q,0)):traces_Walk_wp c p s K:=by
 have C:=P.cir
 have V:=V_sol C F.pat
 have hL:=linesN_len C
 unfold traces_Walk_wp
 refine tplain_vc P ⟨(fun q=>absurd rfl (ne_t.1 q)),fun _=>joinB' (a:=false) (fun G=>⟨fun q=>absurd (lt_t.1 q) (Nat.not_lt_zero _),fun _=>?_⟩) ⟨(fun q=>by cases q),fun _=>tfull_vc C F ⟨(fun q=>absurd rfl (ne_t.1 q)),fun _=>runV_vc C F.pat (loads_wp_vc C (walk_vc P V.len hs fun r hr1 hr2=>⟨?_,fun x hx=>line_bd C (inW_mem C hs ((hr2 x).1 hx)),fun l h1 h2=>?_⟩))⟩⟩⟩
 ·rw[show (!ltN s c.nodes.length)=false from nlt_f.2 hs];exact G
 ·have:=nodupLen hr1 fun l hl=>inW_mem C hs ((hr2 l).1 hl)
  omega
 ·have hm:∀ x,x∈r↔x∈linesN c/\decide (x∈r)=true:=fun x=>⟨fun m=>⟨inW_mem C hs ((hr2 x).1 m),decide_eq_true m⟩,fun m=>of_decide_eq_true m.2⟩
  rw[sorted_is hr1 hm h1 h2]
  exact h _ fun x _=>by rw[decide_eq_true_eq,hr2]
def trueM (ks:List LnZ):List (LnZ×Bool):=ks.map fun s=>(s,true)
theorem trueM_get (ks:List LnZ) (l:LnZ):(mget (trueM ks) l).getD false=decide (l∈ks):=by
 induction ks with
 |nil=>rfl
 |cons a ks ih =>
  show (mget ((a,true)::trueM ks) l).getD false=_
  unfold mget
  by_cases e:l=a
  ·rw[if_pos e,decide_eq_true (by rw[e];exact .head _)];rfl
  ·rw[if_neg e,ih,Bool.eq_iff_iff,decide_eq_true_eq,decide_eq_true_eq,List.mem_cons]
   exact⟨.inr,fun h=>h.resolve_left e⟩
theorem trueM_new {ks:List LnZ}{l:LnZ} (h:l ∉ ks):mset (trueM ks) l true=trueM (ks++[l]):=by
 induction ks with
 |nil=>rfl
 |cons a ks ih =>
  rw[List.mem_cons,not_or] at h
  show mset ((a,true)::trueM ks) l true=(a,true)::trueM (ks++[l])
  unfold mset
  rw[if_neg h.1,ih h.2]
theorem trueM_len (ks:List LnZ):(trueM ks).length=ks.length:=by unfold trueM;simp
structure RegK (c:Circ) (s:Nat) (ks:List LnZ):Prop where
 nd:ks.Nodup
 sub:∀ l∈ks,Reg c s l
 root:(⟨s,Int.negSucc 0⟩:LnZ)∈ks
def ClosedTo (c:Circ) (ks:List LnZ) (k j:Nat):Prop:=∀ k' j' m,(k'<k\/k'=k/\j'<j)->(insOf c k')[j']?=some m->((⟨k',Int.negSucc 0⟩:LnZ)∈ks->(⟨k',Int.ofNat j'⟩:LnZ)∈ks)/\((⟨k',Int.ofNat j'⟩:LnZ)∈ks->manyN c m=1->(⟨m,Int.negSucc 0⟩:LnZ)∈ks)
theorem RegK.add {c:Circ}{s:Nat}{ks:List LnZ} (R:RegK c s ks) {l:LnZ} (h1:l ∉ ks) (h2:Reg c s l):RegK c s (ks++[l]):=⟨nodup_snoc.2 ⟨R.nd,h1⟩,fun x m=>by
 rcases snoc_mem.1 m with m|rfl
 ·exact R.sub x m
 ·exact h2,snoc_mem.2 (.inl R.root)⟩
theorem RegK.all {c:Circ}{s:Nat}{ks:List LnZ} (R:RegK c s ks) (h:ClosedTo c ks c.nodes.length 0) (l:LnZ):l∈ks↔Reg c s l:=by
 refine⟨R.sub l,fun q=>?_⟩
 induction q with
 |base=>exact R.root
 |pin _ hp ih =>
  obtain⟨x,hx,_⟩:=insOf_node hp
  exact (h _ _ _ (.inl (lt_of_get hx)) hp).1 ih
 |net _ hp h1 ih =>
  obtain⟨x,hx,_⟩:=insOf_node hp
  exact (h _ _ _ (.inl (lt_of_get hx)) hp).2 ih h1
theorem region_vc {c:Circ} (P:Plz c) (hd:∀ (i:Nat) (x:Node),c.nodes[i]?=some x->x.kind≠14) {s:Nat} (hs:s<c.nodes.length) {rest:List (LnZ×Bool)->Prop} (h:∀ m:List (LnZ×Bool),(∀ l,(mget m l).getD false=true↔Reg c s l)->rest m) :
  joinW (α:=(List (LnZ×Bool))) (fun k34=>loopW (S:=((List (LnZ×Bool))×Bool)) (fun (v35,v36) nx38=>(v36=true->loopW (S:=((List (LnZ×Bool))×Bool×Nat)) (fun (v39,v40,v41) nx43=>((ltN v41 c.nodes.length)=true->joinW (α:=((List (LnZ×Bool))×Bool)) (fun k47=>loopW (S:=((List (LnZ×Bool))×Bool×Nat)) (fun (v48,v49,v50) nx52=>∃ x53,c.nodes[v41]?=some x53/\((ltN v50 x53.ins.length)=true->joinW (α:=((List (LnZ×Bool))×Bool)) (fun k57=>joinW (α:=((List (LnZ×Bool))×Bool)) (fun k63=>joinW (α:=Bool) (fun k66=>((!((mget v48 (⟨v41,(Int.ofNat v50)⟩:LnZ)).getD false))=true->k66 ((mget v48 (⟨v41,(Int.negSucc 0)⟩:LnZ)).getD false))/\((!((mget v48 (⟨v41,(Int.ofNat v50)⟩:LnZ)).getD false))=false->k66 false)) (fun v64=>(v64=true->k63 ((mset v48 (⟨v41,(Int.ofNat v50)⟩:LnZ) true),true))/\(v64=false->k63 (v48,v49)))) (fun (v60,v61)=>∃ x67,c.nodes[v41]?=some x67/\∃ x68,x67.ins[v50]?=some x68/\probecardlaw17_loads_wp c x68 (fun r69=>joinW (α:=Bool) (fun k74=>(((mget v60 (⟨v41,(Int.ofNat v50)⟩:LnZ)).getD false)=true->((eqN r69.1 1)=true->k74 (!((mget v60 (⟨x68,(Int.negSucc 0)⟩:LnZ)).getD false)))/\((eqN r69.1 1)=false->k74 false))/\(((mget v60 (⟨v41,(Int.ofNat v50)⟩:LnZ)).getD false)=false->k74 false)) (fun v72=>(v72=true->k57 ((mset v60 (⟨x68,(Int.negSucc 0)⟩:LnZ) true),true))/\(v72=false->k57 (v60,v61)))))) (fun (v54,v55)=>v50+1<2 ^ 63/\nx52 (v54,v55,(v50+1))))/\((ltN v50 x53.ins.length)=false->k47 (v48,v49))) (v39,v40,0)) (fun (v44,v45)=>v41+1<2 ^ 63/\nx43 (v44,v45,(v41+1))))/\((ltN v41 c.nodes.length)=false->nx38 (v39,v40))) (v35,false,0))/\(v36=false->k34 v35)) ((mset ([]:List (LnZ×Bool)) (⟨s,(Int.negSucc 0)⟩:LnZ) true),true)) rest:=by
 have C:=P.cir
 have hlen:=C.len
 have hL:=linesN_len C
 have bd:∀ {ks:List LnZ},RegK c s ks->ks.length<=272:=fun R=>Nat.le_trans (nodupLen R.nd fun l m=>(R.sub l m).line P hd hs) hL
 refine joinLoop (fun q=>∃ ks,q.1=trueM ks/\RegK c s ks/\(q.2=false->ClosedTo c ks c.nodes.length 0)) (fun q=>2*(272-q.1.length)+(if q.2=true then 1 else 0)) (fun m=>∀ l,(mget m l).getD false=true↔Reg c s l) ?_ ⟨[⟨s,Int.negSucc 0⟩],rfl,⟨List.pairwise_singleton _ _,fun l m=>by rw[List.mem_singleton] at m;subst m;exact .base,.head _⟩,fun e=>by cases e⟩ h
 rintro k ⟨m,ch⟩ nx ⟨ks,hm,R,hc⟩ hnx hk
 dsimp only at hm hc
 subst hm
 refine⟨fun q=>?_,fun q=>hk _ fun l=>?_⟩
 ·subst q
  have bks:=bd R
  refine loopW_intro (fun q=>q.2.2<=c.nodes.length/\∃ ks2,q.1=trueM ks2/\RegK c s ks2/\ks.length<=ks2.length/\(q.2.1=true->ks.length<ks2.length)/\(q.2.1=false->ClosedTo c ks2 q.2.2 0)) (fun q=>c.nodes.length-q.2.2) ?_ ⟨Nat.zero_le _,ks,rfl,R,Nat.le_refl _,(fun e=>by cases e),fun _ k' j' m h=>by dsimp only at h;omega⟩
  rintro⟨m,ch,a⟩ nx2 ⟨ha,ks2,hm,R2,hl,ht,hf⟩ hnx2
  dsimp only at ha hm ht hf
  subst hm
  refine⟨fun q=>?_,fun q=>?_⟩
  ·have q:a<c.nodes.length:=lt_t.1 q
   obtain⟨x,hx⟩:=get_lt q
   have hfew:=(C.good.node a x hx).few
   refine joinLoop (fun q=>q.2.2<=x.ins.length/\∃ ks2,q.1=trueM ks2/\RegK c s ks2/\ks.length<=ks2.length/\(q.2.1=true->ks.length<ks2.length)/\(q.2.1=false->ClosedTo c ks2 a q.2.2)) (fun q=>x.ins.length-q.2.2) (fun q=>∃ ks2,q.1=trueM ks2/\RegK c s ks2/\ks.length<=ks2.length/\(q.2=true->ks.length<ks2.length)/\(q.2=false->ClosedTo c ks2 (a+1) 0)) ?_ ⟨Nat.zero_le _,ks2,rfl,R2,hl,ht,hf⟩ ?_
   ·rintro k3 ⟨m,ch,j⟩ nx3 ⟨hj,ks3,hm,R3,hl3,ht3,hf3⟩ hnx3 hk3
    dsimp only at hj hm ht3 hf3
    subst hm
    refine⟨x,hx,fun q3=>?_,fun q3=>hk3 _ ⟨ks3,rfl,R3,hl3,ht3,fun e k' j' m h hp=>?_⟩⟩
    ·have q3:j<x.ins.length:=lt_t.1 q3
     obtain⟨y,hy⟩:=get_lt q3
     have hp:(insOf c a)[j]?=some y:=by rw[insOf_eq hx];exact hy
     refine joinP (fun q=>∃ ks2,q.1=trueM ks2/\RegK c s ks2/\ks.length<=ks2.length/\(q.2=true->ks.length<ks2.length)/\(q.2=false->ClosedTo c ks2 a (j+1))) (fun k4 hk4=>?_) ?_
     ·refine joinP (fun q=>∃ ks2,q.1=trueM ks2/\RegK c s ks2/\ks.length<=ks2.length/\(q.2=true->ks.length<ks2.length)/\(q.2=false->ClosedTo c ks2 a j/\((⟨a,Int.negSucc 0⟩:LnZ)∈ks2->(⟨a,Int.ofNat j⟩:LnZ)∈ks2))) (fun k5 hk5=>?_) ?_
      ·refine joinB' (a := !decide ((⟨a,Int.ofNat j⟩:LnZ)∈ks3)&&decide ((⟨a,Int.negSucc 0⟩:LnZ)∈ks3)) (fun G=>?_) ⟨fun q4=>?_,fun q4=>?_⟩
       ·rw[trueM_get,trueM_get]
        refine⟨fun e=>?_,fun e=>?_⟩
        ·rw[e,Bool.true_and] at G;exact G
        ·rw[e,Bool.false_and] at G;exact G
       ·rw[Bool.and_eq_true,Bool.not_eq_true',decide_eq_false_iff_not,decide_eq_true_eq] at q4
        rw[trueM_new q4.1]
        exact hk5 _ ⟨ks3++[⟨a,Int.ofNat j⟩],rfl,R3.add q4.1 (.pin (R3.sub _ q4.2) hp),by simp only[List.length_append,List.length_singleton];omega,fun _=>by simp only[List.length_append,List.length_singleton];omega,fun e=>by cases e⟩
       ·refine hk5 _ ⟨ks3,rfl,R3,hl3,ht3,fun e=>⟨hf3 e,fun h5=>?_⟩⟩
        rw[Bool.and_eq_false_iff,Bool.not_eq_false',decide_eq_true_eq,decide_eq_false_iff_not] at q4
        rcases q4 with q4|q4
        ·exact q4
        ·exact absurd h5 q4
      ·rintro⟨m4,ch4⟩ ⟨ks4,e4,R4,hl4,ht4,hf4⟩
       dsimp only at e4 ht4 hf4
       subst e4
       refine⟨x,hx,y,hy,loads17_vc C fun a0 b0 _=>?_⟩
       refine joinB' (a:=decide ((⟨a,Int.ofNat j⟩:LnZ)∈ks4)&&(decide (manyN c y=1) && !decide ((⟨y,Int.negSucc 0⟩:LnZ)∈ks4))) (fun G=>?_) ⟨fun q5=>?_,fun q5=>?_⟩
       ·rw[trueM_get,trueM_get]
        refine⟨fun e=>⟨fun e2=>?_,fun e2=>?_⟩,fun e=>?_⟩
        ·rw[e,decide_eq_true (show manyN c y=1 from eq_t.1 e2),Bool.true_and,Bool.true_and] at G;exact G
        ·rw[e,decide_eq_false (show ¬ manyN c y=1 from eq_f.1 e2),Bool.false_and,Bool.and_false] at G;exact G
        ·rw[e,Bool.false_and] at G;exact G
       ·rw[Bool.and_eq_true,Bool.and_eq_true,Bool.not_eq_true',decide_eq_true_eq,decide_eq_true_eq,decide_eq_false_iff_not] at q5
        rw[trueM_new q5.2.2]
        exact hk4 _ ⟨ks4++[⟨y,Int.negSucc 0⟩],rfl,R4.add q5.2.2 (.net (R4.sub _ q5.1) hp q5.2.1),by simp only[List.length_append,List.length_singleton];omega,fun _=>by simp only[List.length_append,List.length_singleton];omega,fun e=>by cases e⟩
       ·refine hk4 _ ⟨ks4,rfl,R4,hl4,ht4,fun e k' j' m' h6 hp'=>?_⟩
        obtain⟨h7,h8⟩:=hf4 e
        by_cases e6:k'=a/\j'=j
        ·obtain⟨rfl,rfl⟩:=e6
         rw[hp] at hp'
         cases hp'
         refine⟨h8,fun h9 h10=>?_⟩
         rw[Bool.and_eq_false_iff,Bool.and_eq_false_iff,Bool.not_eq_false',decide_eq_false_iff_not,decide_eq_false_iff_not,decide_eq_true_eq] at q5
         rcases q5 with q5|q5|q5
         ·exact absurd h9 q5
         ·exact absurd h10 q5
         ·exact q5
        ·exact h7 k' j' m' (by omega) hp'
     ·rintro⟨m5,ch5⟩ ⟨ks5,e5,R5,hl5,ht5,hf5⟩
      exact⟨by omega,hnx3 _ ⟨q3,ks5,e5,R5,hl5,ht5,hf5⟩ (by dsimp only;omega)⟩
    ·have q3:x.ins.length<=j:=lt_f.1 q3
     refine hf3 e k' j' m ?_ hp
     by_cases e6:k'=a
     ·subst e6
      have:=lt_of_get hp
      rw[insOf_eq hx] at this
      omega
     ·omega
   ·rintro⟨m5,ch5⟩ ⟨ks5,e5,R5,hl5,ht5,hf5⟩
    exact⟨by omega,hnx2 _ ⟨q,ks5,e5,R5,hl5,ht5,hf5⟩ (by dsimp only;omega)⟩
  ·have q:c.nodes.length<=a:=lt_f.1 q
   have e:a=c.nodes.length:=by omega
   subst e
   have b2:=bd R2
   refine hnx _ ⟨ks2,rfl,R2,hf⟩ ?_
   dsimp only
   rw[trueM_len,trueM_len,if_pos rfl]
   cases ch with
   |true=>have:=ht rfl;rw[if_pos rfl];omega
   |false=>rw[if_neg (by decide)];omega
 ·rw[trueM_get,decide_eq_true_eq]
  exact R.all (hc q) l
theorem linesTo_split (c:Circ) {i n:Nat} (h:i<n):∃ r,linesTo c n=linesTo c i++(rowL c i++r):=by
 induction n with
 |zero=>omega
 |succ n ih =>
  by_cases e:i=n
  ·subst e
   exact⟨[],by rw[linesTo_succ,List.append_nil]⟩
  ·obtain⟨r,hr⟩:=ih (by omega)
   exact⟨r++rowL c n,by rw[linesTo_succ,hr];simp only[List.append_assoc]⟩
theorem filterMid {α:Type}{l pre post:List α}{q:α->Bool}{x:α} (e:l=pre++x::post) (hq:q x=true):(l.filter q)[(pre.filter q).length]?=some x:=by
 rw[e,List.filter_append,List.filter_cons,if_pos hq,List.getElem?_append_right (Nat.le_refl _),Nat.sub_self]
 rfl
theorem no_dff (x:CData) (hm:x.mem=false) (h0:x.dffs=0):∀ (i:Nat) (y:Node),(circN x).nodes[i]?=some y->y.kind≠14:=by
 intro i y h
 rcases circ_node hm h with⟨_,rfl⟩|⟨h1,h2,_⟩|⟨h1,_,g,hg⟩
 ·show (0:Nat)≠14;decide
 ·rw[h0] at h2;omega
 ·have hi:=lt_of_get h
  have hn:(circN x).nodes.length=(rawN x).length:=updN_length _
  have q:=gateK_ok x.bus g (ks:=((rawN x).take i).map Node.kind) (by rw[List.length_map,List.length_take];omega)
  rw[<- hg] at q
  have:=q.kind
  omega
theorem circ_names (x:CData):(circN x).names=(List.range (circN x).nodes.length).map nameB:=by
 have hn:(circN x).nodes.length=(rawN x).length:=updN_length _
 rw[hn]
 rfl
theorem walkOk_vc {c:Circ} (P:Plz c) (hn:c.names=(List.range c.nodes.length).map nameB) (hd:∀ (i:Nat) (x:Node),c.nodes[i]?=some x->x.kind≠14) {p:Pat} (F:Full c p) {s:Nat} (hs:s<c.nodes.length) {q:LnZ->Bool} (hq:∀ l,l∈linesN c->(q l=true↔InW c (valV c p) s l)) {m:List (LnZ×Bool)} (hm:∀ l,(mget m l).getD false=true↔Reg c s l) {l:LnZ} (hl:l∈linesN c):q l=((mget m l).getD false&&critL (seeN c s) p l):=by
 rw[Bool.eq_iff_iff,Bool.and_eq_true,hm,hq l hl]
 constructor
 ·exact fun h=>⟨inW_reg h,(reg_crit P hn hd F hs (inW_reg h)).2 h⟩
 ·exact fun ⟨h1,h2⟩=>(reg_crit P hn hd F hs h1).1 h2
theorem tracesWalk_vc {x:CData} (hx:CB x) {n s:Nat} (hs:s<(circN (noMem (noBus (noDff x)))).nodes.length) {K:Bool->Prop} (h:K true):probecardlaw17_TracesWalk_wp x n s K:=by
 have P:=plz_circ (x:=noMem (noBus (noDff x))) rfl rfl
 have hd:=no_dff (noMem (noBus (noDff x))) rfl rfl
 have hn:=circ_names (noMem (noBus (noDff x)))
 unfold probecardlaw17_TracesWalk_wp
 refine plain12_vc (cb_noDff hx) ?_
 generalize circN (noMem (noBus (noDff x)))=c at P hd hn hs ⊢
 have C:=P.cir
 have hlen:=C.len
 have hpos:=C.good.pos
 refine⟨fun q=>absurd (eq_t.1 q) (by omega),fun _=>full12_vc C fun p F=>?_⟩
 have V:=V_sol C F.pat
 have hL:=linesN_len C
 have D:=plz_see P hn hs
 have G:=full_see F s
 refine joinB' (a:=false) (fun G=>⟨fun q=>absurd (lt_t.1 q) (Nat.not_lt_zero _),fun _=>?_⟩) ⟨(fun q=>by cases q),fun _=>Walk_vc P F hs fun q hq=>runV_vc C F.pat ?_⟩
 ·rw[show (!ltN s c.nodes.length)=false from nlt_f.2 hs];exact G
 refine joinB' (a:=false) (fun G=>⟨fun q=>absurd rfl (ne_t.1 q),fun _=>⟨fun q=>absurd rfl (ne_t.1 q),fun _=>⟨fun q=>absurd V.len (ne_t.1 q),fun _=>?_⟩⟩⟩) ⟨(fun q=>by cases q),fun _=>region_vc P hd hs fun m hm=>?_⟩
 ·rw[ne_f.2 rfl];exact G
 have key:=fun l hl=>walkOk_vc P hn hd F hs hq hm (l:=l) hl
 refine joinLoop (fun v=>v.2<=c.nodes.length/\v.1=((linesTo c v.2).filter q).length) (fun v=>c.nodes.length-v.2) (fun k=>k=((linesN c).filter q).length) ?_ ⟨Nat.zero_le _,rfl⟩ ?_
 ·rintro k ⟨a,i⟩ nx ⟨hi,ha⟩ hnx hk
  dsimp only at hi ha
  refine⟨fun q1=>?_,fun q1=>hk _ ?_⟩
  ·have q1:i<c.nodes.length:=lt_t.1 q1
   obtain⟨y,hy⟩:=get_lt q1
   have hfew:=(C.good.node i y hy).few
   obtain⟨rs,hrs⟩:=linesTo_split c q1
   refine joinLoop (fun v=>∃ j:Nat,j<=y.ins.length+1/\v.2=Int.ofNat j-Int.ofNat 1/\v.1=((linesTo c i++(rowL c i).take j).filter q).length) (fun v=>y.ins.length+1-(v.2+1).toNat) (fun k=>k=((linesTo c (i+1)).filter q).length) ?_ ⟨0,Nat.zero_le _,rfl,by simpa using ha⟩ ?_
   ·rintro k2 ⟨a,b⟩ nx2 ⟨j,hj,hb,ha⟩ hnx2 hk2
    dsimp only at hb ha
    subst hb
    refine⟨y,hy,fun q2=>?_,fun q2=>hk2 _ ?_⟩
    ·have q2:=ltZ_t.1 q2
     simp only[Int.ofNat_eq_natCast] at q2
     have hg:(rowL c i)[j]?=some ⟨i,Int.ofNat j-Int.ofNat 1⟩:=by
      unfold rowL
      rw[List.getElem?_map,insOf_eq hy,List.getElem?_range (by omega)]
      rfl
     have hsplit:linesN c=(linesTo c i++(rowL c i).take j)++(⟨i,Int.ofNat j-Int.ofNat 1⟩:LnZ)::((rowL c i).drop (j+1)++rs):=by
      have e:rowL c i=(rowL c i).take j++(⟨i,Int.ofNat j-Int.ofNat 1⟩:LnZ)::(rowL c i).drop (j+1):=by rw[<- drop_some hg,List.take_append_drop]
      unfold linesN
      rw[hrs]
      conv=>lhs;rw[e]
      simp only[List.append_assoc,List.cons_append]
     have hmem:(⟨i,Int.ofNat j-Int.ofNat 1⟩:LnZ)∈linesN c:=by rw[hsplit];exact List.mem_append.2 (.inr (.head _))
     have hle:a<=272:=by
      rw[ha]
      refine Nat.le_trans (List.length_filter_le _ _) ?_
      have:=congrArg List.length hsplit
      rw[List.length_append] at this
      omega
     have hk1:=key _ hmem
     have hsucc:((linesTo c i++(rowL c i).take (j+1)).filter q).length=a+(if q ⟨i,Int.ofNat j-Int.ofNat 1⟩=true then 1 else 0):=by
      rw[takeG hg,<- List.append_assoc,List.filter_append,List.length_append,<- ha,List.filter_cons]
      split <;> rfl
     refine joinP (fun r=>r=((linesTo c i++(rowL c i).take (j+1)).filter q).length) (fun k3 hk3=>⟨fun q3=>hk3 _ ?_,fun q3=>?_⟩) ?_
     ·rw[nb_t q3,Bool.false_and] at hk1
      rw[hsucc,hk1]
      rfl
     ·rw[nb_f q3,Bool.true_and] at hk1
      have hvb:=V_bin P F (netOf c ⟨i,Int.ofNat j-Int.ofNat 1⟩)
      refine net17_vc hmem ⟨_,getN V.len (netOf_lt C hmem),not_vc ?_⟩
      refine detects_vc (c:=seeN c s) D.cir G.pat (f:=⟨0,⟨i,Int.ofNat j-Int.ofNat 1⟩,notN ((valV c p).getD (netOf c ⟨i,Int.ofNat j-Int.ofNat 1⟩) 0),0⟩) (line_stuck (c:=seeN c s) hmem (by rw[notN_bin hvb];omega)) ?_
      have ec:detB (seeN c s) p ⟨0,⟨i,Int.ofNat j-Int.ofNat 1⟩,notN ((valV c p).getD (netOf c ⟨i,Int.ofNat j-Int.ofNat 1⟩) 0),0⟩=critL (seeN c s) p ⟨i,Int.ofNat j-Int.ofNat 1⟩:=by
       unfold critL
       rw[valV_see]
       rfl
      rw[ec,<- hk1]
      refine⟨fun q4=>absurd rfl (ne_t.1 q4),fun _=>⟨fun q4=>?_,fun q4=>hk3 _ ?_⟩⟩
      ·have q4:q ⟨i,Int.ofNat j-Int.ofNat 1⟩=true:=q4
       have hat:=filterMid hsplit q4
       rw[<- ha] at hat
       refine joinB' (a:=false) (fun G=>⟨fun q3=>?_,fun q3=>⟨_,hat,?_⟩⟩) ⟨(fun q=>by cases q),fun _=>⟨by omega,hk3 _ ?_⟩⟩
       ·exact absurd (lt_of_get hat) (Nat.not_lt.2 (nlt_t.1 q3))
       ·have:=same_line ⟨i,Int.ofNat j-Int.ofNat 1⟩
        dsimp only at this ⊢
        rw[this];exact G
       ·rw[hsucc,if_pos q4]
      ·have q4:q ⟨i,Int.ofNat j-Int.ofNat 1⟩=false:=q4
       rw[hsucc,q4]
       rfl
     ·rintro _ rfl
      refine⟨by simp only[Int.ofNat_eq_natCast];omega,by simp only[Int.ofNat_eq_natCast];omega,hnx2 _ ⟨j+1,by omega,by simp only[Int.ofNat_eq_natCast];omega,rfl⟩ (by dsimp only;simp only[Int.ofNat_eq_natCast];omega)⟩
    ·have q2:=ltZ_f.1 q2
     simp only[Int.ofNat_eq_natCast] at q2
     rw[ha,linesTo_succ,List.take_of_length_le]
     unfold rowL
     rw[List.length_map,List.length_range,insOf_eq hy]
     omega
   ·rintro _ rfl
    exact⟨by omega,hnx _ ⟨q1,rfl⟩ (by dsimp only;omega)⟩
  ·have q1:c.nodes.length<=i:=lt_f.1 q1
   have e:i=c.nodes.length:=by omega
   subst e
   exact ha
 ·rintro _ rfl
  exact⟨fun _=>lives17_vc h,fun q=>absurd rfl (eq_f.1 q)⟩
theorem tracesWalkZ_vc {x:CData} (hx:CB x) {n:Nat}{s:Int} (hs:s<0\/Int.ofNat (circN (noMem (noBus (noDff x)))).nodes.length<=s) {K:Bool->Prop} (h:K true):law17_TracesWalkZ_wp x n s K:=by
 have P:=plz_circ (x:=noMem (noBus (noDff x))) rfl rfl
 unfold law17_TracesWalkZ_wp
 refine plain12_vc (cb_noDff hx) ?_
 generalize circN (noMem (noBus (noDff x)))=c at P hs ⊢
 have C:=P.cir
 have hpos:=C.good.pos
 refine⟨fun q=>absurd (eq_t.1 q) (by omega),fun _=>full12_vc C fun p F=>?_⟩
 have bad:ltI s (Int.ofNat 0)=false->(!ltI s (Int.ofNat c.nodes.length))=true:=by
  intro q
  have q:=ltZ_f.1 q
  have:ltI s (Int.ofNat c.nodes.length)=false:=ltZ_f.2 (by
   rcases hs with hs|hs
   ·simp only[Int.ofNat_eq_natCast] at q;omega
   ·exact hs)
  rw[this];rfl
 refine joinB' (a:=true) (fun G=>⟨fun _=>G,fun q=>?_⟩) ⟨fun _=>?_,(fun q=>by cases q)⟩
 ·rw[bad q];exact G
 unfold traces_WalkZ_wp
 refine tplain_vc P ⟨(fun q=>absurd rfl (ne_t.1 q)),fun _=>joinB' (a:=true) (fun G=>⟨fun _=>G,fun q=>?_⟩) ⟨fun _=>⟨fun _=>⟨fun _=>lives17_vc h,(fun q=>by cases q)⟩,(fun q=>by cases q)⟩,(fun q=>by cases q)⟩⟩
 rw[bad q];exact G
def tracesWalk_sh:List (Sh×Bool):=[(shC,true),(shU64,false),(shI64,false)]
theorem tracesWalk_call (x:DenL tracesWalk_sh) (w:wfL tracesWalk_sh x):FnV Tryz.prog NG vars 6 ⟨argL tracesWalk_sh x⟩ (.bool true):=by
 obtain⟨c,n,s,u⟩:=x
 obtain⟨wc,wn,ws,_⟩:=w
 obtain⟨y,hy,e1⟩:=c_arg wc
 obtain⟨n,hn,rfl⟩:=u64_of wn
 obtain⟨s',hs⟩:∃ s':Int,s'=s:=⟨s,rfl⟩
 subst hs
 have e:argL tracesWalk_sh (c,Int.ofNat n,s',u)=[encC y,n64 n,z64 s']:=by
  show [elV (!true) (shC.cellsF c),elV (!false) (shU64.cellsF (Int.ofNat n)),elV (!false) (shI64.cellsF s')]=_
  rw[e1];rfl
 rw[e]
 by_cases q:0<=s'/\s'.toNat<(circN (noMem (noBus (noDff y)))).nodes.length
 ·obtain⟨m,rfl⟩:=Int.eq_ofNat_of_zero_le q.1
  exact FnV.of_walk (enc:=Value.bool) (r:=true) (PureV.flat rfl) fun h hB=>probecardlaw17_TracesWalk_walk (K:=fun r=>r=true) (tracesWalk_vc hy q.2 rfl) hB
 ·exact FnV.of_walk (enc:=Value.bool) (r:=true) (PureV.flat rfl) fun h hB=>law17_TracesWalkZ_walk (K:=fun r=>r=true) (tracesWalkZ_vc (s:=s') hy (by simp only[Int.ofNat_eq_natCast];omega) rfl) hB
end Go.Proofs.YtmhbhclfojmjdaaGreatDoor
