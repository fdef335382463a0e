/-
  U9, Ua, Ub, TracesStems: parts of the proof.
-/
import Derived.Test.YtmhbhclfojmjdaaGreatDoorTa51
namespace Go.Proofs.YtmhbhclfojmjdaaGreatDoor
open Go.Abs
set_option maxRecDepth 100000
def dffPins (c:Circ) (m:Nat):List LnZ:=((fanOf c m).map Ln.toZ).filter fun l=>kd c l.node==14
theorem critical_vc {c:Circ} (P:Plz c) {p:Pat} (F:Full c p) {K:List LnZ→Prop} (h:∀ r,r.Nodup→(∀ l,l∈r↔l∈linesN c∧critL c p l=true)→K r):traces_critical_wp c p K:=by
 have C:=P.cir
 have hp:=F.pat
 have hlen:=C.len
 have hol:=C.good.outsLen
 have V:=V_sol C hp
 have hL:=linesN_len C
 unfold traces_critical_wp
 refine runV_vc C hp (loads_wp_vc C ?_)
 have inL:∀ {m:Nat} {l:LnZ},m<c.nodes.length→PartW c p m l→l∈linesN c:=fun hm hq=>((part_crit P F).1 ⟨_,hm,hq⟩).1
 refine joinLoop (fun s=>s.2≤c.nodes.length∧s.1.Nodup∧∀ l,l∈s.1 ↔ ∃ m,m<s.2∧PartW c p m l) (fun s=>c.nodes.length-s.2) (fun r=>r.Nodup∧∀ l,l∈r↔l∈linesN c∧critL c p l=true) ?_ ⟨Nat.zero_le _,List.nodup_nil,fun l=>⟨(fun m=>by cases m),fun ⟨m,hm,_⟩=>absurd hm (Nat.not_lt_zero _)⟩⟩ (fun r ⟨h1,h2⟩=>h r h1 h2)
 rintro k ⟨out,n⟩ nx ⟨hn,nd,mem⟩ hnx hk
 dsimp only at hn nd mem
 refine⟨fun q=>?_,fun q=>hk _ ⟨nd,fun l=>?_⟩⟩
 ·have q:n<c.nodes.length:=lt_t.1 q
  have hfl:=fan_len C.good q
  have bout:∀ {r:List LnZ},r.Nodup→(∀ l∈r,∃ m,m<n+1∧PartW c p m l)→r.length≤272:=fun h1 h2=>Nat.le_trans (nodupLen h1 fun l hl=>by
    obtain⟨m,hm,hq⟩:=h2 l hl
    exact inL (by omega) hq) hL
  refine joinP (fun r=>r.Nodup∧∀ l,l∈r ↔ ∃ m,m<n+1∧PartW c p m l) (fun k1 hk1=>containsI_vc (by omega) ?_) ?_
  ·
    refine joinB' (a:=c.outs.contains n||(decide (1<manyN c n)&&critN c p n)) (fun G=>?_) ?_
    · refine joinB' (a := !c.outs.contains n&&decide (1<manyN c n)) (fun G2=>⟨fun e=>⟨_,manyL_get q,?_⟩,fun e=>?_⟩) ⟨fun e=>⟨_,getN V.len q,not_vc ?_⟩,fun e=>?_⟩
      ·have e:c.outs.contains n=false:=nb_t e
       have:ltN 1 (manyN c n)=(!c.outs.contains n&&decide (1<manyN c n)):=by rw[ltN_eq,e];rfl
       rw[this];exact G2
      ·have e:c.outs.contains n=true:=nb_f e
       have e2:(!c.outs.contains n&&decide (1<manyN c n))=false:=by rw[e];rfl
       rw[e2] at G2;exact G2
      ·refine detects_vc C hp ⟨rfl,?_,rfl,q,show (-1:Int)≤Int.negSucc 0 by decide,?_⟩ ?_
       ·have:=V_bin P F n
        dsimp only
        rw[notN_bin this];omega
       ·exact Int.lt_of_lt_of_le (show Int.negSucc 0<0 by decide) (Int.natCast_nonneg _)
       ·rw[Bool.and_eq_true,Bool.not_eq_true'] at e
        rw[e.1,e.2,Bool.false_or,Bool.true_and] at G
        rw[det_net]
        exact G
      ·rw[Bool.and_eq_false_iff,Bool.not_eq_false'] at e
       rcases e with e|e
       ·rw[e,Bool.true_or] at G;rw[e];exact G
       ·rw[e,Bool.false_and,Bool.or_false] at G;exact G
    ·
      have es:startB c p n=((c.outs.contains n||(decide (1<manyN c n)&&critN c p n))||((fanOf c n).map Ln.toZ).any fun l=>kd c l.node==14):=by
       unfold startB
       rw[List.any_map]
       rfl
      have hdl:(((fanOf c n).map Ln.toZ).filter fun l=>kd c l.node==14).length≤1000:=Nat.le_trans (List.length_filter_le _ _) (by rw[List.length_map];exact hfl)
      have hnd:(dffPins c n).Nodup:=by
       refine List.Pairwise.filter _ (List.pairwise_map.2 ?_)
       refine (fan_nodup c n).imp fun {a b} hab e=>hab ?_
       obtain⟨a1,a2⟩:=a
       obtain⟨b1,b2⟩:=b
       unfold Ln.toZ at e
       cases e
       rfl
      have hdm:∀ l,l∈dffPins c n↔(l∈(fanOf c n).map Ln.toZ∧kd c l.node=14):=fun l=>by
       unfold dffPins
       rw[List.mem_filter,beq_iff_eq]
      have nd2:(out++dffPins c n).Nodup:=by
       refine List.nodup_append.2 ⟨nd,hnd,fun a ha b hb e=>?_⟩
       subst e
       obtain⟨m,hm,hq⟩:=(mem a).1 ha
       have:=part_uniq hq (.inl ((hdm a).1 hb))
       omega
      refine joinP (fun r=>r=(out++dffPins c n,startB c p n)) (fun k2 hk2=>⟨_,fanZ_get q,?_⟩) ?_
      ·have bo:=bout nd (fun l hl=>by obtain⟨m,hm,hq⟩:=(mem l).1 hl;exact⟨m,by omega,hq⟩)
       refine loopW_intro (fun s=>s.2.2≤(fanOf c n).length∧s.1=out++(((fanOf c n).map Ln.toZ).take s.2.2).filter (fun l=>kd c l.node==14)∧s.2.1=((c.outs.contains n||(decide (1<manyN c n)&&critN c p n))||(((fanOf c n).map Ln.toZ).take s.2.2).any fun l=>kd c l.node==14)) (fun s=>(fanOf c n).length-s.2.2) ?_ ⟨Nat.zero_le _,by simp,by simp⟩
       rintro⟨o2,b,j⟩ nx2 ⟨hj,ho2,hb⟩ hnx2
       dsimp only at hj ho2 hb
       refine⟨fun q2=>?_,fun q2=>?_⟩
       ·have q2:j<(fanOf c n).length:=by have:=lt_t.1 q2;rwa [List.length_map] at this
        obtain⟨l0,hl0⟩:=get_lt q2
        have hl:((fanOf c n).map Ln.toZ)[j]?=some l0.toZ:=by rw[List.getElem?_map,hl0];rfl
        have hln:l0.node<c.nodes.length:=fan_lt (List.mem_of_getElem? hl0)
        obtain⟨y,hy⟩:=get_lt hln
        have hb2:((((fanOf c n).map Ln.toZ).take j).filter fun l=>kd c l.node==14).length≤1000:=Nat.le_trans (List.length_filter_le _ _) (by rw[List.length_take,List.length_map];omega)
        refine joinP (fun r=>r.1=out++(((fanOf c n).map Ln.toZ).take (j+1)).filter (fun l=>kd c l.node==14)∧r.2=((c.outs.contains n||(decide (1<manyN c n)&&critN c p n))||(((fanOf c n).map Ln.toZ).take (j+1)).any fun l=>kd c l.node==14)) (fun k3 hk3=>⟨_,hl,y,hy,fun e=>⟨?_,hk3 _ ⟨?_,?_⟩⟩,fun e=>hk3 _ ⟨?_,?_⟩⟩) ?_
        ·rw[ho2,List.length_append]
         simp only[List.length_singleton]
         omega
        ·have e:kd c l0.toZ.node=14:=by rw[← eq_t.1 e];exact kd_eq hy
         dsimp only
         rw[ho2,takeG hl,List.filter_append,List.append_assoc]
         congr 2
         rw[List.filter_cons,e]
         rfl
        ·have e:kd c l0.toZ.node=14:=by rw[← eq_t.1 e];exact kd_eq hy
         dsimp only
         rw[takeG hl,List.any_append]
         simp[e]
        ·have e:¬ kd c l0.toZ.node=14:=by rw[show kd c l0.toZ.node=y.kind from kd_eq hy];exact eq_f.1 e
         dsimp only
         rw[ho2,takeG hl,List.filter_append]
         congr 1
         rw[List.filter_cons,if_neg (by simpa using e)]
         simp
        ·have e:¬ kd c l0.toZ.node=14:=by rw[show kd c l0.toZ.node=y.kind from kd_eq hy];exact eq_f.1 e
         have e':(kd c l0.toZ.node==14)=false:=by simpa using e
         dsimp only
         rw[hb,takeG hl,List.any_append,List.any_cons,e',List.any_nil]
         simp only[Bool.or_false]
        ·rintro⟨o3,b3⟩ ⟨h3,h4⟩
         exact⟨by omega,hnx2 _ ⟨q2,h3,h4⟩ (by dsimp only;omega)⟩
       ·have q2:(fanOf c n).length≤j:=by have:=lt_f.1 q2;rwa [List.length_map] at this
        rw[List.take_of_length_le (by rw[List.length_map];exact q2)] at ho2 hb
        refine hk2 _ ?_
        rw[ho2,hb,es]
        rfl
      ·rintro _ rfl
       refine⟨fun e=>walk_vc P V.len q fun r hr1 hr2=>?_,fun e=>hk1 _ ⟨nd2,fun l=>?_⟩⟩
       ·have e:startB c p n=true:=e
        have hrl:r.length≤272:=Nat.le_trans (nodupLen hr1 fun l hl=>inW_mem C q ((hr2 l).1 hl)) hL
        have bo:=bout nd2 (fun l hl=>by
         rcases List.mem_append.1 hl with hl|hl
         ·obtain⟨m,hm,hq⟩:=(mem l).1 hl;exact⟨m,by omega,hq⟩
         ·exact⟨n,by omega,.inl ((hdm l).1 hl)⟩)
        refine⟨by omega,hk1 _ ⟨List.nodup_append.2 ⟨nd2,hr1,fun a ha b hb e2=>?_⟩,fun l=>?_⟩⟩
        ·subst e2
         have hb:=(hr2 a).1 hb
         rcases List.mem_append.1 ha with ha|ha
         ·obtain⟨m,hm,hq⟩:=(mem a).1 ha
          have:=part_uniq hq (.inr ⟨e,hb⟩)
          omega
         ·have ha:=(hdm a).1 ha
          obtain⟨j,e3,_⟩:=toZ_mem.1 ha.1
          rcases hb.2 with e4|⟨j',x,_,hx,hc,_⟩
          ·rw[e3] at e4;cases e4
          ·have:=ha.2
           rw[kd_eq hx] at this
           have:=of_decide_eq_true hc
           omega
        ·rw[List.mem_append,List.mem_append,mem,hdm,hr2]
         constructor
         ·rintro ((⟨m,hm,hq⟩|hq) | hq)
          ·exact⟨m,by omega,hq⟩
          ·exact⟨n,by omega,.inl hq⟩
          ·exact⟨n,by omega,.inr ⟨e,hq⟩⟩
         ·rintro⟨m,hm,hq⟩
          by_cases e2:m=n
          ·subst e2
           rcases hq with hq|hq
           ·exact .inl (.inr hq)
           ·exact .inr hq.2
          ·exact .inl (.inl ⟨m,by omega,hq⟩)
       ·have e:startB c p n=false:=e
        rw[List.mem_append,mem,hdm]
        constructor
        ·rintro (⟨m,hm,hq⟩|hq)
         ·exact⟨m,by omega,hq⟩
         ·exact⟨n,by omega,.inl hq⟩
        ·rintro⟨m,hm,hq⟩
         by_cases e2:m=n
         ·subst e2
          rcases hq with hq|hq
          ·exact .inr hq
          ·rw[e] at hq;cases hq.1
         ·exact .inl ⟨m,by omega,hq⟩
  · rintro r ⟨h1,h2⟩
    exact⟨by omega,hnx _ ⟨q,h1,h2⟩ (by dsimp only;omega)⟩
 ·have q:c.nodes.length≤n:=lt_f.1 q
  have e:n=c.nodes.length:=by omega
  subst e
  rw[mem]
  exact part_crit P F
theorem linesN_sorted (c:Circ):(linesN c).Pairwise fun x y=>x.node<y.node∨x.node=y.node∧x.pin<y.pin:=by
 unfold linesN linesTo
 refine List.pairwise_flatMap.2 ⟨fun i _=>?_,?_⟩
 ·unfold rowL
  refine List.pairwise_map.2 (List.pairwise_lt_range.imp fun {a b} h=>.inr ⟨rfl,?_⟩)
  simp only[Int.ofNat_eq_natCast];omega
 ·refine List.pairwise_lt_range.imp fun {a b} h x hx y hy=>.inl ?_
  unfold rowL at hx hy
  obtain⟨i,_,rfl⟩:=List.mem_map.1 hx
  obtain⟨j,_,rfl⟩:=List.mem_map.1 hy
  exact h
theorem sorted_eq:∀ {l m:List LnZ},l.Pairwise (fun x y=>x.node<y.node∨x.node=y.node∧x.pin<y.pin)→m.Pairwise (fun x y=>x.node<y.node∨x.node=y.node∧x.pin<y.pin)→(∀ x,x∈l↔x∈m)→l=m
 |[],[],_,_,_=>rfl
 |[],b::m,_,_,h=>by have:=(h b).2 (.head _);cases this
 |a::l,[],_,_,h=>by have:=(h a).1 (.head _);cases this
 |a::l,b::m,h1,h2,h=>by
  obtain⟨a1,a2⟩:=List.pairwise_cons.1 h1
  obtain⟨b1,b2⟩:=List.pairwise_cons.1 h2
  have e:a=b:=by
   rcases List.mem_cons.1 ((h a).1 (.head _)) with e|e
   ·exact e
   rcases List.mem_cons.1 ((h b).2 (.head _)) with e2|e2
   ·exact e2.symm
   have q1:=b1 a e
   have q2:=a1 b e2
   omega
  subst e
  congr 1
  refine sorted_eq a2 b2 fun x=>?_
  constructor
  ·intro hx
   rcases List.mem_cons.1 ((h x).1 (.tail _ hx)) with e|e
   ·subst e;have:=a1 x hx;omega
   ·exact e
  ·intro hx
   rcases List.mem_cons.1 ((h x).2 (.tail _ hx)) with e|e
   ·subst e;have:=b1 x hx;omega
   ·exact e
theorem sorted_is {c:Circ}{q:LnZ→Bool}{r l:List LnZ} (nd:r.Nodup) (hm:∀ x,x∈r↔x∈linesN c∧q x=true) (hp:l.Perm r) (hs:l.Pairwise lnLe):l=(linesN c).filter q:=by
 have ndl:l.Nodup:=hp.nodup_iff.2 nd
 refine sorted_eq ?_ ((linesN_sorted c).filter _) fun x=>?_
 ·have:=List.Pairwise.and hs ndl
  refine this.imp fun {a b} h=>?_
  obtain⟨h1,h2⟩:=h
  have h1:=lnLe_iff.1 h1
  by_cases e:a.node=b.node∧a.pin=b.pin
  ·exact absurd (by cases a;cases b;simp only[LnZ.mk.injEq];exact e) h2
  ·omega
 ·rw[hp.mem_iff,hm,List.mem_filter]
theorem line_bd {c:Circ} (C:Cir c) {l:LnZ} (h:l∈linesN c):lnB l:=by
 have hlen:=C.len
 obtain⟨h1,h2⟩:=line_mem.1 h
 refine⟨by omega,?_⟩
 rcases h2 with e|⟨j,e,hj⟩
 ·rw[e];exact⟨by decide,by decide⟩
 ·obtain⟨x,hx⟩:=get_lt h1
  have:=(C.good.node _ x hx).few
  rw[insOf_eq hx] at hj
  rw[e]
  simp only[Int.ofNat_eq_natCast]
  omega
theorem Critical_vc {c:Circ} (P:Plz c) {p:Pat} (F:Full c p) {K:List LnZ×Nat→Prop} (h:K ((linesN c).filter (critL c p),0)):traces_Critical_wp c p K:=by
 have C:=P.cir
 have hL:=linesN_len C
 unfold traces_Critical_wp
 refine tplain_vc P ⟨(fun q=>absurd rfl (ne_t.1 q)),fun _=>tfull_vc C F ⟨(fun q=>absurd rfl (ne_t.1 q)),fun _=>critical_vc P F fun r hr1 hr2=>⟨?_,fun x hx=>line_bd C ((hr2 x).1 hx).1,fun l h1 h2=>?_⟩⟩⟩
 ·have:=nodupLen hr1 fun l hl=>((hr2 l).1 hl).1
  omega
 ·rw[sorted_is hr1 hr2 h1 h2]
  exact h
def noMem (x:CData):CData:=⟨x.inp,x.dffs,x.data0,x.data1,x.bus,false,x.port0,x.port1,x.port2,x.port3,x.gates,x.outs⟩
theorem cb_noMem {x:CData} (h:CB x):CB (noMem x):=⟨h.inp,h.dffs,h.data0,h.data1,h.port0,h.port1,h.port2,h.port3,h.gates,h.outs⟩
theorem circ12_vc {x:CData} (hx:CB x) {K:Circ→Prop} (h:K (circN (noMem x))):probecardlaw12_Circuit_wp x K:=of_circ_vc (cb_noMem hx) h
theorem cir_circ {x:CData} (hm:x.mem=false):Cir (circN x):=by
 refine⟨good_circ hm,by rw[circ_mems,hm];rfl,fun i y h=>?_⟩
 rcases circ_node hm h with⟨_,rfl⟩|⟨_,_,d,_,rfl⟩|⟨h1,_,g,hg⟩
 ·show (0:Nat)≤14;decide
 ·show (14:Nat)≤14;decide
 ·have hi:=lt_of_get h
  have hn:(circN x).nodes.length=(rawN x).length:=updN_length _
  have q:=gateK_ok x.bus g (ks:=((rawN x).take i).map Node.kind) (by rw[List.length_map,List.length_take];omega)
  rw[← hg] at q
  have:=q.kind
  omega
def gateC:Circ:=⟨[⟨0,[],0,0⟩,⟨0,[],0,0⟩,⟨5,[0,1],0,0⟩],[⟨#[97]⟩,⟨#[98]⟩,⟨#[121]⟩],[],[2]⟩
theorem isname_aby:(([⟨#[97]⟩,⟨#[98]⟩,⟨#[121]⟩]:List ByteArray).all fun s=>isTrue (runFn Tryz.prog [] (orcExt Tryz.prog) 60 136 #[.string s] (heapOf vars)))=true:=by kernel_rfl
theorem isNm_aby {s:ByteArray} (h:s∈([⟨#[97]⟩,⟨#[98]⟩,⟨#[121]⟩]:List ByteArray)):IsNm s:=by
 obtain⟨h',e⟩:=isTrue_iff (List.all_eq_true.1 isname_aby s h)
 have c:=(runFn_sound hM hP (fun f vs h v e=>orcExt_sound f vs h v e) 60 _ _ _ _ _ e).1
 exact⟨PureV.flatB rfl,fun h b=>c.lift (by kernel_rfl) rfl (bears_vars (hasSize b) (hasVars b))⟩
theorem gate_node {i:Nat}{x:Node} (h:gateC.nodes[i]?=some x):(i=0∧x=⟨0,[],0,0⟩)∨(i=1∧x=⟨0,[],0,0⟩)∨(i=2∧x=⟨5,[0,1],0,0⟩):=by
 have hi:=lt_of_get h
 have hi:i<3:=hi
 have:i=0∨i=1∨i=2:=by omega
 rcases this with rfl|rfl|rfl
 ·cases h;exact .inl ⟨rfl,rfl⟩
 ·cases h;exact .inr (.inl ⟨rfl,rfl⟩)
 ·cases h;exact .inr (.inr ⟨rfl,rfl⟩)
theorem gate_plz:Plz gateC:=by
 have node:∀ i x,gateC.nodes[i]?=some x→GoodN gateC i x:=by
  intro i x h
  rcases gate_node h with⟨rfl,rfl⟩|⟨rfl,rfl⟩|⟨rfl,rfl⟩
  ·exact⟨(by decide:0≤15),(by decide:Arity 0 0),(fun k m=>by cases m),(fun e=>by cases e),fun _=>⟨rfl,rfl⟩,(fun e=>by cases e),fun e=>absurd e (by decide:¬ 1≤0)⟩
  ·exact⟨(by decide:0≤15),(by decide:Arity 0 0),(fun k m=>by cases m),(fun e=>by cases e),fun _=>⟨rfl,rfl⟩,(fun e=>by cases e),fun e=>absurd e (by decide:¬ 1≤0)⟩
  ·exact⟨(by decide:5≤15),(by decide:Arity 5 2),(by decide:∀ k∈[0,1],k<3),(fun e=>by cases e),fun _=>⟨rfl,rfl⟩,(fun e=>by cases e),fun _ _=>(by decide:∀ k∈[0,1],k<2)⟩
 have F:FanOk gateC:=fan_ok ⟨by decide,fun i x h=>⟨(node i x h).ins,(node i x h).few⟩⟩
 have N:NamesOk gateC:=by
  refine FnV.of_walk (enc:=i64) (PureV.flat rfl) fun h hB=>?_
  exact names_all_walk (K:=fun r=>r=0) (names_all_vc (fun s m=>isNm_aby m) (by decide) (by decide) rfl) hB
 refine⟨⟨⟨by decide,rfl,N,F,(fun m h=>by cases h),by decide,by decide,by decide,node,by decide⟩,rfl,fun i x h=>?_⟩,fun i x h=>?_⟩
 ·rcases gate_node h with⟨rfl,rfl⟩|⟨rfl,rfl⟩|⟨rfl,rfl⟩ <;> decide
 ·rcases gate_node h with⟨rfl,rfl⟩|⟨rfl,rfl⟩|⟨rfl,rfl⟩ <;> decide
theorem gate_full {a b:Nat} (ha:a≤1) (hb:b≤1):Full gateC ⟨[a,b],[]⟩:=by
 have key:∀ v∈([a,b]:List Nat),v≤1:=by
  intro v m
  simp only[List.mem_cons,List.not_mem_nil,or_false] at m
  rcases m with rfl|rfl
  ·exact ha
  ·exact hb
 exact⟨⟨rfl,rfl,fun v m=>Nat.le_trans (key v m) (by decide),fun v m=>by cases m⟩,key,fun v m=>by cases m⟩
theorem lives17_vc {K:Bool→Prop} (h:K true):probecardlaw17_lives_wp K:=by
 have e1:(linesN gateC).filter (critL gateC ⟨[1,1],[]⟩)=[⟨0,-1⟩,⟨1,-1⟩,⟨2,-1⟩,⟨2,0⟩,⟨2,1⟩]:=by decide +kernel
 have e2:(linesN gateC).filter (critL gateC ⟨[0,1],[]⟩)=[⟨0,-1⟩,⟨2,-1⟩,⟨2,0⟩]:=by decide +kernel
 have e3:(linesN gateC).filter (critL gateC ⟨[0,0],[]⟩)=[⟨2,-1⟩]:=by decide +kernel
 unfold probecardlaw17_lives_wp probecardlaw17_gate_wp
 refine Critical_vc gate_plz (gate_full (by decide) (by decide)) (Critical_vc gate_plz (gate_full (by decide) (by decide)) (Critical_vc gate_plz (gate_full (by decide) (by decide)) ?_))
 rw[e1,e2,e3]
 refine joinB' (a:=false) (fun G=>⟨(fun q=>by cases q),fun _=>⟨(fun q=>by cases q),fun _=>⟨(fun q=>by cases q),fun _=>⟨(fun q=>by cases q),fun _=>⟨(fun q=>by cases q),fun _=>G⟩⟩⟩⟩⟩) ⟨(fun q=>by cases q),fun _=>?_⟩
 refine⟨_,rfl,fun _=>⟨_,rfl,fun _=>⟨_,rfl,fun _=>⟨_,rfl,_,rfl,fun _=>⟨_,rfl,h⟩,(fun q=>by cases q)⟩,(fun q=>by cases q)⟩,(fun q=>by cases q)⟩,(fun q=>by cases q)⟩
def LastP (l:List Ln) (a b:Int):Prop:=(l=[]∧a=Int.negSucc 0∧b=Int.negSucc 0)∨∃ q∈l,a=Int.ofNat q.node∧b=Int.ofNat q.pin
theorem loads17_vc {c:Circ} (C:Cir c) {m:Nat}{K:Nat×LnI→Prop} (h:∀ a b,LastP (fanOf c m) a b→K (manyN c m,⟨a,b⟩)):probecardlaw17_loads_wp c m K:=by
 have hlen:=C.len
 have hol:=C.good.outsLen
 have fp:FanPre c:=⟨hlen,fun i x hx=>⟨(C.good.node i x hx).ins,(C.good.node i x hx).few⟩⟩
 unfold probecardlaw17_loads_wp
 refine joinLoop (fun s=>s.2.2.2≤c.nodes.length∧s.1=(fanPre c s.2.2.2 m).length∧LastP (fanPre c s.2.2.2 m) s.2.1 s.2.2.1) (fun s=>c.nodes.length-s.2.2.2) (fun s=>s.1=(fanOf c m).length∧LastP (fanOf c m) s.2.1 s.2.2) ?_ ⟨Nat.zero_le _,rfl,.inl ⟨rfl,rfl,rfl⟩⟩ ?_
 ·rintro k ⟨a,b,d,i⟩ nx ⟨hi,h1,h2⟩ hnx hk
  dsimp only at hi h1 h2
  refine⟨fun q=>?_,fun q=>hk _ ?_⟩
  ·have q:i<c.nodes.length:=lt_t.1 q
   obtain⟨x,hx⟩:=get_lt q
   have g:=C.good.node i x hx
   have hfew:=g.few
   have hpl:=fanPre_len fp m i hi
   refine joinLoop (fun s=>s.2.2.2≤x.ins.length∧s.1=(fanPre c i m++fanNode m i (x.ins.take s.2.2.2)).length∧LastP (fanPre c i m++fanNode m i (x.ins.take s.2.2.2)) s.2.1 s.2.2.1) (fun s=>x.ins.length-s.2.2.2) (fun s=>s.1=(fanPre c (i+1) m).length∧LastP (fanPre c (i+1) m) s.2.1 s.2.2) ?_ ⟨Nat.zero_le _,by simpa[fanNode] using h1,by simpa[fanNode] using h2⟩ ?_
   ·rintro k2 ⟨a,b,d,j⟩ nx2 ⟨hj,h1,h2⟩ hnx2 hk2
    dsimp only at hj h1 h2
    refine⟨x,hx,fun q2=>?_,fun q2=>hk2 _ ?_⟩
    ·have q2:j<x.ins.length:=lt_t.1 q2
     obtain⟨y,hy⟩:=get_lt q2
     have e:fanNode m i (x.ins.take (j+1))=fanNode m i (x.ins.take j)++(if y=m then [⟨i,j⟩] else []):=by
      rw[takeG hy,fanNode_snoc,List.length_take,Nat.min_eq_left (by omega)]
     have hb:=fanNode_len m i (x.ins.take j)
     rw[List.length_take] at hb
     refine joinP (fun s=>s.1=(fanPre c i m++fanNode m i (x.ins.take (j+1))).length∧LastP (fanPre c i m++fanNode m i (x.ins.take (j+1))) s.2.1 s.2.2) (fun k3 hk3=>⟨x,hx,y,hy,fun q3=>⟨?_,hk3 _ ⟨?_,?_⟩⟩,fun q3=>hk3 _ ?_⟩) ?_
     ·rw[h1,List.length_append];omega
     ·dsimp only
      rw[e,if_pos (eq_t.1 q3),← List.append_assoc,List.length_append,h1]
      rfl
     ·dsimp only
      rw[e,if_pos (eq_t.1 q3),← List.append_assoc]
      exact .inr ⟨_,snoc_mem.2 (.inr rfl),rfl,rfl⟩
     ·rw[e,if_neg (eq_f.1 q3),List.append_nil]
      exact⟨h1,h2⟩
     ·rintro⟨a2,b2,d2⟩ ⟨h3,h4⟩
      exact⟨by omega,hnx2 _ ⟨q2,h3,h4⟩ (by dsimp only;omega)⟩
    ·have q2:x.ins.length≤j:=lt_f.1 q2
     rw[List.take_of_length_le q2] at h1 h2
     rw[fanPre_succ hx]
     exact⟨h1,h2⟩
   ·rintro⟨a2,b2,d2⟩ ⟨h3,h4⟩
    exact⟨by omega,hnx _ ⟨q,h3,h4⟩ (by dsimp only;omega)⟩
  ·have q:c.nodes.length≤i:=lt_f.1 q
   have e:fanPre c i m=fanOf c m:=by
    unfold fanPre fanOf
    rw[List.take_of_length_le (by rw[List.length_zipIdx];exact q)]
   rw[e] at h1 h2
   exact⟨h1,h2⟩
 ·rintro⟨a,b,d⟩ ⟨h1,h2⟩
  dsimp only at h1 h2
  have hf:(fanOf c m).length≤256:=by
   have:=fanPre_len fp m c.nodes.length (Nat.le_refl _)
   have e:fanPre c c.nodes.length m=fanOf c m:=by
    unfold fanPre fanOf
    rw[List.take_of_length_le (by rw[List.length_zipIdx];exact Nat.le_refl _)]
   rw[e] at this
   omega
  refine joinLoop (fun s=>s.2≤c.outs.length∧s.1=(fanOf c m).length+(c.outs.take s.2).count m) (fun s=>c.outs.length-s.2) (fun s=>s=manyN c m) ?_ ⟨Nat.zero_le _,by simpa using h1⟩ (fun s e=>by subst e;exact h b d h2)
  rintro k ⟨n,i⟩ nx ⟨hi,hn⟩ hnx hk
  dsimp only at hi hn
  refine⟨fun q=>?_,fun q=>hk _ ?_⟩
  ·have q:i<c.outs.length:=lt_t.1 q
   obtain⟨o,ho⟩:=get_lt q
   have b2:(c.outs.take i).count m≤16:=Nat.le_trans List.count_le_length (by rw[List.length_take];omega)
   refine joinP (fun s=>s=(fanOf c m).length+(c.outs.take (i+1)).count m) (fun k2 hk2=>⟨o,ho,fun q2=>⟨by omega,hk2 _ ?_⟩,fun q2=>hk2 _ ?_⟩) ?_
   ·rw[takeG ho,List.count_append,eq_t.1 q2,hn]
    simp;omega
   ·rw[takeG ho,List.count_append,hn]
    have:=eq_f.1 q2
    simp[this]
   ·rintro _ rfl
    exact⟨by omega,hnx _ ⟨q,rfl⟩ (by dsimp only;omega)⟩
  ·have q:c.outs.length≤i:=lt_f.1 q
   rw[List.take_of_length_le q] at hn
   exact hn
theorem filterAt {α:Type}{l:List α}{q:α→Bool}{i:Nat}{x:α} (hx:l[i]?=some x) (hq:q x=true):(l.filter q)[((l.take i).filter q).length]?=some x:=by
 have e:l=l.take i++x::l.drop (i+1):=by rw[← drop_some hx,List.take_append_drop]
 have:l.filter q=(l.take i).filter q++x::(l.drop (i+1)).filter q:=by
  conv=>lhs;rw[e,List.filter_append,List.filter_cons,if_pos hq]
 rw[this,List.getElem?_append_right (Nat.le_refl _),Nat.sub_self]
 rfl
theorem filterLen {α:Type}{l:List α}{q:α→Bool}{i:Nat}{x:α} (hx:l[i]?=some x):((l.take (i+1)).filter q).length=((l.take i).filter q).length+(if q x=true then 1 else 0):=by
 rw[takeG hx,List.filter_append,List.length_append,List.filter_cons]
 split <;> rfl
theorem filterLt {α:Type}{l:List α}{q:α→Bool}{i:Nat}:((l.take i).filter q).length≤l.length:=Nat.le_trans (List.length_filter_le _ _) (by rw[List.length_take];omega)
theorem tracesStems_vc {x:CData} (hx:CB x) {K:Bool→Prop} (h:K true):probecardlaw17_TracesStems_wp x K:=by
 have C:=cir_circ (x:=noMem x) rfl
 have hlen:=C.len
 unfold probecardlaw17_TracesStems_wp
 refine circ12_vc hx (stems_vc C ?_)
 refine joinB' (a:=false) (fun G=>⟨fun q=>absurd rfl (ne_t.1 q),fun _=>?_⟩) ⟨(fun q=>by cases q),fun _=>?_⟩
 ·rw[ne_f.2 rfl];exact G
 generalize circN (noMem x)=c at C hlen ⊢
 dsimp only
 refine joinLoop (fun s=>s.2≤c.nodes.length∧s.1=(((List.range c.nodes.length).take s.2).filter fun i=>decide (1<manyN c i)).length) (fun s=>c.nodes.length-s.2) (fun k=>k=((List.range c.nodes.length).filter fun i=>decide (1<manyN c i)).length) ?_ ⟨Nat.zero_le _,rfl⟩ ?_
 ·rintro k ⟨a,n⟩ nx ⟨hn,ha⟩ hnx hk
  dsimp only at hn ha
  refine⟨fun q=>?_,fun q=>hk _ ?_⟩
  ·have q:n<c.nodes.length:=lt_t.1 q
   have hg:(List.range c.nodes.length)[n]?=some n:=List.getElem?_range q
   have hle:=filterLt (l:=List.range c.nodes.length) (q:=fun i=>decide (1<manyN c i)) (i:=n)
   rw[List.length_range,← ha] at hle
   refine joinP (fun s=>s=(((List.range c.nodes.length).take (n+1)).filter fun i=>decide (1<manyN c i)).length) (fun k2 hk2=>loads17_vc C fun a0 b0 _=>⟨fun q2=>?_,fun q2=>hk2 _ ?_⟩) ?_
   ·have q2:2≤manyN c n:=nlt_t.1 q2
    have hq:decide (1<manyN c n)=true:=decide_eq_true q2
    have hat:=filterAt (q:=fun i=>decide (1<manyN c i)) hg hq
    rw[← ha] at hat
    refine joinB' (a:=false) (fun G=>⟨fun q3=>?_,fun q3=>⟨n,hat,?_⟩⟩) ⟨(fun q=>by cases q),fun _=>⟨by omega,hk2 _ ?_⟩⟩
    ·exact absurd (lt_of_get hat) (Nat.not_lt.2 (nlt_t.1 q3))
    ·rw[ne_f.2 rfl];exact G
    ·rw[filterLen hg,if_pos hq,ha]
   ·have q2:manyN c n<2:=nlt_f.1 q2
    rw[filterLen hg,if_neg (by simp;omega),ha];rfl
   ·rintro _ rfl
    exact⟨by omega,hnx _ ⟨q,rfl⟩ (by dsimp only;omega)⟩
  ·have q:c.nodes.length≤n:=lt_f.1 q
   rw[List.take_of_length_le (by rw[List.length_range];exact q)] at ha
   exact ha
 ·rintro _ rfl
  exact⟨fun _=>lives17_vc h,fun q=>absurd rfl (eq_f.1 q)⟩
def tracesStems_sh:List (Sh×Bool):=[(shC,true)]
theorem tracesStems_call (x:DenL tracesStems_sh) (w:wfL tracesStems_sh x):FnV Tryz.prog NG vars 5 ⟨argL tracesStems_sh x⟩ (.bool true):=by
 obtain⟨c,u⟩:=x
 obtain⟨wc,_⟩:=w
 obtain⟨y,hy,e1⟩:=c_arg wc
 have e:argL tracesStems_sh (c,u)=[encC y]:=by
  show [elV (!true) (shC.cellsF c)]=_
  rw[e1]
 rw[e]
 exact FnV.of_walk (enc:=Value.bool) (r:=true) (PureV.flat rfl) fun h hB=>probecardlaw17_TracesStems_walk (K:=fun r=>r=true) (tracesStems_vc hy rfl) hB
end Go.Proofs.YtmhbhclfojmjdaaGreatDoor
