/-
  Proved here: for every input, 'TracesRules' returns true, ends, panics nowhere, and its arguments read behind the call as they read before.
  Conditions: those of the given card alone ('Rows.TracesRulesCardSaid'): the variable logic.fanins holds what the row lists, which the card ties to the program's text; no other.
-/
import Derived.Test.YtmhbhclfojmjdaaGreatDoorTc52
import Derived.Test.YtmhbhclfojmjdaaGreatDoorCards
namespace Go.Proofs.YtmhbhclfojmjdaaGreatDoor
open Go.Abs
set_option maxRecDepth 100000
def noMem (x:CData):CData:=⟨x.inp,x.dffs,x.data0,x.data1,x.bus,false,x.port0,x.port1,x.port2,x.port3,x.gates,x.outs⟩
def noBus (x:CData):CData:=⟨x.inp,x.dffs,x.data0,x.data1,false,x.mem,x.port0,x.port1,x.port2,x.port3,x.gates,x.outs⟩
theorem cb_noMem {x:CData} (h:CB x):CB (noMem x):=⟨h.inp,h.dffs,h.data0,h.data1,h.port0,h.port1,h.port2,h.port3,h.gates,h.outs⟩
theorem cb_noBus {x:CData} (h:CB x):CB (noBus x):=⟨h.inp,h.dffs,h.data0,h.data1,h.port0,h.port1,h.port2,h.port3,h.gates,h.outs⟩
theorem circ12_vc {x:CData} (hx:CB x) {K:Circ→Prop} (h:K (circN (noMem x))):probecardlaw12_Circuit_wp x K:=of_circ_vc (cb_noMem hx) h
theorem plain12_vc {x:CData} (hx:CB x) {K:Circ→Prop} (h:K (circN (noMem (noBus x)))):probecardlaw12_Plain_wp x K:=circ12_vc (cb_noBus hx) h
theorem cir_circ {x:CData} (hm:x.mem=false):Cir (circN x):=by
 refine⟨good_circ hm,by rw[circ_mems,hm];rfl,fun i y h=>?_⟩
 rcases circ_node hm h with⟨_,rfl⟩|⟨_,_,d,_,rfl⟩|⟨h1,_,g,hg⟩
 ·show (0:Nat)≤14;decide
 ·show (14:Nat)≤14;decide
 ·have hi:=lt_of_get h
  have hn:(circN x).nodes.length=(rawN x).length:=updN_length _
  have q:=gateK_ok x.bus g (ks:=((rawN x).take i).map Node.kind) (by rw[List.length_map,List.length_take];omega)
  rw[← hg] at q
  have:=q.kind
  omega
theorem plz_circ {x:CData} (hm:x.mem=false) (hb:x.bus=false):Plz (circN x):=⟨cir_circ hm,fun i y h=>⟨(plain_circ hm hb i y h).1,(plain_circ hm hb i y h).2.1⟩⟩
theorem bit_le (n k:Nat):n/2 ^ k%2 ^ 1%256≤1:=by
 have:n/2 ^ k%2 ^ 1<2:=Nat.mod_lt _ (by decide)
 omega
theorem ofN_pre (c:Circ) (k:Nat):ofN c [k]=(List.range c.nodes.length).filter fun i=>decide (kd c i=k):=by
 unfold ofN kd
 congr 1
 funext i
 rw[Bool.eq_iff_iff]
 simp
theorem full12_vc {c:Circ} (C:Cir c) {n:Nat}{K:Pat→Prop} (h:∀ p,Full c p→K p):probecardlaw12_Full_wp c n K:=by
 have hlen:=C.len
 unfold probecardlaw12_Full_wp
 have pl:∀ (k i:Nat),((List.range i).filter fun i=>decide (kd c i=k)).length≤i:=fun k i=>filtLen
 have step:∀ (k i:Nat) (l:List Nat) (v:Nat),l.length=((List.range i).filter fun i=>decide (kd c i=k)).length→(kd c i=k→(l++[v]).length=((List.range (i+1)).filter fun i=>decide (kd c i=k)).length)∧(¬ kd c i=k→l.length=((List.range (i+1)).filter fun i=>decide (kd c i=k)).length):=by
  intro k i l v e
  rw[filtS]
  refine⟨fun q=>?_,fun q=>?_⟩
  ·rw[if_pos (decide_eq_true q)];simp[e]
  ·rw[if_neg (by simpa using q),List.append_nil];exact e
 refine joinLoop (fun s=>s.2.2≤c.nodes.length∧s.1.length=((List.range s.2.2).filter fun i=>decide (kd c i=0)).length∧(∀ v∈s.1,v≤1)∧s.2.1≤s.2.2) (fun s=>c.nodes.length-s.2.2) (fun s=>s.1.length=(ofN c [0]).length∧(∀ v∈s.1,v≤1)∧s.2≤16) ?_ ⟨Nat.zero_le _,rfl,(fun v m=>by cases m),Nat.le_refl _⟩ ?_
 ·rintro k ⟨l,b,i⟩ nx ⟨hi,hl,hv,hb⟩ hnx hk
  dsimp only at hi hl hv hb
  refine⟨fun q=>?_,fun q=>hk _ ?_⟩
  ·have q:i<c.nodes.length:=lt_t.1 q
   obtain⟨x,hx⟩:=get_lt q
   have e:=kd_eq hx
   have:=pl 0 i
   refine joinP (fun s=>s.1.length=((List.range (i+1)).filter fun i=>decide (kd c i=0)).length∧(∀ v∈s.1,v≤1)∧s.2≤i+1) (fun k2 hk2=>⟨x,hx,fun q2=>⟨by decide,by omega,?_,by omega,hk2 _ ⟨?_,?_,by dsimp only;omega⟩⟩,fun q2=>hk2 _ ⟨?_,hv,by dsimp only;omega⟩⟩) ?_
   ·simp only[List.length_singleton];omega
   ·exact (step 0 i l _ hl).1 (by rw[e];exact eq_t.1 q2)
   ·intro v m
    rcases snoc_mem.1 m with m|rfl
    ·exact hv v m
    ·exact bit_le _ _
   ·exact (step 0 i l 0 hl).2 (by rw[e];exact eq_f.1 q2)
   ·rintro⟨l2,b2⟩ ⟨h1,h2,h3⟩
    exact⟨by omega,hnx _ ⟨q,h1,h2,h3⟩ (by dsimp only;omega)⟩
  ·have q:c.nodes.length≤i:=lt_f.1 q
   have e:i=c.nodes.length:=by omega
   subst e
   exact⟨by rw[ofN_pre];exact hl,hv,by dsimp only;omega⟩
 rintro⟨pi,b0⟩ ⟨p1,p2,p3⟩
 dsimp only at p1 p2 p3
 refine joinLoop (fun s=>s.2.2≤c.nodes.length∧s.1.length=((List.range s.2.2).filter fun i=>decide (kd c i=14)).length∧(∀ v∈s.1,v≤1)∧s.2.1≤16+s.2.2) (fun s=>c.nodes.length-s.2.2) (fun s=>s.length=(ofN c [14]).length∧∀ v∈s,v≤1) ?_ ⟨Nat.zero_le _,rfl,(fun v m=>by cases m),p3⟩ ?_
 ·rintro k ⟨l,b,i⟩ nx ⟨hi,hl,hv,hb⟩ hnx hk
  dsimp only at hi hl hv hb
  refine⟨fun q=>?_,fun q=>hk _ ?_⟩
  ·have q:i<c.nodes.length:=lt_t.1 q
   obtain⟨x,hx⟩:=get_lt q
   have e:=kd_eq hx
   have:=pl 14 i
   refine joinP (fun s=>s.1.length=((List.range (i+1)).filter fun i=>decide (kd c i=14)).length∧(∀ v∈s.1,v≤1)∧s.2≤16+(i+1)) (fun k2 hk2=>⟨x,hx,fun q2=>⟨by decide,by omega,?_,by omega,hk2 _ ⟨?_,?_,by dsimp only;omega⟩⟩,fun q2=>hk2 _ ⟨?_,hv,by dsimp only;omega⟩⟩) ?_
   ·simp only[List.length_singleton];omega
   ·exact (step 14 i l _ hl).1 (by rw[e];exact eq_t.1 q2)
   ·intro v m
    rcases snoc_mem.1 m with m|rfl
    ·exact hv v m
    ·exact bit_le _ _
   ·exact (step 14 i l 0 hl).2 (by rw[e];exact eq_f.1 q2)
   ·rintro⟨l2,b2⟩ ⟨h1,h2,h3⟩
    exact⟨by omega,hnx _ ⟨q,h1,h2,h3⟩ (by dsimp only;omega)⟩
  ·have q:c.nodes.length≤i:=lt_f.1 q
   have e:i=c.nodes.length:=by omega
   subst e
   exact⟨by rw[ofN_pre];exact hl,hv⟩
 ·rintro ps ⟨q1,q2⟩
  exact h ⟨pi,ps⟩ ⟨⟨p1,q1,fun v m=>Nat.le_trans (p2 v m) (by decide),fun v m=>Nat.le_trans (q2 v m) (by decide)⟩,p2,q2⟩
def gateC:Circ:=⟨[⟨0,[],0,0⟩,⟨0,[],0,0⟩,⟨5,[0,1],0,0⟩],[⟨#[97]⟩,⟨#[98]⟩,⟨#[121]⟩],[],[2]⟩
theorem isname_aby:(([⟨#[97]⟩,⟨#[98]⟩,⟨#[121]⟩]:List ByteArray).all fun s=>isTrue (runFn Tryz.prog [] (orcExt Tryz.prog) 60 136 #[.string s] (heapOf vars)))=true:=by kernel_rfl
theorem isNm_aby {s:ByteArray} (h:s∈([⟨#[97]⟩,⟨#[98]⟩,⟨#[121]⟩]:List ByteArray)):IsNm s:=by
 obtain⟨h',e⟩:=isTrue_iff (List.all_eq_true.1 isname_aby s h)
 have c:=(runFn_sound hM hP (fun f vs h v e=>orcExt_sound f vs h v e) 60 _ _ _ _ _ e).1
 exact⟨PureV.flatB rfl,fun h b=>c.lift (by kernel_rfl) rfl (bears_vars (hasSize b) (hasVars b))⟩
theorem gate_node {i:Nat}{x:Node} (h:gateC.nodes[i]?=some x):(i=0∧x=⟨0,[],0,0⟩)∨(i=1∧x=⟨0,[],0,0⟩)∨(i=2∧x=⟨5,[0,1],0,0⟩):=by
 have hi:=lt_of_get h
 have hi:i<3:=hi
 have:i=0∨i=1∨i=2:=by omega
 rcases this with rfl|rfl|rfl
 ·cases h;exact .inl ⟨rfl,rfl⟩
 ·cases h;exact .inr (.inl ⟨rfl,rfl⟩)
 ·cases h;exact .inr (.inr ⟨rfl,rfl⟩)
theorem gate_plz:Plz gateC:=by
 have node:∀ i x,gateC.nodes[i]?=some x→GoodN gateC i x:=by
  intro i x h
  rcases gate_node h with⟨rfl,rfl⟩|⟨rfl,rfl⟩|⟨rfl,rfl⟩
  ·exact⟨(by decide:0≤15),(by decide:Arity 0 0),(fun k m=>by cases m),(fun e=>by cases e),fun _=>⟨rfl,rfl⟩,(fun e=>by cases e),fun e=>absurd e (by decide:¬ 1≤0)⟩
  ·exact⟨(by decide:0≤15),(by decide:Arity 0 0),(fun k m=>by cases m),(fun e=>by cases e),fun _=>⟨rfl,rfl⟩,(fun e=>by cases e),fun e=>absurd e (by decide:¬ 1≤0)⟩
  ·exact⟨(by decide:5≤15),(by decide:Arity 5 2),(by decide:∀ k∈[0,1],k<3),(fun e=>by cases e),fun _=>⟨rfl,rfl⟩,(fun e=>by cases e),fun _ _=>(by decide:∀ k∈[0,1],k<2)⟩
 have F:FanOk gateC:=fan_ok ⟨by decide,fun i x h=>⟨(node i x h).ins,(node i x h).few⟩⟩
 have N:NamesOk gateC:=by
  refine FnV.of_walk (enc:=i64) (PureV.flat rfl) fun h hB=>?_
  exact names_all_walk (K:=fun r=>r=0) (names_all_vc (fun s m=>isNm_aby m) (by decide) (by decide) rfl) hB
 refine⟨⟨⟨by decide,rfl,N,F,(fun m h=>by cases h),by decide,by decide,by decide,node,by decide⟩,rfl,fun i x h=>?_⟩,fun i x h=>?_⟩
 ·rcases gate_node h with⟨rfl,rfl⟩|⟨rfl,rfl⟩|⟨rfl,rfl⟩ <;> decide
 ·rcases gate_node h with⟨rfl,rfl⟩|⟨rfl,rfl⟩|⟨rfl,rfl⟩ <;> decide
theorem gate_full {a b:Nat} (ha:a≤1) (hb:b≤1):Full gateC ⟨[a,b],[]⟩:=by
 have key:∀ v∈([a,b]:List Nat),v≤1:=by
  intro v m
  simp only[List.mem_cons,List.not_mem_nil,or_false] at m
  rcases m with rfl|rfl
  ·exact ha
  ·exact hb
 exact⟨⟨rfl,rfl,fun v m=>Nat.le_trans (key v m) (by decide),fun v m=>by cases m⟩,key,fun v m=>by cases m⟩
theorem lives17_vc {K:Bool→Prop} (h:K true):probecardlaw17_lives_wp K:=by
 have e1:(linesN gateC).filter (critL gateC ⟨[1,1],[]⟩)=[⟨0,-1⟩,⟨1,-1⟩,⟨2,-1⟩,⟨2,0⟩,⟨2,1⟩]:=by decide +kernel
 have e2:(linesN gateC).filter (critL gateC ⟨[0,1],[]⟩)=[⟨0,-1⟩,⟨2,-1⟩,⟨2,0⟩]:=by decide +kernel
 have e3:(linesN gateC).filter (critL gateC ⟨[0,0],[]⟩)=[⟨2,-1⟩]:=by decide +kernel
 unfold probecardlaw17_lives_wp probecardlaw17_gate_wp
 refine Critical_vc gate_plz (gate_full (by decide) (by decide)) (Critical_vc gate_plz (gate_full (by decide) (by decide)) (Critical_vc gate_plz (gate_full (by decide) (by decide)) ?_))
 rw[e1,e2,e3]
 refine joinB' (a:=false) (fun G=>⟨(fun q=>by cases q),fun _=>⟨(fun q=>by cases q),fun _=>⟨(fun q=>by cases q),fun _=>⟨(fun q=>by cases q),fun _=>⟨(fun q=>by cases q),fun _=>G⟩⟩⟩⟩⟩) ⟨(fun q=>by cases q),fun _=>?_⟩
 refine⟨_,rfl,fun _=>⟨_,rfl,fun _=>⟨_,rfl,fun _=>⟨_,rfl,_,rfl,fun _=>⟨_,rfl,h⟩,(fun q=>by cases q)⟩,(fun q=>by cases q)⟩,(fun q=>by cases q)⟩,(fun q=>by cases q)⟩
def LastP (l:List Ln) (a b:Int):Prop:=(l=[]∧a=Int.negSucc 0∧b=Int.negSucc 0)∨∃ q∈l,a=Int.ofNat q.node∧b=Int.ofNat q.pin
theorem loads17_vc {c:Circ} (C:Cir c) {m:Nat}{K:Nat×LnI→Prop} (h:∀ a b,LastP (fanOf c m) a b→K (manyN c m,⟨a,b⟩)):probecardlaw17_loads_wp c m K:=by
 have hlen:=C.len
 have hol:=C.good.outsLen
 have fp:FanPre c:=⟨hlen,fun i x hx=>⟨(C.good.node i x hx).ins,(C.good.node i x hx).few⟩⟩
 unfold probecardlaw17_loads_wp
 refine joinLoop (fun s=>s.2.2.2≤c.nodes.length∧s.1=(fanPre c s.2.2.2 m).length∧LastP (fanPre c s.2.2.2 m) s.2.1 s.2.2.1) (fun s=>c.nodes.length-s.2.2.2) (fun s=>s.1=(fanOf c m).length∧LastP (fanOf c m) s.2.1 s.2.2) ?_ ⟨Nat.zero_le _,rfl,.inl ⟨rfl,rfl,rfl⟩⟩ ?_
 ·rintro k ⟨a,b,d,i⟩ nx ⟨hi,h1,h2⟩ hnx hk
  dsimp only at hi h1 h2
  refine⟨fun q=>?_,fun q=>hk _ ?_⟩
  ·have q:i<c.nodes.length:=lt_t.1 q
   obtain⟨x,hx⟩:=get_lt q
   have g:=C.good.node i x hx
   have hfew:=g.few
   have hpl:=fanPre_len fp m i hi
   refine joinLoop (fun s=>s.2.2.2≤x.ins.length∧s.1=(fanPre c i m++fanNode m i (x.ins.take s.2.2.2)).length∧LastP (fanPre c i m++fanNode m i (x.ins.take s.2.2.2)) s.2.1 s.2.2.1) (fun s=>x.ins.length-s.2.2.2) (fun s=>s.1=(fanPre c (i+1) m).length∧LastP (fanPre c (i+1) m) s.2.1 s.2.2) ?_ ⟨Nat.zero_le _,by simpa[fanNode] using h1,by simpa[fanNode] using h2⟩ ?_
   ·rintro k2 ⟨a,b,d,j⟩ nx2 ⟨hj,h1,h2⟩ hnx2 hk2
    dsimp only at hj h1 h2
    refine⟨x,hx,fun q2=>?_,fun q2=>hk2 _ ?_⟩
    ·have q2:j<x.ins.length:=lt_t.1 q2
     obtain⟨y,hy⟩:=get_lt q2
     have e:fanNode m i (x.ins.take (j+1))=fanNode m i (x.ins.take j)++(if y=m then [⟨i,j⟩] else []):=by
      rw[takeG hy,fanNode_snoc,List.length_take,Nat.min_eq_left (by omega)]
     have hb:=fanNode_len m i (x.ins.take j)
     rw[List.length_take] at hb
     refine joinP (fun s=>s.1=(fanPre c i m++fanNode m i (x.ins.take (j+1))).length∧LastP (fanPre c i m++fanNode m i (x.ins.take (j+1))) s.2.1 s.2.2) (fun k3 hk3=>⟨x,hx,y,hy,fun q3=>⟨?_,hk3 _ ⟨?_,?_⟩⟩,fun q3=>hk3 _ ?_⟩) ?_
     ·rw[h1,List.length_append];omega
     ·dsimp only
      rw[e,if_pos (eq_t.1 q3),← List.append_assoc,List.length_append,h1]
      rfl
     ·dsimp only
      rw[e,if_pos (eq_t.1 q3),← List.append_assoc]
      exact .inr ⟨_,snoc_mem.2 (.inr rfl),rfl,rfl⟩
     ·rw[e,if_neg (eq_f.1 q3),List.append_nil]
      exact⟨h1,h2⟩
     ·rintro⟨a2,b2,d2⟩ ⟨h3,h4⟩
      exact⟨by omega,hnx2 _ ⟨q2,h3,h4⟩ (by dsimp only;omega)⟩
    ·have q2:x.ins.length≤j:=lt_f.1 q2
     rw[List.take_of_length_le q2] at h1 h2
     rw[fanPre_succ hx]
     exact⟨h1,h2⟩
   ·rintro⟨a2,b2,d2⟩ ⟨h3,h4⟩
    exact⟨by omega,hnx _ ⟨q,h3,h4⟩ (by dsimp only;omega)⟩
  ·have q:c.nodes.length≤i:=lt_f.1 q
   have e:fanPre c i m=fanOf c m:=by
    unfold fanPre fanOf
    rw[List.take_of_length_le (by rw[List.length_zipIdx];exact q)]
   rw[e] at h1 h2
   exact⟨h1,h2⟩
 ·rintro⟨a,b,d⟩ ⟨h1,h2⟩
  dsimp only at h1 h2
  have hf:(fanOf c m).length≤256:=by
   have:=fanPre_len fp m c.nodes.length (Nat.le_refl _)
   have e:fanPre c c.nodes.length m=fanOf c m:=by
    unfold fanPre fanOf
    rw[List.take_of_length_le (by rw[List.length_zipIdx];exact Nat.le_refl _)]
   rw[e] at this
   omega
  refine joinLoop (fun s=>s.2≤c.outs.length∧s.1=(fanOf c m).length+(c.outs.take s.2).count m) (fun s=>c.outs.length-s.2) (fun s=>s=manyN c m) ?_ ⟨Nat.zero_le _,by simpa using h1⟩ (fun s e=>by subst e;exact h b d h2)
  rintro k ⟨n,i⟩ nx ⟨hi,hn⟩ hnx hk
  dsimp only at hi hn
  refine⟨fun q=>?_,fun q=>hk _ ?_⟩
  ·have q:i<c.outs.length:=lt_t.1 q
   obtain⟨o,ho⟩:=get_lt q
   have b2:(c.outs.take i).count m≤16:=Nat.le_trans List.count_le_length (by rw[List.length_take];omega)
   refine joinP (fun s=>s=(fanOf c m).length+(c.outs.take (i+1)).count m) (fun k2 hk2=>⟨o,ho,fun q2=>⟨by omega,hk2 _ ?_⟩,fun q2=>hk2 _ ?_⟩) ?_
   ·rw[takeG ho,List.count_append,eq_t.1 q2,hn]
    simp;omega
   ·rw[takeG ho,List.count_append,hn]
    have:=eq_f.1 q2
    simp[this]
   ·rintro _ rfl
    exact⟨by omega,hnx _ ⟨q,rfl⟩ (by dsimp only;omega)⟩
  ·have q:c.outs.length≤i:=lt_f.1 q
   rw[List.take_of_length_le q] at hn
   exact hn
theorem encLn_toI (l:List LnZ):encL 2 encLnI (l.map LnZ.toI)=encL 2 encLnZ l:=by
 unfold encL
 rw[List.map_map]
 rfl
def traces_CriticalI_wp (c:Circ) (p:Pat) (K:List LnI×Nat→Prop):Prop:=traces_Critical_wp c p fun r=>K (r.1.map LnZ.toI,r.2)
theorem traces_CriticalI_walk {p0:Circ}{p1:Pat}{K:List LnI×Nat→Prop} (hm:traces_CriticalI_wp p0 p1 K) {h0:Heap} (hB:HasB vars h0):∃ r,K r∧CallD Tryz.prog NG 10 ⟨[encCirc p0,encPat p1]⟩ h0 ((fun (r:((List LnI)×Nat))=>Value.tuple ⟨[(encL 2 encLnI) (r.1),i64 (r.2)]⟩) r) h0:=by
 obtain⟨r,k,h⟩:=traces_Critical_walk hm hB
 refine⟨_,k,?_⟩
 dsimp only
 rw[encLn_toI]
 exact h
set_option maxHeartbeats 8000000
def probecardlaw17_TracesRules_wp (p0:CData) (p1:Nat) (K:Bool→Prop):Prop :=
 probecardlaw12_Plain_wp p0 (fun r1=>probecardlaw12_Full_wp r1 p1 (fun r4=>traces_CriticalI_wp r1 r4 (fun r7=>sims_Run_wp r1 r4 (fun r8=>joinW (α:=Bool) (fun k12=>((neN r7.2 0)=true→k12 true)∧((neN r7.2 0)=false→((neN r8.2.2 0)=true→k12 true)∧((neN r8.2.2 0)=false→k12 (neN r8.2.1.length r1.nodes.length)))) (fun v11=>(v11=true→K false)∧(v11=false→joinW (α:=(List (LnI×Bool))) (fun k16=>loopW (S:=((List (LnI×Bool))×Nat)) (fun (v17,v18) nx19=>((ltN v18 r7.1.length)=true→∃ x20,r7.1[v18]?=some x20∧v18+1<2 ^ 63∧nx19 ((mset v17 x20 true),(v18+1)))∧((ltN v18 r7.1.length)=false→k16 v17)) (([]:List (LnI×Bool)),0)) (fun v15=>joinW (α:=Unit) (fun k21=>loopW (S:=Nat) (fun v22 nx23=>((ltN v22 r1.nodes.length)=true→joinW (α:=Unit) (fun k24=>loopW (S:=Nat) (fun v25 nx26=>∃ x27,r1.nodes[v22]?=some x27∧((ltN v25 x27.ins.length)=true→joinW (α:=Unit) (fun k28=>∃ x29,r1.nodes[v22]?=some x29∧((eqN x29.kind 14)=true→((!((mget v15 (⟨(Int.ofNat v22),(Int.ofNat v25)⟩:LnI)).getD false))=true→K false)∧((!((mget v15 (⟨(Int.ofNat v22),(Int.ofNat v25)⟩:LnI)).getD false))=false→k28 ()))∧((eqN x29.kind 14)=false→joinW (α:=(List Nat)) (fun k34=>loopW (S:=((List Nat)×Nat)) (fun (v36,v37) nx39=>∃ x40,r1.nodes[v22]?=some x40∧((ltN v37 x40.ins.length)=true→∃ x41,r1.nodes[v22]?=some x41∧∃ x42,x41.ins[v37]?=some x42∧∃ x43,r8.2.1[x42]?=some x43∧joinW (α:=Nat) (fun k46=>((eqN v37 v25)=true→logic_Not_wp x43 (fun r47=>k46 r47))∧((eqN v37 v25)=false→k46 x43)) (fun v44=>(v36.length+([v44]:(List Nat)).length)*1≤2 ^ 47∧v37+1<2 ^ 63∧nx39 ((v36++([v44]:(List Nat))),(v37+1))))∧((ltN v37 x40.ins.length)=false→k34 v36)) (([]:List Nat),0)) (fun v32=>joinW (α:=Bool) (fun k51=>(((mget v15 (⟨(Int.ofNat v22),(Int.negSucc 0)⟩:LnI)).getD false)=true→∃ x52,r1.nodes[v22]?=some x52∧logic_Eval_wp x52.kind v32 (fun r53=>∃ x54,r8.2.1[v22]?=some x54∧k51 (((mget v15 (⟨(Int.ofNat v22),(Int.ofNat v25)⟩:LnI)).getD false) != (neN r53 x54))))∧(((mget v15 (⟨(Int.ofNat v22),(Int.negSucc 0)⟩:LnI)).getD false)=false→k51 (((mget v15 (⟨(Int.ofNat v22),(Int.ofNat v25)⟩:LnI)).getD false) != false))) (fun v50=>(v50=true→K false)∧(v50=false→k28 ()))))) (fun _=>v25+1<2 ^ 63∧nx26 (v25+1)))∧((ltN v25 x27.ins.length)=false→k24 ())) 0) (fun _=>probecardlaw17_loads_wp r1 v22 (fun r55=>joinW (α:=Bool) (fun k59=>((eqN r55.1 0)=true→(((mget v15 (⟨(Int.ofNat v22),(Int.negSucc 0)⟩:LnI)).getD false)=true→k59 true)∧(((mget v15 (⟨(Int.ofNat v22),(Int.negSucc 0)⟩:LnI)).getD false)=false→((eqN r55.1 1)=true→((!ltI r55.2.node (Int.ofNat 0))=true→k59 (((mget v15 (⟨(Int.ofNat v22),(Int.negSucc 0)⟩:LnI)).getD false) != ((mget v15 r55.2).getD false)))∧((!ltI r55.2.node (Int.ofNat 0))=false→k59 false))∧((eqN r55.1 1)=false→k59 false)))∧((eqN r55.1 0)=false→((eqN r55.1 1)=true→((!ltI r55.2.node (Int.ofNat 0))=true→k59 (((mget v15 (⟨(Int.ofNat v22),(Int.negSucc 0)⟩:LnI)).getD false) != ((mget v15 r55.2).getD false)))∧((!ltI r55.2.node (Int.ofNat 0))=false→k59 false))∧((eqN r55.1 1)=false→k59 false))) (fun v58=>(v58=true→K false)∧(v58=false→v22+1<2 ^ 63∧nx23 (v22+1))))))∧((ltN v22 r1.nodes.length)=false→k21 ())) 0) (fun _=>joinW (α:=Unit) (fun k60=>loopW (S:=Nat) (fun v61 nx62=>((ltN v61 r1.outs.length)=true→∃ x63,r1.outs[v61]?=some x63∧((!((mget v15 (⟨(Int.ofNat x63),(Int.negSucc 0)⟩:LnI)).getD false))=true→K false)∧((!((mget v15 (⟨(Int.ofNat x63),(Int.negSucc 0)⟩:LnI)).getD false))=false→v61+1<2 ^ 63∧nx62 (v61+1)))∧((ltN v61 r1.outs.length)=false→k60 ())) 0) (fun _=>probecardlaw17_lives_wp  (fun r64=>K r64))))))))))
theorem probecardlaw17_TracesRules_walk {p0:CData}{p1:Nat}{K:Bool→Prop} (hm:probecardlaw17_TracesRules_wp p0 p1 K) {h0:Heap} (hB:HasB vars h0):∃ r,K r∧CallD Tryz.prog NG 4 ⟨[encC p0,n64 p1]⟩ h0 (Value.bool r) h0:=by
 unfold probecardlaw17_TracesRules_wp at hm
 refine fw Tryz.func4 hB (enc:=Value.bool) (fun r=>PureV.flat rfl) fun O=>?_;conv=>whnf
 refine gX ?_
 refine fz ?_;refine gX ?_
 refine ca (probecardlaw12_Plain_walk hm O.has) fun r1 hm=>?_;refine gH ?_
 (first|refine O.new (anew_alloc (l:=[(.slice none 0 0),(.slice none 0 0),(.slice none 0 0),(.slice none 0 0)]) rfl rfl rfl) fun g2 h O=>?_|refine O.newX (anew_alloc (l:=[(.slice none 0 0),(.slice none 0 0),(.slice none 0 0),(.slice none 0 0)]) rfl rfl rfl) fun g2 h O=>?_);refine gH ?_
 refine O.stC 4 (.head _) [((encL 4 encNode) r1.nodes),((encL 1 Value.string) r1.names),((encL 3 encMem) r1.mems),((encL 1 i64) r1.outs)] fun h O=>?_;refine gX ?_
 refine ldA (O.at (.head _)) ?_;refine gH ?_
 refine ca (probecardlaw12_Full_walk hm O.has) fun r4 hm=>?_;refine gH ?_
 (first|refine O.new (anew_alloc (l:=[(.slice none 0 0),(.slice none 0 0)]) rfl rfl rfl) fun g5 h O=>?_|refine O.newX (anew_alloc (l:=[(.slice none 0 0),(.slice none 0 0)]) rfl rfl rfl) fun g5 h O=>?_);refine gH ?_
 refine O.stC 2 (.head _) [((encL 1 n8) r4.inp),((encL 1 n8) r4.state)] fun h O=>?_;refine gX ?_
 refine ldA (O.at (.tail _ (.head _))) ?_;refine gH ?_
 refine ldA (O.at (.head _)) ?_;refine gH ?_
 refine ca (traces_CriticalI_walk hm O.has) fun r7 hm=>?_;refine gX ?_
 refine ldA (O.at (.tail _ (.head _))) ?_;refine gH ?_
 refine ldA (O.at (.head _)) ?_;refine gH ?_
 refine ca (sims_Run_walk hm O.has) fun r8 hm=>?_;refine gH ?_
 (first|refine O.new (anew_alloc (l:=[(.slice none 0 0),(.slice none 0 0)]) rfl rfl rfl) fun g9 h O=>?_|refine O.newX (anew_alloc (l:=[(.slice none 0 0),(.slice none 0 0)]) rfl rfl rfl) fun g9 h O=>?_);refine gH ?_
 refine O.stC 2 (.head _) [((encL 1 n8) r8.1.out),((encL 1 n8) r8.1.next)] fun h O=>?_;refine gH ?_
 apply Cs;conv=>whnf
 refine jn hm 200 [5,7,10] (fun s=>s) (fun v11 h=>Own vars h0 [((some g2),.cells [((encL 4 encNode) r1.nodes),((encL 1 Value.string) r1.names),((encL 3 encMem) r1.mems),((encL 1 i64) r1.outs)] false)] h) (fun v11=>[(54,(.bool v11))]) (fun hm=>?_) ?_
 ·refine gX ?_
  refine br hm (fun hm=>?_) fun hm=>?_
  ·refine gX ?_
   refine bt ?_;refine gH ?_
   exact jx true hm (O.sel [2] (by decide))
  ·refine gX ?_
   refine br hm (fun hm=>?_) fun hm=>?_
   ·refine gX ?_
    exact jx true hm (O.sel [2] (by decide))
   ·refine gX ?_
    exact jx (neN r8.2.1.length r1.nodes.length) hm (O.sel [2] (by decide))
 ·clear hm;rintro v11 base h hm O
  refine gX ?_
  refine br hm (fun hm=>?_) fun hm=>?_
  ·refine gX ?_
   exact fe hm O
  ·refine gX ?_
   (first|refine O.new ((rfl:anew _ _ _=some (.map (encM encLnI Value.bool ([]:List (LnI×Bool))),fun g=>.map (some g)))) fun g13 h O=>?_|refine O.newX ((rfl:anew _ _ _=some (.map (encM encLnI Value.bool ([]:List (LnI×Bool))),fun g=>.map (some g)))) fun g13 h O=>?_);refine gH ?_
   refine jn hm 200 [5,10,12] (fun s=>s) (fun v15 h=>Own vars h0 [((some g2),.cells [((encL 4 encNode) r1.nodes),((encL 1 Value.string) r1.names),((encL 3 encMem) r1.mems),((encL 1 i64) r1.outs)] false),((some g13),.map (encM encLnI Value.bool v15))] h) (fun v15=>[]) (fun hm=>?_) ?_
   ·refine gX ?_
    refine lw 200 [5,7,10,12] (σ:=((List (LnI×Bool))×Nat)) (fun s=>s) (fun (v17,v18) h=>Own vars h0 [((some g2),.cells [((encL 4 encNode) r1.nodes),((encL 1 Value.string) r1.names),((encL 3 encMem) r1.mems),((encL 1 i64) r1.outs)] false),((some g13),.map (encM encLnI Value.bool v17))] h) (fun (v17,v18)=>[(13,(i64 v18))]) (([]:List (LnI×Bool)),0) hm (O.sel [1,0] (by decide)) ?_
    clear hm;rintro⟨v17,v18⟩ nx19 base h hm O
    refine gX ?_
    refine br hm (fun hm=>?_) fun hm=>?_
    ·refine gX ?_
     refine atF hm fun x20 hx20 hm=>?_;refine gH ?_
     refine O.mapSet (ek:=encLnI) (ev:=Value.bool) (m:=v17) (k:=x20) (v:=true) (.tail _ (.head _)) rfl rfl (by kernel_rfl) (sameLnI rfl) rfl rfl rfl fun h O=>?_;refine gX ?_
     refine aAdd hm fun hm=>?_;refine gH ?_
     exact jx ((mset v17 x20 true),(v18+1)) hm O
    ·refine gX ?_
     exact jx v17 hm O
   ·clear hm;rintro v15 base h hm O
    conv=>whnf
    refine jn hm 200 [5,12] (fun s=>s) (fun _ h=>Own vars h0 [((some g2),.cells [((encL 4 encNode) r1.nodes),((encL 1 Value.string) r1.names),((encL 3 encMem) r1.mems),((encL 1 i64) r1.outs)] false),((some g13),.map (encM encLnI Value.bool v15))] h) (fun _=>[]) (fun hm=>?_) ?_
    ·refine gX ?_
     refine lw 200 [5,10,12] (σ:=Nat) (fun s=>s) (fun v22 h=>Own vars h0 [((some g2),.cells [((encL 4 encNode) r1.nodes),((encL 1 Value.string) r1.names),((encL 3 encMem) r1.mems),((encL 1 i64) r1.outs)] false),((some g13),.map (encM encLnI Value.bool v15))] h) (fun v22=>[(14,(i64 v22))]) 0 hm O ?_
     clear hm;rintro v22 nx23 base h hm O
     refine gX ?_
     refine br hm (fun hm=>?_) fun hm=>?_
     ·refine gX ?_
      refine⟨_,lookupK (ek:=encLnI) (ev:=Value.bool) (m:=v15) (k:=(⟨(Int.ofNat v22),(Int.negSucc 0)⟩:LnI)) (z:=false) rfl rfl rfl (by kernel_rfl) (by kernel_rfl) (sameLnI rfl) (O.at (.tail _ (.head _))) rfl rfl,?_⟩;refine gH ?_
      refine jn hm 200 [5,10,12,14,15] (fun s=>s) (fun _ h=>Own vars h0 [((some g2),.cells [((encL 4 encNode) r1.nodes),((encL 1 Value.string) r1.names),((encL 3 encMem) r1.mems),((encL 1 i64) r1.outs)] false),((some g13),.map (encM encLnI Value.bool v15))] h) (fun _=>[]) (fun hm=>?_) ?_
      ·refine gX ?_
       refine lw 200 [5,10,12,14,15] (σ:=Nat) (fun s=>s) (fun v25 h=>Own vars h0 [((some g2),.cells [((encL 4 encNode) r1.nodes),((encL 1 Value.string) r1.names),((encL 3 encMem) r1.mems),((encL 1 i64) r1.outs)] false),((some g13),.map (encM encLnI Value.bool v15))] h) (fun v25=>[(16,(i64 v25))]) 0 hm O ?_
       clear hm;rintro v25 nx26 base h hm O
       refine gX ?_
       refine atF hm fun x27 hx27 hm=>?_;refine gX ?_
       refine br hm (fun hm=>?_) fun hm=>?_
       ·apply Cs;conv=>whnf
        refine jn hm 200 [5,10,12,14,15,16] (fun s=>s) (fun _ h=>Own vars h0 [((some g2),.cells [((encL 4 encNode) r1.nodes),((encL 1 Value.string) r1.names),((encL 3 encMem) r1.mems),((encL 1 i64) r1.outs)] false),((some g13),.map (encM encLnI Value.bool v15))] h) (fun _=>[]) (fun hm=>?_) ?_
        ·refine gX ?_
         refine atF hm fun x29 hx29 hm=>?_;refine gX ?_
         refine br hm (fun hm=>?_) fun hm=>?_
         ·refine gX ?_
          refine⟨_,lookupK (ek:=encLnI) (ev:=Value.bool) (m:=v15) (k:=(⟨(Int.ofNat v22),(Int.ofNat v25)⟩:LnI)) (z:=false) rfl rfl rfl (by kernel_rfl) (by kernel_rfl) (sameLnI rfl) (O.at (.tail _ (.head _))) rfl rfl,?_⟩;refine gX ?_
          refine br hm (fun hm=>?_) fun hm=>?_
          ·refine gX ?_
           exact fe hm O
          ·refine gX ?_
           exact jx () hm O
         ·apply Cs;conv=>whnf
          apply Cs;conv=>whnf
          apply Cs;refine gH ?_
          have O:=O.addNil (.cells (flatC ((([]:List Nat)).map n8)) false)
          refine jn (σ:=(List Nat)×Option Nat) hm 200 [5,10,12,14,15,16] (fun s=>s.1) (fun (v32,a31) h=>(a31=none→v32=[])∧Own vars h0 [((some g2),.cells [((encL 4 encNode) r1.nodes),((encL 1 Value.string) r1.names),((encL 3 encMem) r1.mems),((encL 1 i64) r1.outs)] false),((some g13),.map (encM encLnI Value.bool v15)),(a31,.cells (flatC (v32.map n8)) false)] h) (fun (v32,a31)=>[(17,(growV 1 a31 (v32.map n8)))]) (fun hm=>?_) ?_
          ·refine gX ?_
           refine lw 200 [5,10,12,14,15,16] (σ:=((List Nat)×Nat)×Option Nat) (fun s=>s.1) (fun ((v36,v37),a35) h=>(a35=none→v36=[])∧Own vars h0 [((some g2),.cells [((encL 4 encNode) r1.nodes),((encL 1 Value.string) r1.names),((encL 3 encMem) r1.mems),((encL 1 i64) r1.outs)] false),((some g13),.map (encM encLnI Value.bool v15)),(a35,.cells (flatC (v36.map n8)) false)] h) (fun ((v36,v37),a35)=>[(17,(growV 1 a35 (v36.map n8))),(18,(i64 v37))]) ((([]:List Nat),0),none) hm ⟨(fun _=>rfl),(O.sel [1,2,0] (by decide))⟩ ?_
           clear hm;rintro⟨⟨v36,v37⟩,a35⟩ nx39 base h hm ⟨ha38,O⟩
           refine gX ?_
           refine atF hm fun x40 hx40 hm=>?_;refine gX ?_
           refine br hm (fun hm=>?_) fun hm=>?_
           ·refine gX ?_
            refine atF hm fun x41 hx41 hm=>?_;refine gH ?_
            refine atF hm fun x42 hx42 hm=>?_;refine gH ?_
            refine atF hm fun x43 hx43 hm=>?_;refine gH ?_
            refine jn hm 200 [5,10,12,14,15,16,17,18] (fun s=>s) (fun v44 h=>(a35=none→v36=[])∧Own vars h0 [((some g2),.cells [((encL 4 encNode) r1.nodes),((encL 1 Value.string) r1.names),((encL 3 encMem) r1.mems),((encL 1 i64) r1.outs)] false),((some g13),.map (encM encLnI Value.bool v15)),(a35,.cells (flatC (v36.map n8)) false)] h) (fun v44=>[(19,(n8 v44))]) (fun hm=>?_) ?_
            ·refine gX ?_
             refine br hm (fun hm=>?_) fun hm=>?_
             ·refine gX ?_
              refine ca (logic_Not_walk hm O.has) fun r47 hm=>?_;refine gH ?_
              exact jx r47 hm ⟨ha38,O⟩
             ·refine gX ?_
              exact jx x43 hm ⟨ha38,O⟩
            ·clear hm;rintro v44 base h hm ⟨ha45,O⟩
             refine gX ?_
             refine fz ?_;refine gH ?_
             refine O.apL (enc:=n8) (l:=v36) (new:=([v44]:(List Nat))) 1 (.tail _ (.tail _ (.head _))) ha45 hm fun a48 h ha49 O hm=>?_;refine gX ?_
             refine aAdd hm fun hm=>?_;refine gH ?_
             exact jx (((v36++([v44]:(List Nat))),(v37+1)),a48) hm ⟨ha49,O⟩
           ·refine gX ?_
            exact jx (v36,a35) hm ⟨ha38,O⟩
          ·clear hm;rintro⟨v32,a31⟩ base h hm ⟨ha33,O⟩
           conv=>whnf
           refine jn hm 200 [5,10,12,14,15,16] (fun s=>s) (fun v50 h=>Own vars h0 [((some g2),.cells [((encL 4 encNode) r1.nodes),((encL 1 Value.string) r1.names),((encL 3 encMem) r1.mems),((encL 1 i64) r1.outs)] false),((some g13),.map (encM encLnI Value.bool v15))] h) (fun v50=>[(155,(.bool v50))]) (fun hm=>?_) ?_
           ·refine gX ?_
            refine⟨_,lookupK (ek:=encLnI) (ev:=Value.bool) (m:=v15) (k:=(⟨(Int.ofNat v22),(Int.ofNat v25)⟩:LnI)) (z:=false) rfl rfl rfl (by kernel_rfl) (by kernel_rfl) (sameLnI rfl) (O.at (.tail _ (.head _))) rfl rfl,?_⟩;refine gH ?_
            (first|refine⟨.inr (.inr (loadK rfl (O.at (.head _)) rfl rfl)),?_⟩|refine⟨.inr (.inr (loadK rfl (O.at (.tail _ (.head _))) rfl rfl)),?_⟩|refine⟨.inr (.inr (loadK rfl (O.at (.tail _ (.tail _ (.head _)))) rfl rfl)),?_⟩|refine⟨.inr (.inr (loadK rfl (O.at (.tail _ (.tail _ (.tail _ (.head _))))) rfl rfl)),?_⟩|refine⟨.inr (.inr (loadK rfl (O.at (.tail _ (.tail _ (.tail _ (.tail _ (.head _)))))) rfl rfl)),?_⟩|refine⟨.inr (.inr (loadK rfl (O.at (.tail _ (.tail _ (.tail _ (.tail _ (.tail _ (.head _))))))) rfl rfl)),?_⟩|refine⟨.inr (.inr (loadK rfl (O.at (.tail _ (.tail _ (.tail _ (.tail _ (.tail _ (.tail _ (.head _)))))))) rfl rfl)),?_⟩|refine⟨.inl (Ext.refl _),?_⟩|refine⟨.inr (.inr rfl),?_⟩|refine⟨.inr (by kernel_rfl),?_⟩|refine⟨.inl (by kernel_rfl),?_⟩|refine id ?_);refine gH ?_
            refine br hm (fun hm=>?_) fun hm=>?_
            ·refine gX ?_
             first|refine⟨.inr (.inr (loadK rfl (O.at (.head _)) rfl rfl)),?_⟩|refine⟨.inr (.inl (by kernel_rfl)),?_⟩
             refine gX ?_
             refine atF hm fun x52 hx52 hm=>?_;refine gH ?_
             refine CallD.useB (fun _ hb=>logic_Eval_walk hm hb) (fun _=>flatB_ok rfl) fzVars O.has (fun h2 F=>(LLe.cons (VLe.refl _ _) (LLe.cons (O.grownL F (Nat.zero_le _) (.tail _ (.tail _ (.head _))) ha33 (fun _=>rfl)) (LLe.nil _)))) (by kernel_rfl) (fun r53 hm'=>?_);replace hm:=hm';refine gH ?_
             (first|refine⟨.inr (.inr (loadK rfl (O.at (.head _)) rfl rfl)),?_⟩|refine⟨.inr (.inr (loadK rfl (O.at (.tail _ (.head _))) rfl rfl)),?_⟩|refine⟨.inr (.inr (loadK rfl (O.at (.tail _ (.tail _ (.head _)))) rfl rfl)),?_⟩|refine⟨.inr (.inr (loadK rfl (O.at (.tail _ (.tail _ (.tail _ (.head _))))) rfl rfl)),?_⟩|refine⟨.inr (.inr (loadK rfl (O.at (.tail _ (.tail _ (.tail _ (.tail _ (.head _)))))) rfl rfl)),?_⟩|refine⟨.inr (.inr (loadK rfl (O.at (.tail _ (.tail _ (.tail _ (.tail _ (.tail _ (.head _))))))) rfl rfl)),?_⟩|refine⟨.inr (.inr (loadK rfl (O.at (.tail _ (.tail _ (.tail _ (.tail _ (.tail _ (.tail _ (.head _)))))))) rfl rfl)),?_⟩|refine⟨.inl (Ext.refl _),?_⟩|refine⟨.inr (.inr rfl),?_⟩|refine⟨.inr (by kernel_rfl),?_⟩|refine⟨.inl (by kernel_rfl),?_⟩|refine id ?_);refine gH ?_
             refine atF hm fun x54 hx54 hm=>?_;refine gH ?_
             exact jx (((mget v15 (⟨(Int.ofNat v22),(Int.ofNat v25)⟩:LnI)).getD false) != (neN r53 x54)) hm (O.sel [0,1] (by decide))
            ·refine gX ?_
             exact jx (((mget v15 (⟨(Int.ofNat v22),(Int.ofNat v25)⟩:LnI)).getD false) != false) hm (O.sel [0,1] (by decide))
           ·clear hm;rintro v50 base h hm O
            refine gX ?_
            refine br hm (fun hm=>?_) fun hm=>?_
            ·refine gX ?_
             exact fe hm O
            ·refine gX ?_
             exact jx () hm O
        ·clear hm;rintro _ base h hm O
         refine gX ?_
         refine aAdd hm fun hm=>?_;refine gH ?_
         exact jx (v25+1) hm O
       ·refine gX ?_
        exact jx () hm O
      ·clear hm;rintro _ base h hm O
       refine gX ?_
       refine ldA (O.at (.head _)) ?_;refine gH ?_
       refine ca (probecardlaw17_loads_walk hm O.has) fun r55 hm=>?_;refine gH ?_
       (first|refine O.new (anew_alloc (l:=[(i64 0),(i64 0)]) rfl rfl rfl) fun g56 h O=>?_|refine O.newX (anew_alloc (l:=[(i64 0),(i64 0)]) rfl rfl rfl) fun g56 h O=>?_);refine gH ?_
       refine O.stC 2 (.head _) [(z64 r55.2.node),(z64 r55.2.pin)] fun h O=>?_;refine gH ?_
       refine jn hm 200 [5,10,12,14] (fun s=>s) (fun v58 h=>Own vars h0 [((some g2),.cells [((encL 4 encNode) r1.nodes),((encL 1 Value.string) r1.names),((encL 3 encMem) r1.mems),((encL 1 i64) r1.outs)] false),((some g13),.map (encM encLnI Value.bool v15))] h) (fun v58=>[(182,(.bool v58))]) (fun hm=>?_) ?_
       ·refine gX ?_
        refine br hm (fun hm=>?_) fun hm=>?_
        ·refine gX ?_
         refine br hm (fun hm=>?_) fun hm=>?_
         ·refine gX ?_
          exact jx true hm (O.sel [1,2] (by decide))
         ·refine gX ?_
          refine br hm (fun hm=>?_) fun hm=>?_
          ·refine gX ?_
           refine br hm (fun hm=>?_) fun hm=>?_
           ·refine gX ?_
            refine ldA (O.at (.head _)) ?_;refine gH ?_
            refine⟨_,lookupK (ek:=encLnI) (ev:=Value.bool) (m:=v15) (k:=r55.2) (z:=false) rfl rfl rfl (by kernel_rfl) (by kernel_rfl) (sameLnI rfl) (O.at (.tail _ (.tail _ (.head _)))) rfl rfl,?_⟩;refine gH ?_
            exact jx (((mget v15 (⟨(Int.ofNat v22),(Int.negSucc 0)⟩:LnI)).getD false) != ((mget v15 r55.2).getD false)) hm (O.sel [1,2] (by decide))
           ·refine gX ?_
            exact jx false hm (O.sel [1,2] (by decide))
          ·refine gX ?_
           refine bf ?_;refine gH ?_
           exact jx false hm (O.sel [1,2] (by decide))
        ·refine gX ?_
         refine bf ?_;refine gH ?_
         refine br hm (fun hm=>?_) fun hm=>?_
         ·refine gX ?_
          refine br hm (fun hm=>?_) fun hm=>?_
          ·refine gX ?_
           refine ldA (O.at (.head _)) ?_;refine gH ?_
           refine⟨_,lookupK (ek:=encLnI) (ev:=Value.bool) (m:=v15) (k:=r55.2) (z:=false) rfl rfl rfl (by kernel_rfl) (by kernel_rfl) (sameLnI rfl) (O.at (.tail _ (.tail _ (.head _)))) rfl rfl,?_⟩;refine gH ?_
           exact jx (((mget v15 (⟨(Int.ofNat v22),(Int.negSucc 0)⟩:LnI)).getD false) != ((mget v15 r55.2).getD false)) hm (O.sel [1,2] (by decide))
          ·refine gX ?_
           exact jx false hm (O.sel [1,2] (by decide))
         ·refine gX ?_
          refine bf ?_;refine gH ?_
          exact jx false hm (O.sel [1,2] (by decide))
       ·clear hm;rintro v58 base h hm O
        refine gX ?_
        refine br hm (fun hm=>?_) fun hm=>?_
        ·refine gX ?_
         exact fe hm O
        ·refine gX ?_
         refine aAdd hm fun hm=>?_;refine gH ?_
         exact jx (v22+1) hm O
     ·refine gX ?_
      exact jx () hm O
    ·clear hm;rintro _ base h hm O
     conv=>whnf
     refine jn hm 200 [] (fun s=>s) (fun _ h=>Own vars h0 [] h) (fun _=>[]) (fun hm=>?_) ?_
     ·refine gX ?_
      refine lw 200 [5,12] (σ:=Nat) (fun s=>s) (fun v61 h=>Own vars h0 [((some g2),.cells [((encL 4 encNode) r1.nodes),((encL 1 Value.string) r1.names),((encL 3 encMem) r1.mems),((encL 1 i64) r1.outs)] false),((some g13),.map (encM encLnI Value.bool v15))] h) (fun v61=>[(22,(i64 v61))]) 0 hm O ?_
      clear hm;rintro v61 nx62 base h hm O
      refine gX ?_
      refine br hm (fun hm=>?_) fun hm=>?_
      ·refine gX ?_
       refine atF hm fun x63 hx63 hm=>?_;refine gH ?_
       refine⟨_,lookupK (ek:=encLnI) (ev:=Value.bool) (m:=v15) (k:=(⟨(Int.ofNat x63),(Int.negSucc 0)⟩:LnI)) (z:=false) rfl rfl rfl (by kernel_rfl) (by kernel_rfl) (sameLnI rfl) (O.at (.tail _ (.head _))) rfl rfl,?_⟩;refine gX ?_
       refine br hm (fun hm=>?_) fun hm=>?_
       ·refine gX ?_
        exact fe hm O
       ·refine gX ?_
        refine aAdd hm fun hm=>?_;refine gH ?_
        exact jx (v61+1) hm O
      ·refine gX ?_
       exact jx () hm (O.sel [] (by decide))
     ·clear hm;rintro _ base h hm O
      refine gX ?_
      refine ca (probecardlaw17_lives_walk hm O.has) fun r64 hm=>?_;refine gX ?_
      exact fe hm O
theorem mget_set {κ ν:Type} [DecidableEq κ] (m:List (κ×ν)) (k k':κ) (v:ν):mget (mset m k v) k'=if k'=k then some v else mget m k':=by
 induction m with
 |nil=>unfold mset mget mget;rfl
 |cons a m ih =>
  unfold mset
  by_cases e:k=a.1
  ·rw[if_pos e]
   unfold mget
   by_cases e2:k'=k
   ·rw[if_pos e2,if_pos e2]
   ·rw[if_neg e2,if_neg e2,if_neg (fun q=>e2 (q.trans e.symm))]
  ·rw[if_neg e]
   unfold mget
   by_cases e2:k'=a.1
   ·rw[if_pos e2,if_pos e2,if_neg (fun q=>e (q.symm.trans e2))]
   ·rw[if_neg e2,if_neg e2,ih]
theorem setAll_vc {κ:Type} [DecidableEq κ] {l:List κ} (hl:l.length<2 ^ 60) {rest:List (κ×Bool)→Prop} (h:∀ m:List (κ×Bool),(∀ x,(mget m x).getD false=decide (x∈l))→rest m) :
  loopW (S:=((List (κ×Bool))×Nat)) (fun (v17,v18) nx19=>((ltN v18 l.length)=true→∃ x20,l[v18]?=some x20∧v18+1<2 ^ 63∧nx19 ((mset v17 x20 true),(v18+1)))∧((ltN v18 l.length)=false→rest v17)) (([]:List (κ×Bool)),0):=by
 refine loopW_intro (fun s=>s.2≤l.length∧∀ x,(mget s.1 x).getD false=decide (x∈l.take s.2)) (fun s=>l.length-s.2) ?_ ⟨Nat.zero_le _,fun x=>by simp[mget]⟩
 rintro⟨m,i⟩ nx ⟨hi,hm⟩ hnx
 dsimp only at hi hm
 refine⟨fun q=>?_,fun q=>?_⟩
 ·have q:i<l.length:=lt_t.1 q
  obtain⟨y,hy⟩:=get_lt q
  refine⟨y,hy,by omega,hnx _ ⟨q,fun x=>?_⟩ (by dsimp only;omega)⟩
  dsimp only
  rw[mget_set,takeG hy]
  by_cases e:x=y
  ·rw[if_pos e,decide_eq_true (snoc_mem.2 (.inr e))];rfl
  ·rw[if_neg e,hm,Bool.eq_iff_iff,decide_eq_true_eq,decide_eq_true_eq,snoc_mem]
   exact⟨.inl,fun q=>q.resolve_right e⟩
 ·have q:l.length≤i:=lt_f.1 q
  rw[List.take_of_length_le q] at hm
  exact h m hm
theorem CriticalI_vc {c:Circ} (P:Plz c) {p:Pat} (F:Full c p) {K:List LnI×Nat→Prop} (h:K (((linesN c).filter (critL c p)).map LnZ.toI,0)):traces_CriticalI_wp c p K:=Critical_vc P F h
theorem toI_mem {l:List LnZ}{a:Nat}{b:Int}:(⟨Int.ofNat a,b⟩:LnI)∈l.map LnZ.toI↔(⟨a,b⟩:LnZ)∈l:=by
 rw[List.mem_map]
 constructor
 ·rintro⟨⟨u,v⟩,hm,e⟩
  unfold LnZ.toI at e
  simp only[Int.ofNat_eq_natCast,LnI.mk.injEq] at e
  obtain⟨e1,rfl⟩:=e
  have:u=a:=by omega
  subst this
  exact hm
 ·exact fun h=>⟨_,h,rfl⟩
theorem tracesRules_vc {x:CData} (hx:CB x) {n:Nat}{K:Bool→Prop} (h:K true):probecardlaw17_TracesRules_wp x n K:=by
 have P:=plz_circ (x:=noMem (noBus x)) rfl rfl
 unfold probecardlaw17_TracesRules_wp
 refine plain12_vc hx ?_
 generalize circN (noMem (noBus x))=c at P ⊢
 have C:=P.cir
 have hlen:=C.len
 refine full12_vc C fun p F=>CriticalI_vc P F (runV_vc C F.pat ?_)
 have V:=V_sol C F.pat
 have hL:=linesN_len C
 refine joinB' (a:=false) (fun G=>⟨fun q=>absurd rfl (ne_t.1 q),fun _=>⟨fun q=>absurd rfl (ne_t.1 q),fun _=>?_⟩⟩) ⟨(fun q=>by cases q),fun _=>?_⟩
 ·dsimp only
  rw[V.len,ne_f.2 rfl]
  exact G
 refine joinP (fun m:List (LnI×Bool)=>∀ x,(mget m x).getD false=decide (x∈((linesN c).filter (critL c p)).map LnZ.toI)) (fun k hk=>setAll_vc ?_ hk) ?_
 ·have:=List.length_filter_le (critL c p) (linesN c)
  rw[List.length_map]
  omega
 intro m hm
 have isN:∀ k,k<c.nodes.length→(mget m ⟨Int.ofNat k,Int.negSucc 0⟩).getD false=critN c p k:=by
  intro k hk
  rw[hm,← critL_net,Bool.eq_iff_iff,decide_eq_true_eq,toI_mem,List.mem_filter]
  exact⟨fun h=>h.2,fun h=>⟨line_mem.2 ⟨hk,.inl rfl⟩,h⟩⟩
 have isP:∀ k j,k<c.nodes.length→j<(insOf c k).length→(mget m ⟨Int.ofNat k,Int.ofNat j⟩).getD false=critP c p k j:=by
  intro k j hk hj
  rw[hm,← critL_pin,Bool.eq_iff_iff,decide_eq_true_eq,toI_mem,List.mem_filter]
  exact⟨fun h=>h.2,fun h=>⟨line_mem.2 ⟨hk,.inr ⟨j,rfl,hj⟩⟩,h⟩⟩
 refine joinLoop (fun i=>i≤c.nodes.length) (fun i=>c.nodes.length-i) (fun _=>True) ?_ (Nat.zero_le _) ?_
 ·intro k0 k nx hk hnx hk0
  refine⟨fun q=>?_,fun q=>hk0 () trivial⟩
  have q:k<c.nodes.length:=lt_t.1 q
  obtain⟨y,hy⟩:=get_lt q
  have g:=C.good.node k y hy
  have hfew:=g.few
  refine joinLoop (fun j=>j≤y.ins.length) (fun j=>y.ins.length-j) (fun _=>True) ?_ (Nat.zero_le _) ?_
  ·intro k1 j nx1 hj hnx1 hk1
   refine⟨y,hy,fun q1=>?_,fun q1=>hk1 () trivial⟩
   have q1:j<y.ins.length:=lt_t.1 q1
   have q1':j<(insOf c k).length:=by rw[insOf_eq hy];exact q1
   obtain⟨z,hz⟩:=get_lt q1
   refine joinP (fun _=>True) (fun k2 hk2=>⟨y,hy,fun e=>⟨fun q2=>?_,fun _=>hk2 () trivial⟩,fun e=>?_⟩) (fun _ _=>⟨by omega,hnx1 _ q1 (by omega)⟩)
   ·rw[isP k j q q1',critP_dff P F hy (eq_t.1 e) q1] at q2
    cases q2
   ·have e:=eq_f.1 e
    have hc:=pin_comb P hy hz e
    refine joinLoop (fun s=>s.2≤y.ins.length∧s.1=(chgL (valV c p) y.ins j).take s.2) (fun s=>y.ins.length-s.2) (fun l=>l=chgL (valV c p) y.ins j) ?_ ⟨Nat.zero_le _,rfl⟩ ?_
    ·rintro k3 ⟨l,i⟩ nx3 ⟨hi,hl⟩ hnx3 hk3
     dsimp only at hi hl
     refine⟨y,hy,fun q3=>?_,fun q3=>hk3 _ ?_⟩
     ·have q3:i<y.ins.length:=lt_t.1 q3
      obtain⟨w,hw⟩:=get_lt q3
      have hwn:=g.ins w (List.mem_of_getElem? hw)
      have hv:(chgL (valV c p) y.ins j)[i]?=some (if i=j then notN ((valV c p).getD w 0) else (valV c p).getD w 0):=by
       unfold chgL
       rw[List.getElem?_mapIdx,hw]
       rfl
      have hll:l.length≤16:=by rw[hl,List.length_take];omega
      refine⟨y,hy,w,hw,_,getN V.len hwn,joinB' (a:=if i=j then notN ((valV c p).getD w 0) else (valV c p).getD w 0) (fun G=>⟨fun q=>not_vc ?_,fun q=>?_⟩) ⟨by simp only[List.length_cons,List.length_nil];omega,by omega,hnx3 _ ⟨q3,?_⟩ (by dsimp only;omega)⟩⟩
      ·rw[if_pos (eq_t.1 q)] at G;exact G
      ·rw[if_neg (eq_f.1 q)] at G;exact G
      ·dsimp only
       rw[hl,takeG hv]
     ·have q3:y.ins.length≤i:=lt_f.1 q3
      rw[hl,List.take_of_length_le (by unfold chgL;rw[List.length_mapIdx];exact q3)]
    ·rintro _ rfl
     have hcg:=critP_gate P F hy hc hz
     refine joinB' (a:=false) (fun G=>⟨fun q2=>⟨y,hy,evalNode C hy hc (by unfold chgL;rw[List.length_mapIdx]) ⟨_,getN V.len q,?_⟩⟩,fun q2=>?_⟩) ⟨(fun q=>by cases q),fun _=>hk2 () trivial⟩
     ·rw[isN k q] at q2
      have e3:neN (evalG y.kind (chgL (valV c p) y.ins j)) ((valV c p).getD k 0)=chgB c (valV c p) k j:=by unfold chgB;rw[kd_eq hy,insOf_eq hy]
      rw[isP k j q q1',hcg,q2,Bool.and_true]
      rw[← e3,bne_self_eq_false]
      exact G
     ·rw[isN k q] at q2
      rw[isP k j q q1',hcg,q2,Bool.and_false]
      exact G
  ·intro _ _
   refine loads17_vc C fun a b hab=>joinB' (a:=false) (fun G=>⟨fun e0=>⟨fun q2=>?_,fun _=>⟨fun e1=>?_,fun _=>G⟩⟩,fun _=>⟨fun e1=>⟨fun q3=>?_,fun _=>G⟩,fun _=>G⟩⟩) ⟨(fun q=>by cases q),fun _=>⟨by omega,hnx _ q (by omega)⟩⟩
   ·rw[isN k q,critN_none P F (eq_t.1 e0) q] at q2
    cases q2
   ·have e0:=eq_t.1 e0
    have e1:=eq_t.1 e1
    omega
   ·rcases hab with⟨_,rfl,_⟩|⟨⟨a',b'⟩,hmem,rfl,rfl⟩
    ·cases q3
    ·have hp:=fan_mem.1 hmem
     have o:=one_of (eq_t.1 e1) hp
     have hl:=lt_of_get hp
     obtain⟨z,hz,_⟩:=insOf_node hp
     dsimp only at q3 ⊢
     rw[isN k q,isP a' b' (lt_of_get hz) hl,critN_one P F o q,bne_self_eq_false]
     exact G
 ·intro _ _
  refine joinLoop (fun i=>i≤c.outs.length) (fun i=>c.outs.length-i) (fun _=>True) ?_ (Nat.zero_le _) (fun _ _=>lives17_vc h)
  intro k i nx hi hnx hk
  refine⟨fun q=>?_,fun q=>hk () trivial⟩
  have q:i<c.outs.length:=lt_t.1 q
  have hol:=C.good.outsLen
  obtain⟨o,ho⟩:=get_lt q
  have hmem:=List.mem_of_getElem? ho
  refine⟨o,ho,fun q2=>?_,fun _=>⟨by omega,hnx _ q (by omega)⟩⟩
  rw[isN o (C.good.outs o hmem),critN_out P F hmem] at q2
  cases q2
def tracesRules_sh:List (Sh×Bool):=[(shC,true),(shU64,false)]
theorem tracesRules_call (x:DenL tracesRules_sh) (w:wfL tracesRules_sh x):FnV Tryz.prog NG vars 4 ⟨argL tracesRules_sh x⟩ (.bool true):=by
 obtain⟨c,n,u⟩:=x
 obtain⟨wc,wn,_⟩:=w
 obtain⟨y,hy,e1⟩:=c_arg wc
 obtain⟨n,hn,rfl⟩:=u64_of wn
 have e:argL tracesRules_sh (c,Int.ofNat n,u)=[encC y,n64 n]:=by
  show [elV (!true) (shC.cellsF c),elV (!false) (shU64.cellsF (Int.ofNat n))]=_
  rw[e1];rfl
 rw[e]
 exact FnV.of_walk (enc:=Value.bool) (r:=true) (PureV.flat rfl) fun h hB=>probecardlaw17_TracesRules_walk (K:=fun r=>r=true) (tracesRules_vc hy rfl) hB
end Go.Proofs.YtmhbhclfojmjdaaGreatDoor
namespace Go.Proofs.YtmhbhclfojmjdaaGreatDoor
open Go.Abs Go.ChangeShapes Go.RowKit Go.ChangeAt
set_option maxRecDepth 100000
def tracesRules_shape:List (Sh×Bool):=tracesRules_sh
theorem tracesRules_lifted (os:Os) (started:os.Started) (H:Type) (enc:TypeId×Value→H) :
  ReturnsInHanded {} Tryz.checked os 4 .any (fun w args=>(Rows.tracesRulesSpec.pre enc Tryz.prog Tryz.f4 [] false w args∧laidMetH Tryz.prog laid w)∧sizedMet enc Tryz.prog Tryz.f4 (OpenSpec.ofChange Rows.tracesRulesSpec) false w args)
   (Rows.tracesRulesSpec.post enc Tryz.prog Tryz.f4 false true false false):=by
 refine law_lift (C:=Tryz.checked) (X:=fun w _=>laidMetH Tryz.prog laid w) (fun _ _ _ hh h=>h.of_heap hh) own started (by kernel_rfl) Tryz.func4
  (ChangeSpec.witness_shaped (enc:=enc) (C:=Tryz.checked) (os:=os) (X:=fun w _=>laidMetH Tryz.prog laid w) false (World.doorLaid Tryz.prog 400 os) #[.agg #[u8 0,u8 0,u8 0,u8 0,.bool false,.bool false,u8 0,u8 0,u8 0,u8 0,.slice none 0 0,.slice none 0 0],.int .u64 0] 8 rfl (World.shaped_of_RefB (by kernel_rfl) (by kernel_rfl)) (by kernel_rfl) (by kernel_rfl) (by kernel_rfl) (door_met os _))
  laidOut rfl (fun ds hds=>?_) (by kernel_rfl) (tb:=4) (by kernel_rfl) Tryz.underlying4
  (law_run (d:=24) tracesRules_shape Tryz.func4 rfl (by rw[Tryz.params4];exact⟨by kernel_rfl,by kernel_rfl,by kernel_rfl,by kernel_rfl,trivial⟩) tracesRules_call)
 rw[Tryz.params4] at hds
 match ds,hds with
 |[d0,d1],_=>rfl
theorem tracesRules_holds:Rows.TracesRulesSaid :=
 OpenClaim.holds_of_wide 4 Tryz.f4 rfl rfl rfl rfl rfl rfl rfl ⟨rfl,rfl,rfl,rfl,rfl⟩ rfl rfl rfl rfl rfl (by kernel_rfl) Tryz.func4 (by kernel_rfl)
  (of_decide_eq_true (by kernel_rfl)) (by unfold Func.isWrapper;first | (rw[if_pos (by decide +kernel)];kernel_rfl) | (rw[if_neg (by decide +kernel)];exact⟨rfl,rfl⟩))
  (fun os started H enc _=>tracesRules_lifted os started H enc)
theorem tracesRules_card:Rows.TracesRulesCardSaid :=
 Claim7.holds_tied_plain_at .later [] [.data] true (true, "aa86e69c7179e377005e4043d2b0d2688cd9df462eac80e1753cba7a177585ef") false
  tracesRules_holds (fun _ h=>by cases h) (by kernel_rfl) (fun _ h=>by cases h) tracesRules_row_tie rfl ⟨rfl,rfl⟩ (by kernel_rfl) rfl
  (fun f fn hf hfn=>by
   obtain rfl : f = 4 := Option.some.inj ((show Tryz.prog.funcNamed "probecard/probecardlaw17.TracesRules" = some 4 by kernel_rfl).symm.trans hf) |>.symm
   obtain rfl:fn=Tryz.f4:=(Option.some.inj (Tryz.func4.symm.trans hfn)).symm
   exact⟨by kernel_rfl,fun j t ht=>by
    have hm:=Array.mem_of_getElem? ht
    have hall:(Tryz.f4.params.all fun u => !Tryz.prog.wantsStandIn u)=true:=by kernel_rfl
    exact (show Tryz.prog.wantsStandIn t=false by simpa using Array.all_eq_true_iff_forall_mem.1 hall t hm)⟩)
  (by kernel_rfl)
#print axioms tracesRules_card
end Go.Proofs.YtmhbhclfojmjdaaGreatDoor
