/-
  P8, I1, P9, Pa, Pb, Pc, Pd, Pe, Pf, Pg, Q1, Lw: parts of the proof.
-/
import Derived.Test.YtfhldkgelipnaaaGreatDoorLc43
namespace Go.Proofs.YtfhldkgelipnaaaGreatDoor
open Go.Abs
set_option maxRecDepth 100000
structure GK (ks:List Nat) (x:Node):Prop where
 kind1:1≤x.kind
 kind:x.kind≤13
 arity:Arity x.kind x.ins.length
 ins:∀ k∈x.ins,k<ks.length
 bus:x.kind=13→∀ k∈x.ins,ks.getD k 0=12
 mem:x.mem=0
 bit:x.bit=0
theorem trisK_mem (ks:List Nat):∀ (i:Nat) (t:Nat),t∈trisK ks i→t<i∧ks.getD t 0=12
 |0,t,h=>by unfold trisK at h;cases h
 |i+1,t,h=>by
  unfold trisK at h
  split at h
  ·rename_i e
   rcases List.mem_append.1 h with h|h
   ·have:=trisK_mem ks i t h;exact⟨by omega,this.2⟩
   ·rw[List.mem_singleton] at h;subst h;exact⟨by omega,e⟩
  ·have:=trisK_mem ks i t h;exact⟨by omega,this.2⟩
theorem getD_mem {l:List Nat}{i:Nat} (h:i<l.length):l.getD i 0∈l:=by
 rw[List.getD,List.getElem?_eq_getElem h]
 exact List.getElem_mem h
theorem arity_gate:∀ kk,kk<6→Arity (5+kk) 2∧Arity (5+kk) 3:=by decide
theorem gateK_ok (bus:Bool) (g:GData) {ks:List Nat} (hn:0<ks.length):GK ks (gateK bus g ks):=by
 have ha:=Nat.mod_lt g.a hn
 have hb:=Nat.mod_lt g.b hn
 have hd:=Nat.mod_lt g.d hn
 have hkk:(if bus then g.kind%13 else g.kind%9)<13:=by
  split
  ·exact Nat.mod_lt _ (by decide)
  ·exact Nat.lt_trans (Nat.mod_lt _ (by decide)) (by decide)
 unfold gateK
 generalize (if bus then g.kind%13 else g.kind%9)=kk at hkk
 by_cases c1:kk<6
 ·rw[if_pos c1]
  by_cases c2:128≤g.kind
  ·rw[if_pos c2]
   refine⟨by dsimp only;omega,by dsimp only;omega,?_,?_,fun e=>by dsimp only at e;omega,rfl,rfl⟩
   ·exact (arity_gate kk c1).2
   ·intro k m
    simp only[List.mem_cons,List.not_mem_nil,or_false] at m
    rcases m with rfl|rfl|rfl <;> assumption
  ·rw[if_neg c2]
   refine⟨by dsimp only;omega,by dsimp only;omega,?_,?_,fun e=>by dsimp only at e;omega,rfl,rfl⟩
   ·exact (arity_gate kk c1).1
   ·intro k m
    simp only[List.mem_cons,List.not_mem_nil,or_false] at m
    rcases m with rfl|rfl <;> assumption
 rw[if_neg c1]
 by_cases c2:kk=6
 ·rw[if_pos c2]
  exact⟨(by decide:1≤4),(by decide:4≤13),(by decide:Arity 4 1),fun k m=>by simp only[List.mem_cons,List.not_mem_nil,or_false] at m;subst m;exact ha,(fun e=>by cases e),rfl,rfl⟩
 rw[if_neg c2]
 by_cases c3:kk=7
 ·rw[if_pos c3]
  refine⟨(by decide:1≤11),(by decide:11≤13),(by decide:Arity 11 3),fun k m=>?_,(fun e=>by cases e),rfl,rfl⟩
  simp only[List.mem_cons,List.not_mem_nil,or_false] at m
  rcases m with rfl|rfl|rfl <;> assumption
 rw[if_neg c3]
 by_cases c4:kk=9∨kk=10
 ·rw[if_pos c4]
  refine⟨(by decide:1≤12),(by decide:12≤13),(by decide:Arity 12 2),fun k m=>?_,(fun e=>by cases e),rfl,rfl⟩
  simp only[List.mem_cons,List.not_mem_nil,or_false] at m
  rcases m with rfl|rfl <;> assumption
 rw[if_neg c4]
 by_cases c5:10<kk∧0<(trisK ks ks.length).length
 ·rw[if_pos c5]
  have h1:=trisK_mem ks ks.length _ (getD_mem (Nat.mod_lt g.a c5.2))
  have h2:=trisK_mem ks ks.length _ (getD_mem (Nat.mod_lt (g.a%(trisK ks ks.length).length+1) c5.2))
  by_cases c6:1<(trisK ks ks.length).length
  ·rw[if_pos c6]
   refine⟨(by decide:1≤13),(by decide:13≤13),(by decide:Arity 13 2),fun k m=>?_,fun _ k m=>?_,rfl,rfl⟩ <;>
   ·simp only[List.mem_cons,List.not_mem_nil,or_false] at m
    rcases m with rfl|rfl
    ·first|exact h1.1|exact h1.2
    ·first|exact h2.1|exact h2.2
  ·rw[if_neg c6]
   refine⟨(by decide:1≤13),(by decide:13≤13),(by decide:Arity 13 1),fun k m=>?_,fun _ k m=>?_,rfl,rfl⟩ <;>
   ·simp only[List.mem_cons,List.not_mem_nil,or_false] at m
    subst m
    first|exact h1.1|exact h1.2
 rw[if_neg c5]
 by_cases c7:240<g.kind
 ·rw[if_pos c7]
  have:g.a%2=0∨g.a%2=1:=by omega
  rcases this with e|e <;> rw[e]
  ·exact⟨(by decide:1≤1),(by decide:1≤13),(by decide:Arity 1 0),(fun k m=>by cases m),(fun _ k m=>by cases m),rfl,rfl⟩
  ·exact⟨(by decide:1≤2),(by decide:2≤13),(by decide:Arity 2 0),(fun k m=>by cases m),(fun _ k m=>by cases m),rfl,rfl⟩
 ·rw[if_neg c7]
  exact⟨(by decide:1≤3),(by decide:3≤13),(by decide:Arity 3 1),fun k m=>by simp only[List.mem_cons,List.not_mem_nil,or_false] at m;subst m;exact ha,(fun e=>by cases e),rfl,rfl⟩
theorem gateK_plain (g:GData) (ks:List Nat):(gateK false g ks).kind≠12∧(gateK false g ks).kind≠13:=by
 have hkk:=Nat.mod_lt g.kind (show 0<9 by decide)
 unfold gateK
 simp only[Bool.false_eq_true,if_false]
 generalize g.kind%9=kk at hkk
 by_cases c1:kk<6
 ·rw[if_pos c1];dsimp only;omega
 rw[if_neg c1]
 by_cases c2:kk=6
 ·rw[if_pos c2];exact (by decide:4≠12∧4≠13)
 rw[if_neg c2]
 by_cases c3:kk=7
 ·rw[if_pos c3];exact (by decide:11≠12∧11≠13)
 rw[if_neg c3,if_neg (by omega),if_neg (by omega)]
 by_cases c7:240<g.kind
 ·rw[if_pos c7];dsimp only;omega
 ·rw[if_neg c7];exact (by decide:3≠12∧3≠13)
theorem gatesN_node (bus:Bool) (gs:List GData) (base:List Node) (hb:0<base.length):∀ m,m≤gs.length→∀ (i:Nat) (y:Node),(gatesN bus gs base m)[i]?=some y →
  (i<base.length∧base[i]?=some y)∨(base.length≤i∧∃ g,y=gateK bus g (((gatesN bus gs base m).take i).map Node.kind))
 |0,_,i,y,h=>.inl ⟨lt_of_get h,h⟩
 |m+1,hm,i,y,h=>by
  have hg:gs[m]?=some gs[m]:=List.getElem?_eq_getElem (by omega)
  have hl:=gatesN_length bus gs base m (by omega)
  rw[gatesN_succ hg] at h ⊢
  by_cases c:i<(gatesN bus gs base m).length
  ·rw[List.getElem?_append_left c] at h
   rcases gatesN_node bus gs base hb m (by omega) i y h with q|⟨q1,g,q2⟩
   ·exact .inl q
   ·refine .inr ⟨q1,g,?_⟩
    rw[List.take_append_of_le_length (by omega)]
    exact q2
  ·have hi:i=(gatesN bus gs base m).length:=by
    have:=lt_of_get h
    rw[List.length_append,List.length_singleton] at this
    omega
   subst hi
   rw[List.getElem?_append_right (Nat.le_refl _),Nat.sub_self] at h
   cases h
   refine .inr ⟨by omega,gs[m],?_⟩
   rw[List.take_left']
   rfl
theorem updN_at {first:Nat}{d:Nat→Nat}{ns:List Node}{j:Nat}:∀ {m},j<m→first+m≤ns.length→(updN first d m ns)[first+j]?=some (dffN (d j))
 |m+1,h,hl=>by
  rw[updN,List.getElem?_set]
  by_cases c:m=j
  ·subst c
   rw[if_pos rfl,if_pos (by rw[updN_length];omega)]
  ·rw[if_neg (by omega)]
   exact updN_at (by omega) (by omega)
theorem updN_low {first:Nat}{d:Nat→Nat}{ns:List Node}{j:Nat} (h:j<first):∀ m,(updN first d m ns)[j]?=ns[j]?
 |0=>rfl
 |m+1=>by rw[updN,List.getElem?_set_ne (by omega)];exact updN_low h m
def isMemN (x:CData) (_i:Nat) (y:Node):Prop:=x.mem=true∧(y=memN 0∨y=memN 1)
theorem circ_node' {x:CData}{i:Nat}{y:Node} (h:(circN x).nodes[i]?=some y) :
  (i<x.inp%4+1∧y=inputN)∨(x.inp%4+1≤i∧i<x.inp%4+1+x.dffs%3∧∃ d,d<(rawN x).length∧y=dffN d)∨isMemN x i y ∨
  (x.inp%4+1+x.dffs%3≤i∧(rawN x)[i]?=some y∧∃ g,y=gateK x.bus g (((rawN x).take i).map Node.kind)):=by
 have h:(updN (x.inp%4+1) (dataN x (rawN x).length) (x.dffs%3) (rawN x))[i]?=some y:=h
 have hbl:=baseN_length x.inp x.dffs x.mem
 have hrl:=rawN_length x
 have hbase:∀ i,i<x.inp%4+1→(baseN x.inp x.dffs x.mem)[i]?=some inputN:=fun i hi=>by
  unfold baseN
  rw[List.append_assoc,List.getElem?_append_left (by rw[List.length_replicate];exact hi),List.getElem?_replicate,if_pos hi]
 by_cases c1:i<x.inp%4+1
 ·rw[updN_low c1] at h
  unfold rawN at h
  rw[gatesN_get _ _ _ (by omega) _ (Nat.min_le_left _ _),hbase i c1] at h
  cases h
  exact .inl ⟨c1,rfl⟩
 ·by_cases c2:i<x.inp%4+1+x.dffs%3
  ·have e:i=x.inp%4+1+(i-(x.inp%4+1)):=by omega
   rw[e,updN_at (by omega) (by omega)] at h
   cases h
   exact .inr (.inl ⟨by omega,c2,_,Nat.mod_lt _ (rawN_pos' x),rfl⟩)
  ·rw[updN_get (by omega)] at h
   rcases gatesN_node x.bus x.gates (baseN x.inp x.dffs x.mem) (by omega) _ (Nat.min_le_left _ 8) i y h with⟨q,e⟩|⟨_,g,q⟩
   ·refine .inr (.inr (.inl ?_))
    unfold baseN at e
    rw[List.getElem?_append_right (by simp only[List.length_append,List.length_replicate];omega)] at e
    cases hm:x.mem
    ·rw[hm] at e;simp at e
    ·rw[hm] at e
     simp only[if_true] at e
     refine⟨hm,?_⟩
     have hme:=List.mem_of_getElem? e
     simpa using hme
   ·exact .inr (.inr (.inr ⟨by omega,h,g,q⟩))
theorem circ_node {x:CData} (hm:x.mem=false) {i:Nat}{y:Node} (h:(circN x).nodes[i]?=some y) :
  (i<x.inp%4+1∧y=inputN)∨(x.inp%4+1≤i∧i<x.inp%4+1+x.dffs%3∧∃ d,d<(rawN x).length∧y=dffN d) ∨
  (x.inp%4+1+x.dffs%3≤i∧(rawN x)[i]?=some y∧∃ g,y=gateK x.bus g (((rawN x).take i).map Node.kind)):=by
 rcases circ_node' h with q|q|q|q
 ·exact .inl q
 ·exact .inr (.inl q)
 ·have:=q.1;rw[hm] at this;cases this
 ·exact .inr (.inr q)
theorem circ_kinds (x:CData) (k:Nat):(((circN x).nodes).map Node.kind).getD k 0=((rawN x).map Node.kind).getD k 0:=by
 have hrl:=rawN_length x
 show ((updN (x.inp%4+1) (dataN x (rawN x).length) (x.dffs%3) (rawN x)).map Node.kind).getD k 0=_
 rw[List.getD,List.getD,List.getElem?_map,List.getElem?_map]
 by_cases c1:k<x.inp%4+1
 ·rw[updN_low c1]
 ·by_cases c2:k<x.inp%4+1+x.dffs%3
  ·have e:k=x.inp%4+1+(k-(x.inp%4+1)):=by omega
   rw[e,updN_at (by omega) (by omega),rawN_dff (by omega)]
   rfl
  ·rw[updN_get (by omega)]
theorem circ_mems (x:CData):(circN x).mems=if x.mem then [⟨[x.port0%(rawN x).length],[x.port1%(rawN x).length,x.port2%(rawN x).length],x.port3%(rawN x).length⟩] else []:=rfl
theorem good_circ' (x:CData):Good (circN x):=by
 have hle:=rawN_le x
 have hpos:=rawN_pos' x
 have hn:(circN x).nodes.length=(rawN x).length:=updN_length _
 have node:∀ (i:Nat) (y:Node),(circN x).nodes[i]?=some y→GoodN (circN x) i y:=by
  intro i y h
  have hi:=lt_of_get h
  rw[hn] at hi
  rcases circ_node' h with⟨_,rfl⟩|⟨_,_,d,hd,rfl⟩|⟨hm,e⟩|⟨h1,h2,g,hg⟩
  ·exact⟨(by decide:0≤15),(by decide:Arity 0 0),(fun k m=>by cases m),(fun e=>by cases e),fun _=>⟨rfl,rfl⟩,(fun e=>by cases e),fun e=>absurd e (by decide:¬ 1≤0)⟩
  ·refine⟨(by decide:14≤15),(by decide:Arity 14 1),fun k m=>?_,(fun e=>by cases e),fun _=>⟨rfl,rfl⟩,(fun e=>by cases e),fun _ e=>absurd e (by decide:¬ 14≤13)⟩
   have:k=d:=by simpa[dffN] using m
   rw[hn,this];exact hd
  ·have em:=circ_mems x
   rw[hm] at em
   simp only[if_true] at em
   rcases e with rfl|rfl
   ·exact⟨(by decide:15≤15),(by decide:Arity 15 0),(fun k m=>by cases m),(fun e=>by cases e),fun e=>absurd rfl e,fun _=>⟨_,(by rw[em];rfl),by show (0:Nat)<2;decide⟩,fun _ e=>absurd e (by decide:¬ 15≤13)⟩
   ·exact⟨(by decide:15≤15),(by decide:Arity 15 0),(fun k m=>by cases m),(fun e=>by cases e),fun e=>absurd rfl e,fun _=>⟨_,(by rw[em];rfl),by show (1:Nat)<2;decide⟩,fun _ e=>absurd e (by decide:¬ 15≤13)⟩
  ·have hks:(((rawN x).take i).map Node.kind).length=i:=by rw[List.length_map,List.length_take];omega
   have G:=gateK_ok x.bus g (ks:=((rawN x).take i).map Node.kind) (by omega)
   rw[← hg] at G
   have lt:∀ k∈y.ins,k<i:=fun k m=>by have:=G.ins k m;omega
   refine⟨by have:=G.kind;omega,G.arity,fun k m=>by have:=lt k m;omega,fun e k m=>?_,fun _=>⟨G.mem,G.bit⟩,fun e=>by have:=G.kind;omega,fun _ _=>lt⟩
   have hk:=lt k m
   have hk2:k<(circN x).nodes.length:=by omega
   refine⟨_,List.getElem?_eq_getElem hk2,?_⟩
   have e1:=circ_kinds x k
   rw[List.getD,List.getElem?_map,List.getElem?_eq_getElem hk2] at e1
   have e2:=G.bus e k m
   rw[List.getD,List.getElem?_map,List.getElem?_take,if_pos hk] at e2
   rw[List.getD,List.getElem?_map,e2] at e1
   exact e1
 refine⟨by omega,by show ((List.range (rawN x).length).map nameB).length=_;rw[hn];simp,names_ok (n:=(rawN x).length) (by omega) rfl,fan_ok ⟨by omega,fun i y h=>⟨(node i y h).ins,(node i y h).few⟩⟩,?_,?_,?_,?_,node,by rw[hn];exact hpos⟩
 ·intro m hme
  rw[circ_mems] at hme
  split at hme
  ·rw[List.mem_singleton] at hme
   subst hme
   have lt:∀ a,a%(rawN x).length<(circN x).nodes.length:=fun a=>by rw[hn];exact Nat.mod_lt _ hpos
   exact⟨(by decide:1≤1∧1≤8),(by decide:1≤2∧2≤32),fun k m=>by rw[List.mem_singleton.1 m];exact lt _,fun k m=>by simp only[List.mem_cons,List.not_mem_nil,or_false] at m;rcases m with rfl|rfl <;> exact lt _,lt _⟩
  ·cases hme
 ·rw[circ_mems];split <;> simp
 ·intro o m
  have m:o∈(x.outs.take 3).map (· % (rawN x).length)++[(rawN x).length-1]:=m
  rw[hn]
  rcases List.mem_append.1 m with m|m
  ·obtain⟨q,_,rfl⟩:=List.mem_map.1 m
   exact Nat.mod_lt _ hpos
  ·rw[List.mem_singleton] at m;omega
 ·show ((x.outs.take 3).map (· % (rawN x).length)++[(rawN x).length-1]).length≤16
  rw[List.length_append,List.length_map,List.length_take,List.length_singleton];omega
theorem good_circ {x:CData} (_:x.mem=false):Good (circN x):=good_circ' x
theorem plain_circ {x:CData} (hm:x.mem=false) (hb:x.bus=false):∀ (i:Nat) (y:Node),(circN x).nodes[i]?=some y→y.kind≠12∧y.kind≠13∧y.kind≠15:=by
 intro i y h
 rcases circ_node hm h with⟨_,rfl⟩|⟨_,_,d,hd,rfl⟩|⟨h1,_,g,hg⟩
 ·decide
 ·exact⟨by show (14:Nat)≠12;decide,by show (14:Nat)≠13;decide,by show (14:Nat)≠15;decide⟩
 ·rw[hb] at hg
  have:=gateK_plain g (((rawN x).take i).map Node.kind)
  have hi:=lt_of_get h
  have hn:(circN x).nodes.length=(rawN x).length:=updN_length _
  have q:=gateK_ok false g (ks:=((rawN x).take i).map Node.kind) (by rw[List.length_map,List.length_take];omega)
  rw[← hg] at this q
  exact⟨this.1,this.2,by have:=q.kind;omega⟩
set_option maxHeartbeats 8000000
def implies_Plain_wp (p0:Circ) (K:Nat→Prop):Prop :=
 netlists_Check_wp p0 (fun r1=>((neN r1 0)=true→K r1)∧((neN r1 0)=false→joinW (α:=Bool) (fun k3=>((ltN 0 p0.mems.length)=true→k3 true)∧((ltN 0 p0.mems.length)=false→netlists_Of_wp p0 ([12,13,15]:(List Nat)) (fun r4=>k3 (ltN 0 r4.length)))) (fun v2=>(v2=true→K 7)∧(v2=false→K 0))))
theorem implies_Plain_walk {p0:Circ}{K:Nat→Prop} (hm:implies_Plain_wp p0 K) {h0:Heap} (hB:HasB vars h0):∃ r,K r∧CallD Tryz.prog NG 31 ⟨[encCirc p0]⟩ h0 (i64 r) h0:=by
 unfold implies_Plain_wp at hm
 refine fw Tryz.func31 hB (enc:=i64) (fun r=>PureV.flat rfl) fun O=>?_;conv=>whnf
 refine gX ?_
 refine fz ?_;refine gX ?_
 refine ca (netlists_Check_walk hm O.has) fun r1 hm=>?_;refine gX ?_
 refine br hm (fun hm=>?_) fun hm=>?_
 ·refine gX ?_
  exact fe hm O
 ·apply Cs;conv=>whnf
  apply Cs;conv=>whnf
  refine jn hm 20 [] (fun s=>s) (fun v2 h=>Own vars h0 [] h) (fun v2=>[(19,(.bool v2))]) (fun hm=>?_) ?_
  ·refine gX ?_
   refine br hm (fun hm=>?_) fun hm=>?_
   ·refine gX ?_
    exact jx true hm O
   ·refine gX ?_
    refine fz ?_;refine gH ?_
    refine ca (netlists_Of_walk hm O.has) fun r4 hm=>?_;refine gH ?_
    exact jx (ltN 0 r4.length) hm O
  ·clear hm;rintro v2 base h hm O
   refine gX ?_
   refine br hm (fun hm=>?_) fun hm=>?_
   ·refine gX ?_
    exact fe hm O
   ·refine gX ?_
    exact fe hm O
def implies_free_wp (p0:Nat) (K:Bool→Prop):Prop :=
 ((eqN p0 0)=true→K true)∧((eqN p0 0)=false→K (eqN p0 14))
theorem implies_free_walk {p0:Nat}{K:Bool→Prop} (hm:implies_free_wp p0 K) {h0:Heap} (hB:HasB vars h0):∃ r,K r∧CallD Tryz.prog NG 43 ⟨[n8 p0]⟩ h0 (Value.bool r) h0:=by
 unfold implies_free_wp at hm
 refine fw Tryz.func43 hB (enc:=Value.bool) (fun r=>PureV.flat rfl) fun O=>?_;conv=>whnf
 refine gX ?_
 refine br hm (fun hm=>?_) fun hm=>?_
 ·refine gX ?_
  exact fe hm O
 ·refine gX ?_
  exact fe hm O
def work_put_wp (_nodes:List Node) (_names:List ByteArray) (_mems:List Memo) (_outs:List Nat) (fan:List (List Ln)) (nv:Nat) (vals:List Nat) (wait:List Nat) (n:Nat) (x:Nat) (K:(Bool×(List Nat)×(List Nat))→Prop):Prop :=
 joinW (α:=Bool) (fun k4=>((eqN x 2)=true→k4 true)∧((eqN x 2)=false→n<nv∧∃ x5,vals[n]?=some x5∧k4 (eqN x5 x))) (fun v1=>(v1=true→K (true,vals,wait))∧(v1=false→n<nv∧∃ x6,vals[n]?=some x6∧joinW (α:=(List Nat)) (fun k10=>((eqN x6 2)=true→k10 (vals.set n x))∧((eqN x6 2)=false→k10 vals)) (fun v7=>∃ x11,v7[n]?=some x11∧((!(eqN x11 x))=true→K (false,v7,wait))∧((!(eqN x11 x))=false→(wait.length+([n]:(List Nat)).length)*8≤2 ^ 47∧joinW (α:=(List Nat)) (fun k23=>∃ x24,fan[n]?=some x24∧loopW (S:=((List Nat)×Nat)) (fun (v28,v29) nx32=>((ltN v29 x24.length)=true→∃ x33,x24[v29]?=some x33∧(v28.length+([x33.node]:(List Nat)).length)*8≤2 ^ 47∧v29+1<2 ^ 63∧nx32 ((v28++([x33.node]:(List Nat))),(v29+1)))∧((ltN v29 x24.length)=false→k23 v28)) ((wait++([n]:(List Nat))),0)) (fun v20=>K (true,v7,v20))))))
theorem work_put_walk {nodes:List Node}{names:List ByteArray}{mems:List Memo}{outs:List Nat}{fan:List (List Ln)}{nv:Nat}{vals:List Nat}{wait:List Nat}{n:Nat}{x:Nat}{gw:Nat}{gv:Nat}{a:Option Nat}{pre:List Value}{off:Nat}{L:List Slot}{K:(Bool×(List Nat)×(List Nat))→Prop} (hm:work_put_wp nodes names mems outs fan nv vals wait n x K) {h0 h:Heap} (ha:a=none→wait=[]) (hp:pre.length=off) (O:Own vars h0 (((some gw),.cells [((encL 4 encNode) nodes),((encL 1 Value.string) names),((encL 3 encMem) mems),((encL 1 i64) outs),((encL 1 (encL 2 encLn)) fan),(.slice (some ⟨gv,0,none⟩) nv nv),(tailV 1 a off (wait.map i64))] false)::((some gv),.cells (flatC (vals.map n8)) false)::(a,.cells (pre++flatC (wait.map i64)) false)::L) h):∃ v h',CallD Tryz.prog NG 42 ⟨[(.pointer (some ⟨gw,0,none⟩)),(i64 n),(n8 x)]⟩ h v h'∧∃ (u0:Bool) (w0:(List Nat)) (w4:(List Nat)) (b1:Option Nat) (b2:(List Value)) (b3:Nat),K (u0,w0,w4)∧v=(Value.bool u0)∧(b1=none→w4=[])∧(b2.length=b3)∧Own vars h0 (((some gw),.cells [((encL 4 encNode) nodes),((encL 1 Value.string) names),((encL 3 encMem) mems),((encL 1 i64) outs),((encL 1 (encL 2 encLn)) fan),(.slice (some ⟨gv,0,none⟩) nv nv),(tailV 1 b1 b3 (w4.map i64))] false)::((some gv),.cells (flatC (w0.map n8)) false)::(b1,.cells (b2++flatC (w4.map i64)) false)::L) h'∧True:=by
 unfold work_put_wp at hm
 refine fg Tryz.func42 (Q:=fun v h'=>∃ (u0:Bool) (w0:(List Nat)) (w4:(List Nat)) (b1:Option Nat) (b2:(List Value)) (b3:Nat),K (u0,w0,w4)∧v=(Value.bool u0)∧(b1=none→w4=[])∧(b2.length=b3)∧Own vars h0 (((some gw),.cells [((encL 4 encNode) nodes),((encL 1 Value.string) names),((encL 3 encMem) mems),((encL 1 i64) outs),((encL 1 (encL 2 encLn)) fan),(.slice (some ⟨gv,0,none⟩) nv nv),(tailV 1 b1 b3 (w4.map i64))] false)::((some gv),.cells (flatC (w0.map n8)) false)::(b1,.cells (b2++flatC (w4.map i64)) false)::L) h'∧True) ?_;conv=>whnf
 apply Cs;conv=>whnf
 apply Cs;refine gH ?_
 apply Cs;conv=>whnf
 refine jn hm 65 [0,1,2] (fun s=>s) (fun v1 h=>(a=none→wait=[])∧(pre.length=off)∧Own vars h0 (((some gw),.cells [((encL 4 encNode) nodes),((encL 1 Value.string) names),((encL 3 encMem) mems),((encL 1 i64) outs),((encL 1 (encL 2 encLn)) fan),(.slice (some ⟨gv,0,none⟩) nv nv),(tailV 1 a off (wait.map i64))] false)::((some gv),.cells (flatC (vals.map n8)) false)::(a,.cells (pre++flatC (wait.map i64)) false)::L) h) (fun v1=>[(21,(.bool v1))]) (fun hm=>?_) ?_
 ·refine gX ?_
  refine br hm (fun hm=>?_) fun hm=>?_
  ·refine gX ?_
   exact jx true hm ⟨ha,hp,O⟩
  ·refine gX ?_
   refine ix 1 hm fun x5 hx5 hm=>?_;refine gH ?_
   refine ldE (s:=1) (i:=0) (O.at (.tail _ (.head _))) hx5 ?_;refine gH ?_
   exact jx (eqN x5 x) hm ⟨ha,hp,O⟩
 ·clear hm;rintro v1 base h hm ⟨ha2,hp3,O⟩
  refine gX ?_
  refine br hm (fun hm=>?_) fun hm=>?_
  ·refine gX ?_
   exact⟨true,vals,wait,a,pre,off,hm,rfl,ha2,hp3,O,trivial⟩
  ·refine gX ?_
   refine ix 1 hm fun x6 hx6 hm=>?_;refine gH ?_
   refine fg Tryz.func75 ?_;conv=>whnf
   apply Cs;conv=>whnf
   apply Cs;refine gH ?_
   refine jn hm 17 [0,1] (fun s=>s) (fun v7 h=>(a=none→wait=[])∧(pre.length=off)∧Own vars h0 (((some gv),.cells (flatC (v7.map n8)) false)::((some gw),.cells [((encL 4 encNode) nodes),((encL 1 Value.string) names),((encL 3 encMem) mems),((encL 1 i64) outs),((encL 1 (encL 2 encLn)) fan),(.slice (some ⟨gv,0,none⟩) nv nv),(tailV 1 a off (wait.map i64))] false)::(a,.cells (pre++flatC (wait.map i64)) false)::L) h) (fun v7=>[]) (fun hm=>?_) ?_
   ·refine gX ?_
    refine ldE (s:=1) (i:=0) (O.at (.tail _ (.head _))) hx6 ?_;refine gX ?_
    refine br hm (fun hm=>?_) fun hm=>?_
    ·refine gX ?_
     refine O.stE 1 (.tail _ (.head _)) hx6 x fun h O=>?_;refine gH ?_
     exact jx (vals.set n x) hm ⟨ha2,hp3,(Own.selT [((some gw),.cells [((encL 4 encNode) nodes),((encL 1 Value.string) names),((encL 3 encMem) mems),((encL 1 i64) outs),((encL 1 (encL 2 encLn)) fan),(.slice (some ⟨gv,0,none⟩) nv nv),(tailV 1 a off (wait.map i64))] false),((some gv),.cells (flatC ((vals.set n x).map n8)) false),(a,.cells (pre++flatC (wait.map i64)) false)] O [1,0,2] (by decide))⟩
    ·refine gX ?_
     exact jx vals hm ⟨ha2,hp3,(Own.selT [((some gw),.cells [((encL 4 encNode) nodes),((encL 1 Value.string) names),((encL 3 encMem) mems),((encL 1 i64) outs),((encL 1 (encL 2 encLn)) fan),(.slice (some ⟨gv,0,none⟩) nv nv),(tailV 1 a off (wait.map i64))] false),((some gv),.cells (flatC (vals.map n8)) false),(a,.cells (pre++flatC (wait.map i64)) false)] O [1,0,2] (by decide))⟩
   ·clear hm;rintro v7 base h hm ⟨ha8,hp9,O⟩
    refine gX ?_
    obtain⟨x11,hx11,hm⟩:=hm
    refine ldE (s:=1) (i:=0) (O.at (.head _)) hx11 ?_;refine gX ?_
    refine br hm (fun hm=>?_) fun hm=>?_
    ·refine gX ?_
     exact⟨false,v7,wait,a,pre,off,hm,rfl,ha8,hp9,(Own.selT [((some gv),.cells (flatC (v7.map n8)) false),((some gw),.cells [((encL 4 encNode) nodes),((encL 1 Value.string) names),((encL 3 encMem) mems),((encL 1 i64) outs),((encL 1 (encL 2 encLn)) fan),(.slice (some ⟨gv,0,none⟩) nv nv),(tailV 1 a off (wait.map i64))] false),(a,.cells (pre++flatC (wait.map i64)) false)] O [1,0,2] (by decide)),trivial⟩
    ·refine gX ?_
     refine fz ?_;refine gH ?_
     refine Own.appendT (enc:=i64) (l:=wait) (new:=([n]:(List Nat))) (s:=1) (b:=8) hp9 O (.tail _ (.tail _ (.head _))) ha8 rfl rfl rfl rfl rfl rfl rfl rfl (YOk.fl rfl) (fun _=>rfl) (fun _=>rfl) (by decide) hm.1 fun a12 q14 o15 h hp16 ha13 O=>?_;refine gH ?_
     replace hm:=hm.2
     refine O.stC 1 (.tail _ (.head _)) [((encL 4 encNode) nodes),((encL 1 Value.string) names),((encL 3 encMem) mems),((encL 1 i64) outs),((encL 1 (encL 2 encLn)) fan),(.slice (some ⟨gv,0,none⟩) nv nv),(tailV 1 a12 o15 ((wait++([n]:(List Nat))).map i64))] fun h O=>?_;refine gH ?_
     refine jn (σ:=(List Nat)×(Option Nat×(List Value)×Nat)) hm 65 [] (fun s=>s.1) (fun (v20,(a17,a18,a19)) h=>(a17=none→v20=[])∧(a18.length=a19)∧Own vars h0 (((some gw),.cells [((encL 4 encNode) nodes),((encL 1 Value.string) names),((encL 3 encMem) mems),((encL 1 i64) outs),((encL 1 (encL 2 encLn)) fan),(.slice (some ⟨gv,0,none⟩) nv nv),(tailV 1 a17 a19 (v20.map i64))] false)::((some gv),.cells (flatC (v7.map n8)) false)::(a17,.cells (a18++flatC (v20.map i64)) false)::L) h) (fun (v20,(a17,a18,a19))=>[]) (fun hm=>?_) ?_
     ·refine gX ?_
      refine atF hm fun x24 hx24 hm=>?_;refine gX ?_
      refine lw 65 [0,47,48] (σ:=((List Nat)×Nat)×(Option Nat×(List Value)×Nat)) (fun s=>s.1) (fun ((v28,v29),(a25,a26,a27)) h=>(a25=none→v28=[])∧(a26.length=a27)∧Own vars h0 (((some gw),.cells [((encL 4 encNode) nodes),((encL 1 Value.string) names),((encL 3 encMem) mems),((encL 1 i64) outs),((encL 1 (encL 2 encLn)) fan),(.slice (some ⟨gv,0,none⟩) nv nv),(tailV 1 a25 a27 (v28.map i64))] false)::((some gv),.cells (flatC (v7.map n8)) false)::(a25,.cells (a26++flatC (v28.map i64)) false)::L) h) (fun ((v28,v29),(a25,a26,a27))=>[(49,(i64 v29))]) (((wait++([n]:(List Nat))),0),(a12,q14,o15)) hm ⟨ha13,hp16,(Own.selT [((some gv),.cells (flatC (v7.map n8)) false),((some gw),.cells [((encL 4 encNode) nodes),((encL 1 Value.string) names),((encL 3 encMem) mems),((encL 1 i64) outs),((encL 1 (encL 2 encLn)) fan),(.slice (some ⟨gv,0,none⟩) nv nv),(tailV 1 a12 o15 ((wait++([n]:(List Nat))).map i64))] false),(a12,.cells (q14++flatC ((wait++([n]:(List Nat))).map i64)) false)] O [1,0,2] (by decide))⟩ ?_
      clear hm;rintro⟨⟨v28,v29⟩,⟨a25,a26,a27⟩⟩ nx32 base h hm ⟨ha30,hp31,O⟩
      refine gX ?_
      refine br hm (fun hm=>?_) fun hm=>?_
      ·refine gX ?_
       refine atF hm fun x33 hx33 hm=>?_;refine gH ?_
       refine O.new (anew_alloc (l:=[(i64 0),(i64 0)]) rfl rfl rfl) fun g34 h O=>?_;refine gH ?_
       refine O.stC 2 (.head _) [(i64 x33.node),(i64 x33.pin)] fun h O=>?_;refine gX ?_
       first|refine⟨.inr (.inr (loadK rfl (O.at (.tail _ (.head _))) rfl rfl)),?_⟩|refine⟨.inr (.inl (by kernel_rfl)),?_⟩
       refine gX ?_
       refine O.buildLX (l:=([x33.node]:(List Nat))) (enc:=i64) (s:=1) (z:=(i64 0)) rfl rfl (by kernel_rfl) (by kernel_rfl) rfl rfl rfl rfl (fun _=>rfl) fun g36 h O=>?_;refine gH ?_
       refine Own.appendT (enc:=i64) (l:=v28) (new:=([x33.node]:(List Nat))) (s:=1) (b:=8) hp31 O (.tail _ (.tail _ (.tail _ (.tail _ (.head _))))) ha30 rfl rfl rfl rfl rfl rfl rfl rfl (YOk.own (O.at (.head _)) rfl (fun _=>rfl) rfl) (fun _=>rfl) (fun _=>rfl) (by decide) hm.1 fun a38 q40 o41 h hp42 ha39 O=>?_;refine gH ?_
       replace hm:=hm.2
       refine O.stC 1 (.tail _ (.tail _ (.head _))) [((encL 4 encNode) nodes),((encL 1 Value.string) names),((encL 3 encMem) mems),((encL 1 i64) outs),((encL 1 (encL 2 encLn)) fan),(.slice (some ⟨gv,0,none⟩) nv nv),(tailV 1 a38 o41 ((v28++([x33.node]:(List Nat))).map i64))] fun h O=>?_;refine gH ?_
       refine gX ?_
       refine aAdd hm fun hm=>?_;refine gH ?_
       exact jx (((v28++([x33.node]:(List Nat))),(v29+1)),(a38,q40,o41)) hm ⟨ha39,hp42,(Own.selT [((some g36),.cells (flatC (([x33.node]:(List Nat)).map i64)) false),((some g34),.cells [(i64 x33.node),(i64 x33.pin)] false),((some gw),.cells [((encL 4 encNode) nodes),((encL 1 Value.string) names),((encL 3 encMem) mems),((encL 1 i64) outs),((encL 1 (encL 2 encLn)) fan),(.slice (some ⟨gv,0,none⟩) nv nv),(tailV 1 a38 o41 ((v28++([x33.node]:(List Nat))).map i64))] false),((some gv),.cells (flatC (v7.map n8)) false),(a38,.cells (q40++flatC ((v28++([x33.node]:(List Nat))).map i64)) false)] O [2,3,4] (by decide))⟩
      ·refine gX ?_
       exact jx (v28,(a25,a26,a27)) hm ⟨ha30,hp31,O⟩
     ·clear hm;rintro⟨v20,⟨a17,a18,a19⟩⟩ base h hm ⟨ha21,hp22,O⟩
      refine gX ?_
      exact⟨true,v7,v20,a17,a18,a19,hm,rfl,ha21,hp22,O,trivial⟩
def work_gate_wp (nodes:List Node) (names:List ByteArray) (mems:List Memo) (outs:List Nat) (fan:List (List Ln)) (nv:Nat) (vals:List Nat) (wait:List Nat) (n:Nat) (K:(Bool×(List Nat)×(List Nat))→Prop):Prop :=
 ∃ x1,nodes[n]?=some x1∧1*x1.ins.length≤2 ^ 48∧x1.ins.length<2 ^ 63∧joinW (α:=(List Nat)) (fun k9=>loopW (S:=((List Nat)×Nat)) (fun (v10,v11) nx14=>((ltN v11 x1.ins.length)=true→∃ x15,x1.ins[v11]?=some x15∧x15<nv∧∃ x16,vals[x15]?=some x16∧v11<x1.ins.length∧∃ x17,v10[v11]?=some x17∧v11+1<2 ^ 63∧nx14 ((v10.set v11 x16),(v11+1)))∧((ltN v11 x1.ins.length)=false→k9 v10)) ((List.replicate x1.ins.length (0:Nat)),0)) (fun v6=>n<nv∧∃ x18,vals[n]?=some x18∧x1.ins.length=v6.length∧implies_Gate_wp x1.kind x18 v6 (fun r19=>joinW (α:=((List Nat)×(List Nat)×Bool)) (fun k29=>((!r19.2.2)=true→k29 (vals,wait,true))∧((!r19.2.2)=false→work_put_wp nodes names mems outs fan nv vals wait n r19.1 (fun (r30,x31,x35)=>k29 (x31,x35,(!r30))))) (fun (v21,v25,v26)=>(v26=true→K (false,v21,v25))∧(v26=false→joinW (α:=((List Nat)×(List Nat))) (fun k45=>loopW (S:=((List Nat)×(List Nat)×Nat)) (fun (v46,v50,v51) nx54=>((ltN v51 x1.ins.length)=true→∃ x55,x1.ins[v51]?=some x55∧∃ x56,r19.2.1[v51]?=some x56∧work_put_wp nodes names mems outs fan nv v46 v50 x55 x56 (fun (r57,x58,x62)=>((!r57)=true→K (false,x58,x62))∧((!r57)=false→v51+1<2 ^ 63∧nx54 (x58,x62,(v51+1)))))∧((ltN v51 x1.ins.length)=false→k45 (v46,v50))) (v21,v25,0)) (fun (v38,v42)=>K (true,v38,v42))))))
theorem work_gate_walk {nodes:List Node}{names:List ByteArray}{mems:List Memo}{outs:List Nat}{fan:List (List Ln)}{nv:Nat}{vals:List Nat}{wait:List Nat}{n:Nat}{gw:Nat}{gv:Nat}{a:Option Nat}{pre:List Value}{off:Nat}{L:List Slot}{K:(Bool×(List Nat)×(List Nat))→Prop} (hm:work_gate_wp nodes names mems outs fan nv vals wait n K) {h0 h:Heap} (ha:a=none→wait=[]) (hp:pre.length=off) (O:Own vars h0 (((some gw),.cells [((encL 4 encNode) nodes),((encL 1 Value.string) names),((encL 3 encMem) mems),((encL 1 i64) outs),((encL 1 (encL 2 encLn)) fan),(.slice (some ⟨gv,0,none⟩) nv nv),(tailV 1 a off (wait.map i64))] false)::((some gv),.cells (flatC (vals.map n8)) false)::(a,.cells (pre++flatC (wait.map i64)) false)::L) h):∃ v h',CallD Tryz.prog NG 44 ⟨[(.pointer (some ⟨gw,0,none⟩)),(i64 n)]⟩ h v h'∧∃ (u0:Bool) (w0:(List Nat)) (w4:(List Nat)) (b1:Option Nat) (b2:(List Value)) (b3:Nat),K (u0,w0,w4)∧v=(Value.bool u0)∧(b1=none→w4=[])∧(b2.length=b3)∧Own vars h0 (((some gw),.cells [((encL 4 encNode) nodes),((encL 1 Value.string) names),((encL 3 encMem) mems),((encL 1 i64) outs),((encL 1 (encL 2 encLn)) fan),(.slice (some ⟨gv,0,none⟩) nv nv),(tailV 1 b1 b3 (w4.map i64))] false)::((some gv),.cells (flatC (w0.map n8)) false)::(b1,.cells (b2++flatC (w4.map i64)) false)::L) h'∧True:=by
 unfold work_gate_wp at hm
 refine fg Tryz.func44 (Q:=fun v h'=>∃ (u0:Bool) (w0:(List Nat)) (w4:(List Nat)) (b1:Option Nat) (b2:(List Value)) (b3:Nat),K (u0,w0,w4)∧v=(Value.bool u0)∧(b1=none→w4=[])∧(b2.length=b3)∧Own vars h0 (((some gw),.cells [((encL 4 encNode) nodes),((encL 1 Value.string) names),((encL 3 encMem) mems),((encL 1 i64) outs),((encL 1 (encL 2 encLn)) fan),(.slice (some ⟨gv,0,none⟩) nv nv),(tailV 1 b1 b3 (w4.map i64))] false)::((some gv),.cells (flatC (w0.map n8)) false)::(b1,.cells (b2++flatC (w4.map i64)) false)::L) h'∧True) ?_;conv=>whnf
 refine gX ?_
 refine atF hm fun x1 hx1 hm=>?_;refine gH ?_
 refine O.new (anew_alloc (l:=[(n8 0),(.slice none 0 0),(i64 0),(i64 0)]) rfl rfl rfl) fun g2 h O=>?_;refine gH ?_
 refine O.stC 4 (.head _) [(n8 x1.kind),((encL 1 i64) x1.ins),(i64 x1.mem),(i64 x1.bit)] fun h O=>?_;refine gX ?_
 refine O.mkL (enc:=n8) 1 1 0 hm fun g4 h O hm=>?_;refine gH ?_
 refine jn hm 86 [0,1,5,6] (fun s=>s) (fun v6 h=>(a=none→wait=[])∧(pre.length=off)∧Own vars h0 (((some gw),.cells [((encL 4 encNode) nodes),((encL 1 Value.string) names),((encL 3 encMem) mems),((encL 1 i64) outs),((encL 1 (encL 2 encLn)) fan),(.slice (some ⟨gv,0,none⟩) nv nv),(tailV 1 a off (wait.map i64))] false)::((some gv),.cells (flatC (vals.map n8)) false)::(a,.cells (pre++flatC (wait.map i64)) false)::((some g2),.cells [(n8 x1.kind),((encL 1 i64) x1.ins),(i64 x1.mem),(i64 x1.bit)] false)::((some g4),.cells (flatC (v6.map n8)) false)::L) h) (fun v6=>[]) (fun hm=>?_) ?_
 ·refine gX ?_
  refine lw 86 [0,1,5,6,27,28] (σ:=((List Nat)×Nat)) (fun s=>s) (fun (v10,v11) h=>(a=none→wait=[])∧(pre.length=off)∧Own vars h0 (((some gw),.cells [((encL 4 encNode) nodes),((encL 1 Value.string) names),((encL 3 encMem) mems),((encL 1 i64) outs),((encL 1 (encL 2 encLn)) fan),(.slice (some ⟨gv,0,none⟩) nv nv),(tailV 1 a off (wait.map i64))] false)::((some gv),.cells (flatC (vals.map n8)) false)::(a,.cells (pre++flatC (wait.map i64)) false)::((some g2),.cells [(n8 x1.kind),((encL 1 i64) x1.ins),(i64 x1.mem),(i64 x1.bit)] false)::((some g4),.cells (flatC (v10.map n8)) false)::L) h) (fun (v10,v11)=>[(29,(i64 v11))]) ((List.replicate x1.ins.length (0:Nat)),0) hm ⟨ha,hp,(Own.selT [((some g4),.cells (flatC ((List.replicate x1.ins.length (0:Nat)).map n8)) false),((some g2),.cells [(n8 x1.kind),((encL 1 i64) x1.ins),(i64 x1.mem),(i64 x1.bit)] false),((some gw),.cells [((encL 4 encNode) nodes),((encL 1 Value.string) names),((encL 3 encMem) mems),((encL 1 i64) outs),((encL 1 (encL 2 encLn)) fan),(.slice (some ⟨gv,0,none⟩) nv nv),(tailV 1 a off (wait.map i64))] false),((some gv),.cells (flatC (vals.map n8)) false),(a,.cells (pre++flatC (wait.map i64)) false)] O [2,3,4,1,0] (by decide))⟩ ?_
  clear hm;rintro⟨v10,v11⟩ nx14 base h hm ⟨ha12,hp13,O⟩
  refine gX ?_
  refine br hm (fun hm=>?_) fun hm=>?_
  ·refine gX ?_
   refine atF hm fun x15 hx15 hm=>?_;refine gX ?_
   refine ix 1 hm fun x16 hx16 hm=>?_;refine gH ?_
   refine ldE (s:=1) (i:=0) (O.at (.tail _ (.head _))) hx16 ?_;refine gH ?_
   refine ix 1 hm fun x17 hx17 hm=>?_;refine gH ?_
   refine O.stE 1 (.tail _ (.tail _ (.tail _ (.tail _ (.head _))))) hx17 x16 fun h O=>?_;refine gX ?_
   refine aAdd hm fun hm=>?_;refine gH ?_
   exact jx ((v10.set v11 x16),(v11+1)) hm ⟨ha12,hp13,O⟩
  ·refine gX ?_
   exact jx v10 hm ⟨ha12,hp13,O⟩
 ·clear hm;rintro v6 base h hm ⟨ha7,hp8,O⟩
  refine gX ?_
  refine ldO (O.at (.tail _ (.tail _ (.tail _ (.head _))))) ?_;refine gH ?_
  first|refine⟨.inr (.inr (loadK rfl (O.at (.head _)) rfl rfl)),?_⟩|refine⟨.inr (.inl (by kernel_rfl)),?_⟩
  refine gX ?_
  refine ix 1 hm fun x18 hx18 hm=>?_;refine gH ?_
  refine⟨_,loadK rfl (O.at (.tail _ (.head _))) rfl (cell_map (enc:=n8) (s:=1) (k:=0) (fun _=>rfl) hx18 rfl),?_⟩;refine gH ?_
  obtain⟨hn20,hm⟩:=hm
  refine O.useL (fun _ hb=>implies_Gate_walk hm hb) (.tail _ (.tail _ (.tail _ (.tail _ (.head _))))) hn20 (fun _=>rfl) (i:=2) rfl (by kernel_rfl) (fun h2 q=>(LLe.cons (VLe.refl _ _) (LLe.cons (VLe.refl _ _) (LLe.cons (q) (LLe.nil _))))) (fun r19 h hm' O=>?_);replace hm:=hm';refine gH ?_
  refine⟨.inr (by kernel_rfl),?_⟩;refine gH ?_
  apply Cs;conv=>whnf
  refine jn (σ:=((List Nat)×(List Nat)×Bool)×(Option Nat×(List Value)×Nat)) hm 86 [0,5,10] (fun s=>s.1) (fun ((v21,v25,v26),(a22,a23,a24)) h=>(a22=none→v25=[])∧(a23.length=a24)∧Own vars h0 (((some gw),.cells [((encL 4 encNode) nodes),((encL 1 Value.string) names),((encL 3 encMem) mems),((encL 1 i64) outs),((encL 1 (encL 2 encLn)) fan),(.slice (some ⟨gv,0,none⟩) nv nv),(tailV 1 a22 a24 (v25.map i64))] false)::((some gv),.cells (flatC (v21.map n8)) false)::(a22,.cells (a23++flatC (v25.map i64)) false)::((some g2),.cells [(n8 x1.kind),((encL 1 i64) x1.ins),(i64 x1.mem),(i64 x1.bit)] false)::L) h) (fun ((v21,v25,v26),(a22,a23,a24))=>[(68,(.bool v26))]) (fun hm=>?_) ?_
  ·refine gX ?_
   refine br hm (fun hm=>?_) fun hm=>?_
   ·refine gX ?_
    exact jx ((vals,wait,true),(a,pre,off)) hm ⟨ha7,hp8,(Own.selT [((some gw),.cells [((encL 4 encNode) nodes),((encL 1 Value.string) names),((encL 3 encMem) mems),((encL 1 i64) outs),((encL 1 (encL 2 encLn)) fan),(.slice (some ⟨gv,0,none⟩) nv nv),(tailV 1 a off (wait.map i64))] false),((some gv),.cells (flatC (vals.map n8)) false),(a,.cells (pre++flatC (wait.map i64)) false),((some g2),.cells [(n8 x1.kind),((encL 1 i64) x1.ins),(i64 x1.mem),(i64 x1.bit)] false),((some g4),.cells (flatC (v6.map n8)) true)] O [0,1,2,3] (by decide))⟩
   ·refine gX ?_
    obtain⟨_,h,hcall,r30,x31,x35,a32,a33,a34,hm,rfl,ha36,hp37,O,_⟩:=work_put_walk hm ha7 hp8 O
    refine⟨_,_,hcall,?_⟩;refine gH ?_
    exact jx ((x31,x35,(!r30)),(a32,a33,a34)) hm ⟨ha36,hp37,(Own.selT [((some gw),.cells [((encL 4 encNode) nodes),((encL 1 Value.string) names),((encL 3 encMem) mems),((encL 1 i64) outs),((encL 1 (encL 2 encLn)) fan),(.slice (some ⟨gv,0,none⟩) nv nv),(tailV 1 a32 a34 (x35.map i64))] false),((some gv),.cells (flatC (x31.map n8)) false),(a32,.cells (a33++flatC (x35.map i64)) false),((some g2),.cells [(n8 x1.kind),((encL 1 i64) x1.ins),(i64 x1.mem),(i64 x1.bit)] false),((some g4),.cells (flatC (v6.map n8)) true)] O [0,1,2,3] (by decide))⟩
  ·clear hm;rintro⟨⟨v21,v25,v26⟩,⟨a22,a23,a24⟩⟩ base h hm ⟨ha27,hp28,O⟩
   refine gX ?_
   refine br hm (fun hm=>?_) fun hm=>?_
   ·refine gX ?_
    exact⟨false,v21,v25,a22,a23,a24,hm,rfl,ha27,hp28,(Own.selT [((some gw),.cells [((encL 4 encNode) nodes),((encL 1 Value.string) names),((encL 3 encMem) mems),((encL 1 i64) outs),((encL 1 (encL 2 encLn)) fan),(.slice (some ⟨gv,0,none⟩) nv nv),(tailV 1 a22 a24 (v25.map i64))] false),((some gv),.cells (flatC (v21.map n8)) false),(a22,.cells (a23++flatC (v25.map i64)) false),((some g2),.cells [(n8 x1.kind),((encL 1 i64) x1.ins),(i64 x1.mem),(i64 x1.bit)] false)] O [0,1,2] (by decide)),trivial⟩
   ·apply Cs;conv=>whnf
    refine jn (σ:=((List Nat)×(List Nat))×(Option Nat×(List Value)×Nat)) hm 86 [] (fun s=>s.1) (fun ((v38,v42),(a39,a40,a41)) h=>(a39=none→v42=[])∧(a40.length=a41)∧Own vars h0 (((some gw),.cells [((encL 4 encNode) nodes),((encL 1 Value.string) names),((encL 3 encMem) mems),((encL 1 i64) outs),((encL 1 (encL 2 encLn)) fan),(.slice (some ⟨gv,0,none⟩) nv nv),(tailV 1 a39 a41 (v42.map i64))] false)::((some gv),.cells (flatC (v38.map n8)) false)::(a39,.cells (a40++flatC (v42.map i64)) false)::L) h) (fun ((v38,v42),(a39,a40,a41))=>[]) (fun hm=>?_) ?_
    ·refine gX ?_
     refine ldO (O.at (.tail _ (.tail _ (.tail _ (.head _))))) ?_;refine gX ?_
     refine lw 86 [0,10,70,71] (σ:=((List Nat)×(List Nat)×Nat)×(Option Nat×(List Value)×Nat)) (fun s=>s.1) (fun ((v46,v50,v51),(a47,a48,a49)) h=>(a47=none→v50=[])∧(a48.length=a49)∧Own vars h0 (((some gw),.cells [((encL 4 encNode) nodes),((encL 1 Value.string) names),((encL 3 encMem) mems),((encL 1 i64) outs),((encL 1 (encL 2 encLn)) fan),(.slice (some ⟨gv,0,none⟩) nv nv),(tailV 1 a47 a49 (v50.map i64))] false)::((some gv),.cells (flatC (v46.map n8)) false)::(a47,.cells (a48++flatC (v50.map i64)) false)::L) h) (fun ((v46,v50,v51),(a47,a48,a49))=>[(72,(i64 v51))]) ((v21,v25,0),(a22,a23,a24)) hm ⟨ha27,hp28,(Own.selT [((some gw),.cells [((encL 4 encNode) nodes),((encL 1 Value.string) names),((encL 3 encMem) mems),((encL 1 i64) outs),((encL 1 (encL 2 encLn)) fan),(.slice (some ⟨gv,0,none⟩) nv nv),(tailV 1 a22 a24 (v25.map i64))] false),((some gv),.cells (flatC (v21.map n8)) false),(a22,.cells (a23++flatC (v25.map i64)) false),((some g2),.cells [(n8 x1.kind),((encL 1 i64) x1.ins),(i64 x1.mem),(i64 x1.bit)] false)] O [0,1,2] (by decide))⟩ ?_
     clear hm;rintro⟨⟨v46,v50,v51⟩,⟨a47,a48,a49⟩⟩ nx54 base h hm ⟨ha52,hp53,O⟩
     refine gX ?_
     refine br hm (fun hm=>?_) fun hm=>?_
     ·refine gX ?_
      refine atF hm fun x55 hx55 hm=>?_;refine gX ?_
      refine atF hm fun x56 hx56 hm=>?_;refine gH ?_
      obtain⟨_,h,hcall,r57,x58,x62,a59,a60,a61,hm,rfl,ha63,hp64,O,_⟩:=work_put_walk hm ha52 hp53 O
      refine⟨_,_,hcall,?_⟩;refine gX ?_
      refine br hm (fun hm=>?_) fun hm=>?_
      ·refine gX ?_
       exact⟨false,x58,x62,a59,a60,a61,hm,rfl,ha63,hp64,O,trivial⟩
      ·refine gX ?_
       refine aAdd hm fun hm=>?_;refine gH ?_
       exact jx ((x58,x62,(v51+1)),(a59,a60,a61)) hm ⟨ha63,hp64,O⟩
     ·refine gX ?_
      exact jx ((v46,v50),(a47,a48,a49)) hm ⟨ha52,hp53,O⟩
    ·clear hm;rintro⟨⟨v38,v42⟩,⟨a39,a40,a41⟩⟩ base h hm ⟨ha43,hp44,O⟩
     refine gX ?_
     exact⟨true,v38,v42,a39,a40,a41,hm,rfl,ha43,hp44,O,trivial⟩
def implies_Close_wp (p0:Circ) (p1:(List Asg)) (K:((List Nat)×Bool×Nat)→Prop):Prop :=
 implies_Plain_wp p0 (fun r1=>((neN r1 0)=true→K ([],false,r1))∧((neN r1 0)=false→joinW (α:=Unit) (fun k2=>loopW (S:=Nat) (fun v3 nx4=>((ltN v3 p1.length)=true→∃ x5,p1[v3]?=some x5∧joinW (α:=Bool) (fun k9=>((ltN x5.net 0)=true→k9 true)∧((ltN x5.net 0)=false→((!ltN x5.net p0.nodes.length)=true→k9 true)∧((!ltN x5.net p0.nodes.length)=false→logic_Known_wp x5.value (fun r10=>k9 (!r10))))) (fun v8=>(v8=true→K ([],false,1))∧(v8=false→v3+1<2 ^ 63∧nx4 (v3+1))))∧((ltN v3 p1.length)=false→k2 ())) 0) (fun _=>netlists_Fanout_wp p0 (fun r11=>1*p0.nodes.length≤2 ^ 48∧p0.nodes.length<2 ^ 63∧joinW (α:=((List Nat)×(List Nat))) (fun k24=>loopW (S:=((List Nat)×(List Nat)×Nat)) (fun (v25,v29,v30) nx33=>((ltN v30 p0.nodes.length)=true→v30<p0.nodes.length∧∃ x34,v25[v30]?=some x34∧(v29.length+([v30]:(List Nat)).length)*8≤2 ^ 47∧v30+1<2 ^ 63∧nx33 ((v25.set v30 2),(v29++([v30]:(List Nat))),(v30+1)))∧((ltN v30 p0.nodes.length)=false→k24 (v25,v29))) ((List.replicate p0.nodes.length (0:Nat)),([]:List Nat),0)) (fun (v17,v21)=>joinW (α:=((List Nat)×(List Nat))) (fun k47=>loopW (S:=((List Nat)×(List Nat)×Nat)) (fun (v48,v52,v53) nx56=>((ltN v53 p1.length)=true→∃ x57,p1[v53]?=some x57∧work_put_wp p0.nodes p0.names p0.mems p0.outs r11 p0.nodes.length v48 v52 x57.net x57.value (fun (r60,x61,x65)=>((!r60)=true→K ([],false,0))∧((!r60)=false→v53+1<2 ^ 63∧nx56 (x61,x65,(v53+1)))))∧((ltN v53 p1.length)=false→k47 (v48,v52))) (v17,v21,0)) (fun (v40,v44)=>joinW (α:=((List Nat)×(List Nat))) (fun k75=>loopW (S:=((List Nat)×(List Nat))) (fun (v76,v80) nx83=>((ltN 0 v80.length)=true→∃ x84,v80[0]?=some x84∧1≤v80.length∧∃ x87,p0.nodes[x84]?=some x87∧implies_free_wp x87.kind (fun r88=>(r88=true→nx83 (v76,(v80.drop 1)))∧(r88=false→work_gate_wp p0.nodes p0.names p0.mems p0.outs r11 p0.nodes.length v76 (v80.drop 1) x84 (fun (r89,x90,x94)=>((!r89)=true→K ([],false,0))∧((!r89)=false→nx83 (x90,x94))))))∧((ltN 0 v80.length)=false→k75 (v76,v80))) (v40,v44)) (fun (v68,_v72)=>p0.nodes.length=v68.length∧0<v68.length∧K (v68,true,0))))))))
theorem implies_Close_walkO {p0:Circ}{p1:(List Asg)}{K:((List Nat)×Bool×Nat)→Prop} (hm:implies_Close_wp p0 p1 K) {h0:Heap} (hB:HasB vars h0):∃ v h',CallD Tryz.prog NG 14 ⟨[encCirc p0,(encL 2 encAsg) p1]⟩ h0 v h'∧OwnRes vars h0 K (fun (r:((List Nat)×Bool×Nat)) a=>Value.tuple ⟨[clipV a (r.1.map n8),Value.bool (r.2.1),i64 (r.2.2)]⟩) (fun (r:((List Nat)×Bool×Nat))=>r.1) n8 true v h':=by
 unfold implies_Close_wp at hm
 refine fg Tryz.func14 (Q:=OwnRes vars h0 K (fun (r:((List Nat)×Bool×Nat)) a=>Value.tuple ⟨[clipV a (r.1.map n8),Value.bool (r.2.1),i64 (r.2.2)]⟩) (fun (r:((List Nat)×Bool×Nat))=>r.1) n8 true) ?_;have O:=Own.start hB;conv=>whnf
 refine gX ?_
 refine fz ?_;refine gX ?_
 refine ca (implies_Plain_walk hm O.has) fun r1 hm=>?_;refine gX ?_
 refine br hm (fun hm=>?_) fun hm=>?_
 ·refine gX ?_
  have O:=O.addNil (.cells (flatC (([]:(List Nat)).map n8)) false)
  exact⟨([],false,r1),none,hm,VLe.refl _ _,(fun _=>rfl),(fun _ _=>rfl),O.sel [0] (by decide)⟩
 ·apply Cs;conv=>whnf
  refine jn hm 125 [1,2] (fun s=>s) (fun _ h=>Own vars h0 [] h) (fun _=>[]) (fun hm=>?_) ?_
  ·refine gX ?_
   refine lw 125 [1,2,20,21] (σ:=Nat) (fun s=>s) (fun v3 h=>Own vars h0 [] h) (fun v3=>[(22,(i64 v3))]) 0 hm O ?_
   clear hm;rintro v3 nx4 base h hm O
   refine gX ?_
   refine br hm (fun hm=>?_) fun hm=>?_
   ·refine gX ?_
    refine atF hm fun x5 hx5 hm=>?_;refine gH ?_
    refine O.new (anew_alloc (l:=[(i64 0),(n8 0)]) rfl rfl rfl) fun g6 h O=>?_;refine gH ?_
    refine O.stC 2 (.head _) [(i64 x5.net),(n8 x5.value)] fun h O=>?_;refine gH ?_
    refine jn hm 125 [1,2,20,21,22] (fun s=>s) (fun v8 h=>Own vars h0 [] h) (fun v8=>[(42,(.bool v8))]) (fun hm=>?_) ?_
    ·refine gX ?_
     refine br hm (fun hm=>?_) fun hm=>?_
     ·refine gX ?_
      refine bt ?_;refine gH ?_
      exact jx true hm (O.sel [] (by decide))
     ·refine gX ?_
      refine br hm (fun hm=>?_) fun hm=>?_
      ·refine gX ?_
       exact jx true hm (O.sel [] (by decide))
      ·refine gX ?_
       refine ca (logic_Known_walk hm O.has) fun r10 hm=>?_;refine gH ?_
       exact jx (!r10) hm (O.sel [] (by decide))
    ·clear hm;rintro v8 base h hm O
     refine gX ?_
     refine br hm (fun hm=>?_) fun hm=>?_
     ·refine gX ?_
      have O:=O.addNil (.cells (flatC (([]:(List Nat)).map n8)) false)
      exact⟨([],false,1),none,hm,VLe.refl _ _,(fun _=>rfl),(fun _ _=>rfl),O.sel [0] (by decide)⟩
     ·refine gX ?_
      refine aAdd hm fun hm=>?_;refine gH ?_
      exact jx (v3+1) hm O
   ·refine gX ?_
    exact jx () hm O
  ·clear hm;rintro _ base h hm O
   refine gX ?_
   first|refine⟨.inr (.inr (rfl)),?_⟩|refine⟨.inr (.inl (by kernel_rfl)),?_⟩
   refine gX ?_
   first|refine⟨.inr (.inr (rfl)),?_⟩|refine⟨.inr (.inl (by kernel_rfl)),?_⟩
   refine gX ?_
   refine ca (netlists_Fanout_walk hm O.has) fun r11 hm=>?_;refine gH ?_
   refine⟨.inl (Ext.refl _),?_⟩;refine gH ?_
   first|refine⟨.inr (.inr (rfl)),?_⟩|refine⟨.inr (.inl (by kernel_rfl)),?_⟩
   refine gX ?_
   refine O.makeLX (enc:=n8) (z:=0) (b:=1) (s:=1) (n:=p0.nodes.length) rfl rfl rfl rfl rfl (by decide) (by kernel_rfl) rfl rfl hm.1 hm.2.1 fun g12 h O=>?_;refine gH ?_
   replace hm:=hm.2.2
   have O:=O.addNil (.cells ([]++flatC ((([]:List Nat)).map i64)) false)
   refine O.newX (boxK rfl) fun g14 h O=>?_;refine gH ?_
   refine jn (σ:=((List Nat)×(List Nat))×(Option Nat×(List Value)×Nat)) hm 125 [1,2,10] (fun s=>s.1) (fun ((v17,v21),(a18,a19,a20)) h=>(a18=none→v21=[])∧(a19.length=a20)∧Own vars h0 [((some g14),.cells [((encL 4 encNode) p0.nodes),((encL 1 Value.string) p0.names),((encL 3 encMem) p0.mems),((encL 1 i64) p0.outs),((encL 1 (encL 2 encLn)) r11),(.slice (some ⟨g12,0,none⟩) p0.nodes.length p0.nodes.length),(tailV 1 a18 a20 (v21.map i64))] false),((some g12),.cells (flatC (v17.map n8)) false),(a18,.cells (a19++flatC (v21.map i64)) false)] h) (fun ((v17,v21),(a18,a19,a20))=>[]) (fun hm=>?_) ?_
   ·refine gX ?_
    refine lw 125 [1,2,10,55] (σ:=((List Nat)×(List Nat)×Nat)×(Option Nat×(List Value)×Nat)) (fun s=>s.1) (fun ((v25,v29,v30),(a26,a27,a28)) h=>(a26=none→v29=[])∧(a27.length=a28)∧Own vars h0 [((some g14),.cells [((encL 4 encNode) p0.nodes),((encL 1 Value.string) p0.names),((encL 3 encMem) p0.mems),((encL 1 i64) p0.outs),((encL 1 (encL 2 encLn)) r11),(.slice (some ⟨g12,0,none⟩) p0.nodes.length p0.nodes.length),(tailV 1 a26 a28 (v29.map i64))] false),((some g12),.cells (flatC (v25.map n8)) false),(a26,.cells (a27++flatC (v29.map i64)) false)] h) (fun ((v25,v29,v30),(a26,a27,a28))=>[(56,(i64 v30))]) (((List.replicate p0.nodes.length (0:Nat)),([]:List Nat),0),(none,[],0)) hm ⟨(fun _=>rfl),rfl,(O.sel [0,2,1] (by decide))⟩ ?_
    clear hm;rintro⟨⟨v25,v29,v30⟩,⟨a26,a27,a28⟩⟩ nx33 base h hm ⟨ha31,hp32,O⟩
    refine gX ?_
    refine br hm (fun hm=>?_) fun hm=>?_
    ·refine gX ?_
     refine ix 1 hm fun x34 hx34 hm=>?_;refine gH ?_
     refine O.stE 1 (.tail _ (.head _)) hx34 2 fun h O=>?_;refine gX ?_
     refine fz ?_;refine gH ?_
     refine Own.appendT (enc:=i64) (l:=v29) (new:=([v30]:(List Nat))) (s:=1) (b:=8) hp32 O (.tail _ (.tail _ (.head _))) ha31 rfl rfl rfl rfl rfl rfl rfl rfl (YOk.fl rfl) (fun _=>rfl) (fun _=>rfl) (by decide) hm.1 fun a35 q37 o38 h hp39 ha36 O=>?_;refine gH ?_
     replace hm:=hm.2
     refine O.stC 1 (.head _) [((encL 4 encNode) p0.nodes),((encL 1 Value.string) p0.names),((encL 3 encMem) p0.mems),((encL 1 i64) p0.outs),((encL 1 (encL 2 encLn)) r11),(.slice (some ⟨g12,0,none⟩) p0.nodes.length p0.nodes.length),(tailV 1 a35 o38 ((v29++([v30]:(List Nat))).map i64))] fun h O=>?_;refine gX ?_
     refine aAdd hm fun hm=>?_;refine gH ?_
     exact jx (((v25.set v30 2),(v29++([v30]:(List Nat))),(v30+1)),(a35,q37,o38)) hm ⟨ha36,hp39,O⟩
    ·refine gX ?_
     exact jx ((v25,v29),(a26,a27,a28)) hm ⟨ha31,hp32,O⟩
   ·clear hm;rintro⟨⟨v17,v21⟩,⟨a18,a19,a20⟩⟩ base h hm ⟨ha22,hp23,O⟩
    conv=>whnf
    refine jn (σ:=((List Nat)×(List Nat))×(Option Nat×(List Value)×Nat)) hm 125 [2,10] (fun s=>s.1) (fun ((v40,v44),(a41,a42,a43)) h=>(a41=none→v44=[])∧(a42.length=a43)∧Own vars h0 [((some g14),.cells [((encL 4 encNode) p0.nodes),((encL 1 Value.string) p0.names),((encL 3 encMem) p0.mems),((encL 1 i64) p0.outs),((encL 1 (encL 2 encLn)) r11),(.slice (some ⟨g12,0,none⟩) p0.nodes.length p0.nodes.length),(tailV 1 a41 a43 (v44.map i64))] false),((some g12),.cells (flatC (v40.map n8)) false),(a41,.cells (a42++flatC (v44.map i64)) false)] h) (fun ((v40,v44),(a41,a42,a43))=>[]) (fun hm=>?_) ?_
    ·refine gX ?_
     refine lw 125 [2,10,76,77] (σ:=((List Nat)×(List Nat)×Nat)×(Option Nat×(List Value)×Nat)) (fun s=>s.1) (fun ((v48,v52,v53),(a49,a50,a51)) h=>(a49=none→v52=[])∧(a50.length=a51)∧Own vars h0 [((some g14),.cells [((encL 4 encNode) p0.nodes),((encL 1 Value.string) p0.names),((encL 3 encMem) p0.mems),((encL 1 i64) p0.outs),((encL 1 (encL 2 encLn)) r11),(.slice (some ⟨g12,0,none⟩) p0.nodes.length p0.nodes.length),(tailV 1 a49 a51 (v52.map i64))] false),((some g12),.cells (flatC (v48.map n8)) false),(a49,.cells (a50++flatC (v52.map i64)) false)] h) (fun ((v48,v52,v53),(a49,a50,a51))=>[(78,(i64 v53))]) ((v17,v21,0),(a18,a19,a20)) hm ⟨ha22,hp23,O⟩ ?_
     clear hm;rintro⟨⟨v48,v52,v53⟩,⟨a49,a50,a51⟩⟩ nx56 base h hm ⟨ha54,hp55,O⟩
     refine gX ?_
     refine br hm (fun hm=>?_) fun hm=>?_
     ·refine gX ?_
      refine atF hm fun x57 hx57 hm=>?_;refine gH ?_
      refine O.new (anew_alloc (l:=[(i64 0),(n8 0)]) rfl rfl rfl) fun g58 h O=>?_;refine gH ?_
      refine O.stC 2 (.head _) [(i64 x57.net),(n8 x57.value)] fun h O=>?_;refine gX ?_
      obtain⟨_,h,hcall,r60,x61,x65,a62,a63,a64,hm,rfl,ha66,hp67,O,_⟩:=work_put_walk hm ha54 hp55 (O.sel [1,2,3,0] (by decide))
      refine⟨_,_,hcall,?_⟩;refine gX ?_
      refine br hm (fun hm=>?_) fun hm=>?_
      ·refine gX ?_
       have O:=O.addNil (.cells (flatC (([]:(List Nat)).map n8)) false)
       exact⟨([],false,0),none,hm,VLe.refl _ _,(fun _=>rfl),(fun _ _=>rfl),O.sel [0] (by decide)⟩
      ·refine gX ?_
       refine aAdd hm fun hm=>?_;refine gH ?_
       exact jx ((x61,x65,(v53+1)),(a62,a63,a64)) hm ⟨ha66,hp67,(O.sel [0,1,2] (by decide))⟩
     ·refine gX ?_
      exact jx ((v48,v52),(a49,a50,a51)) hm ⟨ha54,hp55,O⟩
    ·clear hm;rintro⟨⟨v40,v44⟩,⟨a41,a42,a43⟩⟩ base h hm ⟨ha45,hp46,O⟩
     conv=>whnf
     apply Cs;conv=>whnf
     apply Cs;conv=>whnf
     refine jn (σ:=((List Nat)×(List Nat))×(Option Nat×(List Value)×Nat)) hm 125 [10] (fun s=>s.1) (fun ((v68,v72),(a69,a70,a71)) h=>(a69=none→v72=[])∧(a70.length=a71)∧Own vars h0 [((some g14),.cells [((encL 4 encNode) p0.nodes),((encL 1 Value.string) p0.names),((encL 3 encMem) p0.mems),((encL 1 i64) p0.outs),((encL 1 (encL 2 encLn)) r11),(.slice (some ⟨g12,0,none⟩) p0.nodes.length p0.nodes.length),(tailV 1 a69 a71 (v72.map i64))] false),((some g12),.cells (flatC (v68.map n8)) false),(a69,.cells (a70++flatC (v72.map i64)) false)] h) (fun ((v68,v72),(a69,a70,a71))=>[]) (fun hm=>?_) ?_
     ·refine gX ?_
      refine lw 125 [2,10] (σ:=((List Nat)×(List Nat))×(Option Nat×(List Value)×Nat)) (fun s=>s.1) (fun ((v76,v80),(a77,a78,a79)) h=>(a77=none→v80=[])∧(a78.length=a79)∧Own vars h0 [((some g14),.cells [((encL 4 encNode) p0.nodes),((encL 1 Value.string) p0.names),((encL 3 encMem) p0.mems),((encL 1 i64) p0.outs),((encL 1 (encL 2 encLn)) r11),(.slice (some ⟨g12,0,none⟩) p0.nodes.length p0.nodes.length),(tailV 1 a77 a79 (v80.map i64))] false),((some g12),.cells (flatC (v76.map n8)) false),(a77,.cells (a78++flatC (v80.map i64)) false)] h) (fun ((v76,v80),(a77,a78,a79))=>[]) ((v40,v44),(a41,a42,a43)) hm ⟨ha45,hp46,O⟩ ?_
      clear hm;rintro⟨⟨v76,v80⟩,⟨a77,a78,a79⟩⟩ nx83 base h hm ⟨ha81,hp82,O⟩
      refine gX ?_
      refine br hm (fun hm=>?_) fun hm=>?_
      ·refine gX ?_
       obtain⟨x84,hx84,hm⟩:=hm
       have h9:=hm
       obtain⟨g85,rfl⟩:=addr_some ha81 hx84
       replace hm:=h9
       refine tailAtK (s:=1) (enc:=i64) (o:=a79) (j:=0) rfl rfl rfl rfl hx84 ?_;refine gH ?_
       refine⟨_,loadK rfl (O.at (.tail _ (.tail _ (.head _)))) rfl (tail_cell (enc:=i64) (s:=1) (k:=0) hp82 (fun _=>rfl) hx84 rfl),?_⟩;refine gX ?_
       refine tailFromK (s:=1) (enc:=i64) (l:=v80) (o:=a79) (k:=1) rfl rfl rfl rfl hm.1 ?_;refine gH ?_
       rw[tail_split (enc:=i64) (l:=v80) 1] at O
       have hp86:=tail_len (enc:=i64) (l:=v80) (s:=1) (k:=1) (fun _=>rfl) hp82 hm.1
       replace hm:=hm.2
       refine O.stC 1 (.head _) [((encL 4 encNode) p0.nodes),((encL 1 Value.string) p0.names),((encL 3 encMem) p0.mems),((encL 1 i64) p0.outs),((encL 1 (encL 2 encLn)) r11),(.slice (some ⟨g12,0,none⟩) p0.nodes.length p0.nodes.length),(tailV 1 (some g85) (a79+1*1) ((v80.drop 1).map i64))] fun h O=>?_;refine gX ?_
       refine atF hm fun x87 hx87 hm=>?_;refine gH ?_
       refine ca (implies_free_walk hm O.has) fun r88 hm=>?_;refine gX ?_
       refine br hm (fun hm=>?_) fun hm=>?_
       ·refine gX ?_
        exact jx ((v76,(v80.drop 1)),((some g85),(a78++flatC ((v80.take 1).map i64)),(a79+1*1))) hm ⟨someNone,hp86,O⟩
       ·refine gX ?_
        obtain⟨_,h,hcall,r89,x90,x94,a91,a92,a93,hm,rfl,ha95,hp96,O,_⟩:=work_gate_walk hm someNone hp86 O
        refine⟨_,_,hcall,?_⟩;refine gX ?_
        refine br hm (fun hm=>?_) fun hm=>?_
        ·refine gX ?_
         have O:=O.addNil (.cells (flatC (([]:(List Nat)).map n8)) false)
         exact⟨([],false,0),none,hm,VLe.refl _ _,(fun _=>rfl),(fun _ _=>rfl),O.sel [0] (by decide)⟩
        ·refine gX ?_
         exact jx ((x90,x94),(a91,a92,a93)) hm ⟨ha95,hp96,O⟩
      ·refine gX ?_
       exact jx ((v76,v80),(a77,a78,a79)) hm ⟨ha81,hp82,O⟩
     ·clear hm;rintro⟨⟨v68,v72⟩,⟨a69,a70,a71⟩⟩ base h hm ⟨ha73,hp74,O⟩
      refine gX ?_
      obtain⟨hn97,hp98,hm⟩:=hm
      exact⟨(v68,true,0),some g12,hm,VLe.of_eq (congrArg (fun z=>Value.tuple ⟨[z,(.bool true),(i64 0)]⟩) (clipE (l:=v68) (enc:=n8) (g:=g12) hn97)),(fun e=>nomatch e),someIff hp98,O.sel [1] (by decide)⟩
theorem implies_Close_walk {p0:Circ}{p1:(List Asg)}{K:((List Nat)×Bool×Nat)→Prop} (hm:implies_Close_wp p0 p1 K) {h0:Heap} (hB:HasB vars h0):∃ r,K r∧CallD Tryz.prog NG 14 ⟨[encCirc p0,(encL 2 encAsg) p1]⟩ h0 ((fun (r:((List Nat)×Bool×Nat))=>Value.tuple ⟨[(encL 1 n8) (r.1),Value.bool (r.2.1),i64 (r.2.2)]⟩) r) h0 :=
 valO (implies_Close_walkO hm hB) (fk Tryz.func14) (fun r=>PureV.tup (AllPure.cons (pureL (fun _=>AllPure.cons (PureV.flat rfl) AllPure.nil)) (AllPure.cons (PureV.flat rfl) (AllPure.cons (PureV.flat rfl) (AllPure.nil))))) (fun r a h1 h3 O F ha h2=>VLe.tup (LLe.cons (O.clipL F (Nat.le_refl _) (.head _) ha (fun _=>rfl)) (LLe.cons (VLe.refl _ _) (LLe.cons (VLe.refl _ _) (LLe.nil _)))))
theorem implies_Close_walkN {p0:Circ}{p1:(List Asg)}{K:((List Nat)×Bool×Nat)→Prop} (hm:implies_Close_wp p0 p1 K) {h0:Heap} (hB:HasB vars h0):∃ r,K r∧CallD Tryz.prog NG 14 ⟨[encCirc p0,(encL 2 encAsg) p1]⟩ h0 ((fun (r:((List Nat)×Bool×Nat))=>Value.tuple ⟨[(encN 1 n8) (r.1),Value.bool (r.2.1),i64 (r.2.2)]⟩) r) h0 :=
 valO (implies_Close_walkO hm hB) (fk Tryz.func14) (fun r=>PureV.tup (AllPure.cons (pureN (fun _=>AllPure.cons (PureV.flat rfl) AllPure.nil)) (AllPure.cons (PureV.flat rfl) (AllPure.cons (PureV.flat rfl) (AllPure.nil))))) (fun r a h1 h3 O F ha h2=>VLe.tup (LLe.cons (O.clipN F (Nat.le_refl _) (.head _) ha (h2 rfl) (fun _=>rfl)) (LLe.cons (VLe.refl _ _) (LLe.cons (VLe.refl _ _) (LLe.nil _)))))
def probecardlaw24_Given_wp (p0:Nat) (p1:(List U2)) (K:(List Asg)→Prop):Prop :=
 joinW (α:=(List Asg)) (fun k6=>loopW (S:=((List Asg)×Nat)) (fun (v8,v9) nx11=>joinW (α:=Bool) (fun k14=>((ltN v9 p1.length)=true→k14 (ltN 0 p0))∧((ltN v9 p1.length)=false→k14 false)) (fun v12=>(v12=true→∃ x15,p1[v9]?=some x15∧x15.a<256∧0<p0∧∃ x16,p1[v9]?=some x16∧0<2∧(v8.length+([(⟨(x15.a%p0),(x16.b%2)⟩:Asg)]:(List Asg)).length)*16≤2 ^ 47∧v9+1<2 ^ 63∧nx11 ((v8++([(⟨(x15.a%p0),(x16.b%2)⟩:Asg)]:(List Asg))),(v9+1)))∧(v12=false→k6 v8))) (([]:List Asg),0)) (fun v4=>K v4)
theorem probecardlaw24_Given_walkO {p0:Nat}{p1:(List U2)}{K:(List Asg)→Prop} (hm:probecardlaw24_Given_wp p0 p1 K) {h0:Heap} (hB:HasB vars h0):∃ v h',CallD Tryz.prog NG 13 ⟨[i64 p0,(encL 2 encU2) p1]⟩ h0 v h'∧OwnRes vars h0 K (fun (r:(List Asg)) a=>growV 2 a (r.map encAsg)) (fun (r:(List Asg))=>r) encAsg true v h':=by
 unfold probecardlaw24_Given_wp at hm
 refine fg Tryz.func13 (Q:=OwnRes vars h0 K (fun (r:(List Asg)) a=>growV 2 a (r.map encAsg)) (fun (r:(List Asg))=>r) encAsg true) ?_;have O:=Own.start hB;conv=>whnf
 apply Cs;conv=>whnf
 apply Cs;refine gH ?_
 have O:=O.addNil (.cells (flatC ((([]:List Asg)).map encAsg)) false)
 apply Cs;conv=>whnf
 apply Cs;refine gH ?_
 have O:=O.addNil (.cells (flatC ((([]:List Asg)).map encAsg)) false)
 refine jn (σ:=(List Asg)×Option Nat) hm 36 [] (fun s=>s.1) (fun (v4,a3) h=>(a3=none↔v4=[])∧Own vars h0 [(a3,.cells (flatC (v4.map encAsg)) false)] h) (fun (v4,a3)=>[(5,(growV 2 a3 (v4.map encAsg)))]) (fun hm=>?_) ?_
 ·refine gX ?_
  refine lw 36 [0,1] (σ:=((List Asg)×Nat)×Option Nat) (fun s=>s.1) (fun ((v8,v9),a7) h=>(a7=none↔v8=[])∧Own vars h0 [(a7,.cells (flatC (v8.map encAsg)) false)] h) (fun ((v8,v9),a7)=>[(5,(growV 2 a7 (v8.map encAsg))),(6,(i64 v9))]) ((([]:List Asg),0),none) hm ⟨⟨(fun _=>rfl),(fun _=>rfl)⟩,(O.sel [0] (by decide))⟩ ?_
  clear hm;rintro⟨⟨v8,v9⟩,a7⟩ nx11 base h hm ⟨ha10,O⟩
  conv=>whnf
  apply Cs;conv=>whnf
  refine jn hm 36 [0,1,5,6] (fun s=>s) (fun v12 h=>(a7=none↔v8=[])∧Own vars h0 [(a7,.cells (flatC (v8.map encAsg)) false)] h) (fun v12=>[(14,(.bool v12))]) (fun hm=>?_) ?_
  ·refine gX ?_
   refine br hm (fun hm=>?_) fun hm=>?_
   ·refine gX ?_
    exact jx (ltN 0 p0) hm ⟨⟨ha10.1,ha10.2⟩,O⟩
   ·refine gX ?_
    exact jx false hm ⟨⟨ha10.1,ha10.2⟩,O⟩
  ·clear hm;rintro v12 base h hm ⟨ha13,O⟩
   refine gX ?_
   refine br hm (fun hm=>?_) fun hm=>?_
   ·refine gX ?_
    refine atF hm fun x15 hx15 hm=>?_;refine gH ?_
    refine idxR rfl ?_;refine gH ?_
    refine aCv hm wI8 fun hm=>?_;refine gH ?_
    refine aRem hm fun hm=>?_;refine gH ?_
    refine atF hm fun x16 hx16 hm=>?_;refine gH ?_
    refine idxR rfl ?_;refine gH ?_
    refine aRem hm fun hm=>?_;refine gH ?_
    refine O.buildLX (l:=([(⟨(x15.a%p0),(x16.b%2)⟩:Asg)]:(List Asg))) (enc:=encAsg) (s:=2) (z:=(.agg ⟨[(i64 0),(n8 0)]⟩)) rfl rfl (by kernel_rfl) (by kernel_rfl) rfl rfl rfl rfl (fun _=>rfl) fun g17 h O=>?_;refine gH ?_
    refine O.appendL (enc:=encAsg) (l:=v8) (new:=([(⟨(x15.a%p0),(x16.b%2)⟩:Asg)]:(List Asg))) (s:=2) (b:=16) (.tail _ (.head _)) ha13.1 rfl rfl rfl rfl rfl rfl rfl rfl (YOk.own (O.at (.head _)) rfl (fun _=>rfl) rfl) (fun _=>rfl) (fun _=>rfl) (by decide) hm.1 fun a19 h ha20 O=>?_;refine gH ?_
    replace hm:=hm.2
    refine gX ?_
    refine aAdd hm fun hm=>?_;refine gH ?_
    exact jx (((v8++([(⟨(x15.a%p0),(x16.b%2)⟩:Asg)]:(List Asg))),(v9+1)),a19) hm ⟨⟨ha20,(fun e=>absurd e (by simp))⟩,(O.sel [1] (by decide))⟩
   ·refine gX ?_
    exact jx (v8,a7) hm ⟨⟨ha13.1,ha13.2⟩,O⟩
 ·clear hm;rintro⟨v4,a3⟩ base h hm ⟨ha5,O⟩
  refine gX ?_
  exact⟨v4,a3,hm,VLe.refl _ _,ha5.1,(fun _=>ha5.2),O.sel [0] (by decide)⟩
theorem probecardlaw24_Given_walkN {p0:Nat}{p1:(List U2)}{K:(List Asg)→Prop} (hm:probecardlaw24_Given_wp p0 p1 K) {h0:Heap} (hB:HasB vars h0):∃ r,K r∧CallD Tryz.prog NG 13 ⟨[i64 p0,(encL 2 encU2) p1]⟩ h0 ((encN 2 encAsg) r) h0 :=
 valO (probecardlaw24_Given_walkO hm hB) (fk Tryz.func13) (fun r=>pureN (fun _=>pure_asgC _)) (fun r a h1 h3 O F ha h2=>O.grownN F (Nat.le_refl _) (.head _) ha (h2 rfl) (fun _=>rfl))
structure Pln (c:Circ):Prop where
 good:Good c
 mems:c.mems=[]
 kinds:∀ (i:Nat) (y:Node),c.nodes[i]?=some y→y.kind≠12∧y.kind≠13∧y.kind≠15
def isFree (k:Nat):Bool:=k==0||k==14
theorem Pln.gate {c:Circ} (p:Pln c) {i:Nat}{y:Node} (h:c.nodes[i]?=some y) (hf:isFree y.kind=false):1≤y.kind∧y.kind≤11:=by
 have:=p.kinds i y h
 have:=(p.good.node i y h).kind
 simp only[isFree,Bool.or_eq_false_iff,beq_eq_false_iff_ne] at hf
 omega
theorem Pln.comb {c:Circ} (p:Pln c) {i:Nat}{y:Node} (h:c.nodes[i]?=some y) (hf:isFree y.kind=false):isComb y.kind:=by
 have:=p.gate h hf
 exact⟨this.1,by omega⟩
theorem free_vc {k:Nat}{K:Bool→Prop} (h:K (isFree k)):implies_free_wp k K:=by
 unfold implies_free_wp
 have e:isFree k=(eqN k 0||eqN k 14):=by unfold isFree;rw[Bool.eq_iff_iff];simp[eqN_eq]
 rw[e] at h
 refine⟨fun q=>by rw[q] at h;exact h,fun q=>by rw[q] at h;exact h⟩
theorem plain_vc {c:Circ}{K:Nat→Prop} (p:Pln c) (h:K 0):implies_Plain_wp c K:=by
 have hlen:=p.good.len
 unfold implies_Plain_wp
 refine check_vc p.good ⟨fun q=>absurd rfl (ne_t.1 q),fun _=>?_⟩
 have e0:ltN 0 c.mems.length=false:=lt_f.2 (by rw[p.mems];exact Nat.le_refl _)
 refine joinI ⟨fun q=>absurd (q.symm.trans e0) (by decide),fun _=>?_⟩
 refine of_vc (by omega) (by decide) ?_
 have e:ofN c [12,13,15]=[]:=by
  unfold ofN
  rw[List.filter_eq_nil_iff]
  intro i m
  have hi:=List.mem_range.1 m
  obtain⟨y,hy⟩:=get_lt hi
  have:=p.kinds i y hy
  rw[List.getD,List.getElem?_map,hy]
  simp
  omega
 rw[e]
 exact⟨(fun q=>by cases q),fun _=>h⟩
def freeN (c:Circ):List Nat:=(List.range c.nodes.length).filter fun i=>isFree (kd c i)
theorem notN_le (v:Nat):notN v≤2:=by unfold notN;split <;> omega
theorem decN_le {low high:Nat} (h1:low≤2) (h2:high≤2):∀ (l:List Nat) (o:Nat),o≤2→decN low high l o≤2
 |[],o,h=>h
 |v::r,o,h=>by
  unfold decN
  split
  ·exact h1
  ·refine decN_le h1 h2 r _ ?_
   split
   ·exact h
   ·exact Nat.le_refl _
theorem xorN_le:∀ (l:List Nat) (o:Nat),o≤1→xorN l o≤2
 |[],o,h=>Nat.le_succ_of_le h
 |v::r,o,h=>by
  unfold xorN
  split
  ·refine xorN_le r _ ?_
   have q1:o=0∨o=1:=by omega
   have q2:v=0∨v=1:=by omega
   rcases q1 with rfl|rfl <;> rcases q2 with rfl|rfl <;> simp
  ·exact Nat.le_refl _
theorem evalN_le (k:Nat) (l:List Nat):evalN k l≤2:=by
 unfold evalN
 repeat' split
 all_goals first|omega|exact Nat.min_le_right _ _|exact notN_le _|exact decN_le (by decide) (by decide) _ _ (by decide) | exact xorN_le _ _ (by decide) | skip
 unfold muxN
 repeat' split
 all_goals first|exact Nat.min_le_right _ _|exact Nat.le_refl _
def insV (t:List Nat) (x:Node):List Nat:=x.ins.map fun k=>t.getD k 0
structure TotOk (c:Circ) (b:Nat) (t:List Nat):Prop where
 len:t.length=c.nodes.length
 free:∀ j f,(freeN c)[j]?=some f→t.getD f 0=b/2 ^ j%2
 gate:∀ i x,c.nodes[i]?=some x→isFree x.kind=false→t.getD i 0=evalN x.kind (insV t x)
 le:∀ i,t.getD i 0≤2
theorem freeN_mem {c:Circ}{f:Nat} (h:f∈freeN c):f<c.nodes.length∧isFree (kd c f)=true:=by
 unfold freeN at h
 rw[List.mem_filter,List.mem_range] at h
 exact h
structure TotTo (c:Circ) (b:Nat) (o t:List Nat) (i:Nat):Prop where
 len:t.length=c.nodes.length
 free:∀ j f,(freeN c)[j]?=some f→t.getD f 0=b/2 ^ j%2
 gate:∀ j m (x:Node),j<i→o[j]?=some m→c.nodes[m]?=some x→isFree x.kind=false→t.getD m 0=evalN x.kind (insV t x)
 le:∀ i,t.getD i 0≤2
theorem ord_inj {c:Circ}{o:List Nat} (h:OrdOk c o) {a b m:Nat} (h1:o[a]?=some m) (h2:o[b]?=some m):a=b:=by
 have hn:o.Nodup:=h.perm.nodup_iff.2 List.nodup_range
 obtain⟨q1,q2⟩:=List.getElem?_eq_some_iff.1 h1
 obtain⟨q3,q4⟩:=List.getElem?_eq_some_iff.1 h2
 rcases Nat.lt_trichotomy a b with q|q|q
 ·exact absurd (q2.trans q4.symm) (List.pairwise_iff_getElem.1 hn a b q1 q3 q)
 ·exact q
 ·exact absurd (q4.trans q2.symm) (List.pairwise_iff_getElem.1 hn b a q3 q1 q)
theorem TotTo.skip {c:Circ}{b:Nat}{o t:List Nat}{i m:Nat}{x:Node} (T:TotTo c b o t i) (hm:o[i]?=some m) (hx:c.nodes[m]?=some x) (hf:isFree x.kind=true):TotTo c b o t (i+1):=by
 refine⟨T.len,T.free,fun j m' x' hj ho hx' hf'=>?_,T.le⟩
 by_cases e:j=i
 ·subst e
  rw[hm] at ho;cases ho
  rw[hx] at hx';cases hx'
  rw[hf] at hf';cases hf'
 ·exact T.gate j m' x' (by omega) ho hx' hf'
theorem TotTo.step {c:Circ} (p:Pln c) {b:Nat}{o t:List Nat} (ho:OrdOk c o) {i m:Nat}{x:Node} (T:TotTo c b o t i) (hm:o[i]?=some m) (hx:c.nodes[m]?=some x) (hf:isFree x.kind=false):TotTo c b o (t.set m (evalN x.kind (insV t x))) (i+1):=by
 have hml:m<t.length:=by rw[T.len];exact lt_of_get hx
 have same:∀ (j m':Nat) (x':Node),j≤i→o[j]?=some m'→c.nodes[m']?=some x'→isFree x'.kind=false→insV (t.set m (evalN x.kind (insV t x))) x'=insV t x':=by
  intro j m' x' hj h1 h2 h3
  unfold insV
  refine List.map_congr_left fun k hk=>?_
  rw[getD_set hml]
  by_cases e:m=k
  ·subst e
   obtain⟨b',hb,hb2⟩:=ho.before j m' x' m h1 h2 (p.comb h2 h3) hk
   have:=ord_inj ho hb2 hm
   omega
  ·rw[if_neg e]
 refine⟨by rw[List.length_set];exact T.len,fun j f hj=>?_,fun j m' x' hj h1 h2 h3=>?_,fun k=>?_⟩
 ·rw[getD_set hml,if_neg ?_]
  ·exact T.free j f hj
  ·rintro rfl
   have:=(freeN_mem (List.mem_of_getElem? hj)).2
   rw[kd_eq hx,hf] at this
   cases this
 ·rw[same j m' x' (by omega) h1 h2 h3,getD_set hml]
  by_cases e:m=m'
  ·subst e
   rw[if_pos rfl]
   rw[hx] at h2;cases h2
   rfl
  ·rw[if_neg e]
   refine T.gate j m' x' ?_ h1 h2 h3
   by_cases e2:j=i
   ·subst e2;rw[hm] at h1;cases h1;exact absurd rfl e
   ·omega
 ·rw[getD_set hml]
  split
  ·exact evalN_le _ _
  ·exact T.le k
theorem TotTo.done {c:Circ}{b:Nat}{o t:List Nat} (ho:OrdOk c o) {i:Nat} (T:TotTo c b o t i) (hi:o.length≤i):TotOk c b t:=by
 refine⟨T.len,T.free,fun m x hx hf=>?_,T.le⟩
 have hm:m∈o:=ho.perm.mem_iff.2 (List.mem_range.2 (lt_of_get hx))
 obtain⟨j,hj,e⟩:=List.getElem_of_mem hm
 exact T.gate j m x (by omega) (by rw[List.getElem?_eq_getElem hj,e]) hx hf
theorem filt_step {p:Nat→Bool}{i:Nat}:(List.range (i+1)).filter p=(List.range i).filter p++(if p i=true then [i] else []):=by
 rw[List.range_succ,List.filter_append]
 simp only[List.filter_cons,List.filter_nil]
def plainC (x:CData):CData:=⟨x.inp,x.dffs,x.data0,x.data1,false,false,x.port0,x.port1,x.port2,x.port3,x.gates,x.outs⟩
theorem plainC_ok {x:CData} (h:CB x):CB (plainC x):=⟨h.inp,h.dffs,h.data0,h.data1,h.port0,h.port1,h.port2,h.port3,h.gates,h.outs⟩
theorem pln_circ (x:CData):Pln (circN (plainC x)):=⟨good_circ rfl,rfl,plain_circ rfl rfl⟩
def vecN (b:Nat):Nat→List (List Nat)
 |0=>[[]]
 |n+1=>(vecN b n).flatMap fun v=>(List.range (b+1)).map fun x=>x::v
theorem mem_vecN (b:Nat):∀ (l:List Nat),(∀ x∈l,x≤b)→l∈vecN b l.length
 |[],_=>by simp[vecN]
 |x::l,h=>by
  have ih:=mem_vecN b l fun y m=>h y (by simp[m])
  have hx:=h x (by simp)
  simp only[vecN,List.length_cons,List.mem_flatMap]
  exact⟨l,ih,List.mem_map.2 ⟨x,List.mem_range.2 (by omega),rfl⟩⟩
def blw (v w:Nat):Bool:=Nat.beq v 2||Nat.beq v w
def blwL:List Nat→List Nat→Bool
 |[],[]=>true
 |a::l,b::m=>blw a b&&blwL l m
 |_,_=>false
def allN (p:Nat→Bool):List Nat→Bool
 |[]=>true
 |a::l=>p a&&allN p l
def eqLs:List Nat→List Nat→Bool
 |[],[]=>true
 |a::l,b::m=>Nat.beq a b&&eqLs l m
 |_,_=>false
def okG (k o:Nat) (l:List Nat):Bool:=match gateL (Int.ofNat k) (Int.ofNat o) (l.map Int.ofNat) with
 |none=>true
 |some (v,r)=>decide (0≤v)&&r.all fun x=>decide (0≤x)
def gateChk (k m:Nat):Bool:=(vecN 2 m).all fun l=>(List.range 3).all fun o =>
 okG k o l &&
 (!(gateR k o l).2.2||(Nat.ble (gateR k o l).1 2&&Nat.beq (gateR k o l).2.1.length m&&allN (fun v=>Nat.ble v 2) (gateR k o l).2.1)) &&
 ((vecN 1 m).all fun t => !(blw o (evalN k t)&&blwL l t)||((gateR k o l).2.2&&blw (gateR k o l).1 (evalN k t)&&blwL (gateR k o l).2.1 t)) &&
 (!(allN (fun v=>Nat.ble v 1) l&&(gateR k o l).2.2)||Nat.beq (gateR k o l).1 (evalN k l))
theorem gate_chk:∀ m,m<4→∀ k,k<12→1≤k→Arity k m→gateChk k m=true:=by decide +kernel
def Blw (v w:Nat):Prop:=v=2∨v=w
theorem blw_iff {v w:Nat}:blw v w=true↔Blw v w:=by
 unfold blw Blw
 rw[Bool.or_eq_true,Nat.beq_eq,Nat.beq_eq]
theorem blwL_iff:∀ {l t:List Nat},blwL l t=true↔l.length=t.length∧∀ j,Blw (l.getD j 0) (t.getD j 0)
 |[],[]=>by simp[blwL,Blw]
 |[],_::_=>by simp[blwL]
 |_::_,[]=>by simp[blwL]
 |a::l,b::t=>by
  unfold blwL
  rw[Bool.and_eq_true,blw_iff,blwL_iff (l:=l) (t:=t),List.length_cons,List.length_cons]
  refine⟨fun ⟨h1,h2,h3⟩=>⟨by omega,fun j=>?_⟩,fun ⟨h1,h2⟩=>⟨h2 0,by omega,fun j=>h2 (j+1)⟩⟩
  cases j with
  |zero=>exact h1
  |succ j=>exact h3 j
theorem allN_iff {p:Nat→Bool}:∀ {l:List Nat},allN p l=true ↔ ∀ x∈l,p x=true
 |[]=>by simp[allN]
 |a::l=>by
  unfold allN
  rw[Bool.and_eq_true,allN_iff (l:=l)]
  simp
structure GF (k o:Nat) (l:List Nat):Prop where
 ok:GateOk k o l
 le:(gateR k o l).2.2=true→(gateR k o l).1≤2∧(gateR k o l).2.1.length=l.length∧∀ v∈(gateR k o l).2.1,v≤2
 sound:∀ t:List Nat,t.length=l.length→(∀ x∈t,x≤1)→Blw o (evalN k t)→(∀ j,Blw (l.getD j 0) (t.getD j 0))→(gateR k o l).2.2=true∧Blw (gateR k o l).1 (evalN k t)∧∀ j,Blw ((gateR k o l).2.1.getD j 0) (t.getD j 0)
 full:(∀ x∈l,x≤1)→(gateR k o l).2.2=true→(gateR k o l).1=evalN k l
theorem okG_ok {k o:Nat}{l:List Nat} (h:okG k o l=true):GateOk k o l:=by
 unfold okG at h
 intro v r e
 rw[e] at h
 simp only[Bool.and_eq_true,decide_eq_true_eq,List.all_eq_true] at h
 exact h
theorem gf {k o:Nat}{l:List Nat} (h1:1≤k) (hk:k≤11) (ha:Arity k l.length) (hl:l.length≤3) (ho:o≤2) (hle:∀ x∈l,x≤2):GF k o l:=by
 have h:=gate_chk l.length (by omega) k (by omega) h1 ha
 unfold gateChk at h
 have h:=List.all_eq_true.1 h l (mem_vecN 2 l hle)
 have h:=List.all_eq_true.1 h o (List.mem_range.2 (by omega))
 rw[Bool.and_eq_true,Bool.and_eq_true,Bool.and_eq_true] at h
 obtain⟨⟨⟨q1,q2⟩,q3⟩,q4⟩:=h
 refine⟨okG_ok q1,fun e=>?_,fun t ht ht1 b1 b2=>?_,fun b e=>?_⟩
 ·rw[e,Bool.or_eq_true,Bool.and_eq_true,Bool.and_eq_true] at q2
  rcases q2 with q2|⟨⟨a1,a2⟩,a3⟩
  ·cases q2
  ·exact⟨Nat.le_of_ble_eq_true a1,Nat.eq_of_beq_eq_true a2,fun v m=>Nat.le_of_ble_eq_true (allN_iff.1 a3 v m)⟩
 ·have h:=List.all_eq_true.1 q3 t (by rw[← ht];exact mem_vecN 1 t ht1)
  rw[blw_iff.2 b1,blwL_iff.2 ⟨ht.symm,b2⟩] at h
  rw[Bool.or_eq_true,Bool.and_eq_true,Bool.and_eq_true,blw_iff,blwL_iff] at h
  rcases h with h|⟨⟨a1,a2⟩,a3⟩
  ·cases h
  ·exact⟨a1,a2,a3.2⟩
 ·rw[e,allN_iff.2 (fun x m=>Nat.ble_eq_true_of_le (b x m))] at q4
  rw[Bool.or_eq_true] at q4
  rcases q4 with q4|q4
  ·cases q4
  ·exact Nat.eq_of_beq_eq_true q4
def belowV (v:Nat):List Nat:=if v=2 then [2] else [2,v]
def belowsL:List Nat→List (List Nat)
 |[]=>[[]]
 |v::l=>(belowsL l).flatMap fun m=>(belowV v).map fun x=>x::m
theorem mem_belowV {v w:Nat} (h:Blw v w):v∈belowV w:=by
 unfold belowV
 rcases h with rfl|rfl <;> split <;> simp_all
theorem mem_belowsL:∀ {l t:List Nat},l.length=t.length→(∀ j,Blw (l.getD j 0) (t.getD j 0))→l∈belowsL t
 |[],[],_,_=>by simp[belowsL]
 |[],_::_,h,_=>by simp at h
 |_::_,[],h,_=>by simp at h
 |a::l,b::t,h,hb=>by
  unfold belowsL
  have ih:=mem_belowsL (l:=l) (t:=t) (by simpa using h) fun j=>hb (j+1)
  exact List.mem_flatMap.2 ⟨l,ih,List.mem_map.2 ⟨a,mem_belowV (hb 0),rfl⟩⟩
def monoChk (k m:Nat):Bool:=(vecN 2 m).all fun t=>(List.range 3).all fun p => !(gateR k p t).2.2||(belowsL t).all fun l =>
 ((belowV p).all fun o=>(gateR k o l).2.2&&blw (gateR k o l).1 (gateR k p t).1&&blwL (gateR k o l).2.1 (gateR k p t).2.1) &&
 (!(blw (gateR k p t).1 p&&blwL (gateR k p t).2.1 t)||blw (evalN k l) p)
theorem mono_chk:∀ m,m<4→∀ k,k<12→1≤k→Arity k m→monoChk k m=true:=by decide +kernel
theorem gate_mono {k o p:Nat}{l t:List Nat} (h1:1≤k) (hk:k≤11) (ha:Arity k t.length) (hl:t.length≤3) (hp:p≤2) (ht:∀ x∈t,x≤2) (ho:Blw o p) (hll:l.length=t.length) (hlt:∀ j,Blw (l.getD j 0) (t.getD j 0)) (hok:(gateR k p t).2.2=true) :
  ((gateR k o l).2.2=true∧Blw (gateR k o l).1 (gateR k p t).1∧∀ j,Blw ((gateR k o l).2.1.getD j 0) ((gateR k p t).2.1.getD j 0)) ∧
  (Blw (gateR k p t).1 p→(∀ j,Blw ((gateR k p t).2.1.getD j 0) (t.getD j 0))→Blw (evalN k l) p):=by
 have h:=mono_chk t.length (by omega) k (by omega) h1 ha
 unfold monoChk at h
 have h:=List.all_eq_true.1 h t (mem_vecN 2 t ht)
 have h:=List.all_eq_true.1 h p (List.mem_range.2 (by omega))
 rw[hok,Bool.not_true,Bool.false_or] at h
 have h:=List.all_eq_true.1 h l (mem_belowsL hll hlt)
 rw[Bool.and_eq_true] at h
 obtain⟨q1,q2⟩:=h
 have h:=List.all_eq_true.1 q1 o (mem_belowV ho)
 rw[Bool.and_eq_true,Bool.and_eq_true,blw_iff,blwL_iff] at h
 refine⟨⟨h.1.1,h.1.2,h.2.2⟩,fun b1 b2=>?_⟩
 have len:=((gf h1 hk ha hl hp ht).le hok).2.1
 rw[Bool.or_eq_true,blw_iff.2 b1,blwL_iff.2 ⟨len,b2⟩] at q2
 rcases q2 with q2|q2
 ·cases q2
 ·exact blw_iff.1 q2
theorem Blw.trans {a b c:Nat} (h:Blw a b) (h':Blw b c):Blw a c:=by
 rcases h with h|h
 ·exact .inl h
 ·subst h;exact h'
theorem put_vc {c:Circ} (g:Good c) {v w:List Nat}{m x:Nat}{K:Bool×List Nat×List Nat→Prop} (hv:v.length=c.nodes.length) (hm:m<c.nodes.length) (hw:w.length≤2 ^ 30)
  (hA:(x=2∨v.getD m 0=x)→K (true,v,w))
  (hB:x≠2→v.getD m 0=2→K (true,v.set m x,w++m::(fanOf c m).map Ln.node))
  (hC:x≠2→v.getD m 0≠2→v.getD m 0≠x→K (false,v,w)) :
  work_put_wp c.nodes c.names c.mems c.outs (fanL c) c.nodes.length v w m x K:=by
 have hfl:=fan_len g hm
 have hg:=getN hv hm
 unfold work_put_wp
 have rest:∀ (v':List Nat),v'.getD m 0=x→v'.length=c.nodes.length→K (true,v',w++m::(fanOf c m).map Ln.node)→∃ x11,v'[m]?=some x11∧((!(eqN x11 x))=true→K (false,v',w))∧((!(eqN x11 x))=false→(w.length+([m]:List Nat).length)*8≤2 ^ 47∧joinW (α:=List Nat) (fun k23=>∃ x24,(fanL c)[m]?=some x24∧loopW (S:=(List Nat)×Nat) (fun (v28,v29) nx32=>((ltN v29 x24.length)=true→∃ x33,x24[v29]?=some x33∧(v28.length+([x33.node]:List Nat).length)*8≤2 ^ 47∧v29+1<2 ^ 63∧nx32 ((v28++([x33.node]:List Nat)),(v29+1)))∧((ltN v29 x24.length)=false→k23 v28)) ((w++([m]:List Nat)),0)) (fun v20=>K (true,v',v20))):=by
  intro v' hx hl h
  refine⟨_,getN hl hm,fun q=>absurd hx (neq_t.1 q),fun _=>⟨by simp only[List.length_singleton];omega,?_⟩⟩
  refine joinI ⟨_,fanL_get hm,?_⟩
  refine loopW_intro (fun s=>s.2≤(fanOf c m).length∧s.1=w++m::((fanOf c m).take s.2).map Ln.node) (fun s=>(fanOf c m).length-s.2) ?_ ⟨Nat.zero_le _,by simp⟩
  rintro⟨l,j⟩ nx ⟨hj,hI⟩ hnx
  dsimp only at hj hI
  refine⟨fun q=>?_,fun q=>?_⟩
  ·have q:=lt_t.1 q
   (try dsimp only at q)
   obtain⟨y,hy⟩:=get_lt q
   obtain⟨l1,l2⟩:=List.getElem?_eq_some_iff.1 hy
   refine⟨y,hy,by rw[hI];simp only[List.length_append,List.length_cons,List.length_map,List.length_take,List.length_nil];omega,by omega,hnx _ ⟨q,?_⟩ (by dsimp only;omega)⟩
   dsimp only
   rw[hI,List.take_succ_eq_append_getElem l1,l2,List.map_append,List.append_assoc]
   rfl
  ·have q:=lt_f.1 q
   (try dsimp only at q)
   rw[hI,List.take_of_length_le q]
   exact h
 refine joinI ⟨fun q=>⟨fun _=>hA (.inl (eq_t.1 q)),(fun e=>by cases e)⟩,fun q=>⟨hm,_,hg,⟨fun e=>hA (.inr (eq_t.1 e)),fun e=>?_⟩⟩⟩
 have q:=eq_f.1 q
 have e:=eq_f.1 e
 refine⟨hm,_,hg,joinI ⟨fun e2=>?_,fun e2=>?_⟩⟩
 ·have e2:=eq_t.1 e2
  refine rest _ ?_ (by rw[List.length_set];exact hv) (hB q e2)
  rw[getD_set (by omega),if_pos rfl]
 ·have e2:=eq_f.1 e2
  exact⟨_,hg,fun _=>hC q e2 e,fun e3=>absurd (neq_f.1 e3) e⟩
def Ext (given:List Asg) (t:List Nat):Prop:=∀ a∈given,t.getD a.net 0=a.value
def ClosedAt (c:Circ) (v:List Nat) (i:Nat):Prop:=∀ x,c.nodes[i]?=some x→isFree x.kind=false →
 (gateR x.kind (v.getD i 0) (insV v x)).2.2=true∧Blw (gateR x.kind (v.getD i 0) (insV v x)).1 (v.getD i 0)∧∀ j,Blw ((gateR x.kind (v.getD i 0) (insV v x)).2.1.getD j 0) ((insV v x).getD j 0)
structure CW (c:Circ) (given:List Asg) (t:List Nat):Prop where
 len:t.length=c.nodes.length
 le:∀ i,t.getD i 0≤2
 ext:Ext given t
 cls:∀ i,ClosedAt c t i
structure CI (c:Circ) (given:List Asg) (but:Nat→Prop) (v w:List Nat):Prop where
 len:v.length=c.nodes.length
 le:∀ i,v.getD i 0≤2
 wlt:∀ i∈w,i<c.nodes.length
 bnd:v.count 2*1001+w.length≤2 ^ 30
 snd:∀ t,CW c given t→∀ i,Blw (v.getD i 0) (t.getD i 0)
 cls:∀ i,i<c.nodes.length→but i∨i∈w∨ClosedAt c v i
theorem fan_reads {c:Circ}{i m:Nat}{x:Node} (hx:c.nodes[i]?=some x) (h:m∈x.ins):i∈(fanOf c m).map Ln.node:=by
 have h1:=fan_count c m i
 rw[ins_eq hx] at h1
 have h2:0<x.ins.count m:=List.count_pos_iff.2 h
 rw[← h1,List.countP_pos_iff] at h2
 obtain⟨l,hl,e⟩:=h2
 exact List.mem_map.2 ⟨l,hl,by simpa using e⟩
theorem count_set2 {v:List Nat}{m x:Nat} (hm:m<v.length) (h2:v.getD m 0=2) (hx:x≠2):(v.set m x).count 2+1=v.count 2:=by
 induction v generalizing m with
 |nil=>exact absurd hm (Nat.not_lt_zero _)
 |cons a v ih =>
  cases m with
  |zero =>
   have:a=2:=h2
   subst this
   rw[List.set_cons_zero,List.count_cons,List.count_cons]
   simp[hx]
  |succ m =>
   have:=ih (m:=m) (by simpa using hm) h2
   rw[List.set_cons_succ,List.count_cons,List.count_cons]
   omega
theorem CI.put {c:Circ} (g:Good c) {given:List Asg}{but:Nat→Prop}{v w:List Nat} (I:CI c given but v w) {m x:Nat} (hm:m<c.nodes.length) (h2:v.getD m 0=2) (hx:x≠2) (hle:x≤2) (hs:∀ t,CW c given t→t.getD m 0=x) :
  CI c given but (v.set m x) (w++m::(fanOf c m).map Ln.node)∧(v.set m x).count 2*1001+(w++m::(fanOf c m).map Ln.node).length≤v.count 2*1001+w.length:=by
 have hml:m<v.length:=by rw[I.len];exact hm
 have hfl:=fan_len g hm
 have hc:=count_set2 hml h2 hx
 have hb:=I.bnd
 have hlen:(w++m::(fanOf c m).map Ln.node).length=w.length+1+(fanOf c m).length:=by simp;omega
 have key:(v.set m x).count 2*1001+(w++m::(fanOf c m).map Ln.node).length≤v.count 2*1001+w.length:=by rw[hlen];omega
 refine⟨⟨by rw[List.length_set];exact I.len,fun i=>?_,fun i hi=>?_,by omega,fun t ht i=>?_,fun i hi=>?_⟩,key⟩
 ·rw[getD_set hml]
  split
  ·exact hle
  ·exact I.le i
 ·rcases List.mem_append.1 hi with hi|hi
  ·exact I.wlt i hi
  ·rcases List.mem_cons.1 hi with rfl|hi
   ·exact hm
   ·obtain⟨l,hl,rfl⟩:=List.mem_map.1 hi
    exact fan_lt hl
 ·rw[getD_set hml]
  by_cases e:m=i
  ·subst e;rw[if_pos rfl];exact .inr (hs t ht).symm
  ·rw[if_neg e];exact I.snd t ht i
 ·rcases I.cls i hi with q|q|q
  ·exact .inl q
  ·exact .inr (.inl (List.mem_append_left _ q))
  ·by_cases e:m=i
   ·subst e;exact .inr (.inl (by simp))
   ·obtain⟨y,hy⟩:=get_lt hi
    by_cases e2:m∈y.ins
    ·exact .inr (.inl (List.mem_append_right _ (List.mem_cons_of_mem _ (fan_reads hy e2))))
    ·refine .inr (.inr fun y' hy' hf=>?_)
     rw[hy] at hy';cases hy'
     have e3:insV (v.set m x) y=insV v y:=by
      unfold insV
      refine List.map_congr_left fun k hk=>?_
      rw[getD_set hml,if_neg (fun (q2:m=k)=>e2 (by rw[q2];exact hk))]
     rw[e3,getD_set hml,if_neg e]
     exact q y hy hf
def Few3 (c:Circ):Prop:=∀ (i:Nat) (y:Node),c.nodes[i]?=some y→y.ins.length≤3
theorem getD_out {l:List Nat}{i:Nat} (h:l.length≤i):l.getD i 0=0:=by rw[List.getD,List.getElem?_eq_none h];rfl
theorem insV_le {t:List Nat}{b:Nat} (h:∀ i,t.getD i 0≤b) (x:Node):∀ v∈insV t x,v≤b:=by
 intro v m
 obtain⟨k,_,rfl⟩:=List.mem_map.1 m
 exact h k
theorem insV_getD {t:List Nat}{x:Node}{j y:Nat} (hy:x.ins[j]?=some y):(insV t x).getD j 0=t.getD y 0:=by
 unfold insV;rw[List.getD,List.getElem?_map,hy];rfl
theorem insV_len (t:List Nat) (x:Node):(insV t x).length=x.ins.length:=by unfold insV;simp
structure GS (c:Circ) (given:List Asg) (m:Nat) (v0 w0:List Nat) (v w:List Nat) (done:Prop):Prop where
 inv:CI c given (· = m) v w
 le:v.count 2*1001+w.length≤v0.count 2*1001+w0.length
 mono:∀ i,v0.getD i 0≠2→v.getD i 0=v0.getD i 0
 or:m∈w∨(v=v0∧done)
theorem GS.to {c:Circ}{given:List Asg}{m:Nat}{v0 w0 v w:List Nat}{d d':Prop} (S:GS c given m v0 w0 v w d) (h:v=v0→d→d'):GS c given m v0 w0 v w d':=⟨S.inv,S.le,S.mono,S.or.imp_right fun ⟨a,b⟩=>⟨a,h a b⟩⟩
theorem gput_vc {c:Circ} (p:Pln c) {given:List Asg}{m:Nat}{v0 w0 v w:List Nat}{d:Prop}{y x:Nat}{K:Bool×List Nat×List Nat→Prop} (S:GS c given m v0 w0 v w d) (hy:y<c.nodes.length) (hx:x≤2)
  (hs:∀ t,CW c given t→Blw x (t.getD y 0)) (hr:y=m∨∃ z,c.nodes[m]?=some z∧y∈z.ins)
  (h1:∀ v' w',GS c given m v0 w0 v' w' (d∧Blw x (v0.getD y 0))→K (true,v',w'))
  (h2:∀ v' w',(∀ t,¬ CW c given t)→K (false,v',w')) :
  work_put_wp c.nodes c.names c.mems c.outs (fanL c) c.nodes.length v w y x K:=by
 have hb:=S.inv.bnd
 refine put_vc p.good S.inv.len hy (by omega) (fun q=>h1 v w (S.to fun e hd=>⟨hd,?_⟩)) (fun q1 q2=>h1 _ _ ?_) (fun q1 q2 q3=>h2 _ _ fun t ht=>?_)
 ·rcases q with q|q
  ·exact .inl q
  ·rw[e] at q;exact .inr q.symm
 ·obtain⟨I,hle⟩:=S.inv.put p.good hy q2 q1 hx fun t ht=>((hs t ht).resolve_left q1).symm
  refine⟨I,Nat.le_trans hle S.le,fun i hi=>?_,.inl ?_⟩
  ·have hyl:y<v.length:=by rw[S.inv.len];exact hy
   rw[getD_set hyl]
   by_cases e:y=i
   ·subst e
    have:=S.mono y hi
    rw[q2] at this
    exact absurd this.symm hi
   ·rw[if_neg e];exact S.mono i hi
  ·rcases hr with rfl|⟨z,hz,hm⟩
   ·simp
   ·exact List.mem_append_right _ (List.mem_cons_of_mem _ (fan_reads hz hm))
 ·have a:=(hs t ht).resolve_left q1
  have b:=(S.inv.snd t ht y).resolve_left q2
  rw[a,b] at q3
  exact q3 rfl
theorem gate_vc {c:Circ} (p:Pln c) (f3:Few3 c) {given:List Asg}{m:Nat}{v0 w0:List Nat}{z:Node}{K:Bool×List Nat×List Nat→Prop} (hz:c.nodes[m]?=some z) (hf:isFree z.kind=false)
  (I:CI c given (· = m) v0 w0)
  (h1:∀ v w,CI c given (fun _=>False) v w→v.count 2*1001+w.length≤v0.count 2*1001+w0.length→(∀ i,v0.getD i 0≠2→v.getD i 0=v0.getD i 0)→K (true,v,w))
  (h2:∀ v w,(∀ t,¬ CW c given t)→K (false,v,w)) :
  work_gate_wp c.nodes c.names c.mems c.outs (fanL c) c.nodes.length v0 w0 m K:=by
 have hm:=lt_of_get hz
 have hg:=p.gate hz hf
 have G:=p.good.node m z hz
 have hl3:=f3 m z hz
 have hlen:=p.good.len
 have F:GF z.kind (v0.getD m 0) (insV v0 z):=gf hg.1 hg.2 (by rw[insV_len];exact G.arity) (by rw[insV_len];exact hl3) (I.le m) (insV_le I.le z)
 have sound:∀ t,CW c given t→(gateR z.kind (v0.getD m 0) (insV v0 z)).2.2=true∧Blw (gateR z.kind (v0.getD m 0) (insV v0 z)).1 (t.getD m 0)∧∀ j,Blw ((gateR z.kind (v0.getD m 0) (insV v0 z)).2.1.getD j 0) ((insV t z).getD j 0):=by
  intro t ht
  obtain⟨k1,k2,k3⟩:=ht.cls m z hz hf
  have M:=(gate_mono (o:=v0.getD m 0) (l:=insV v0 z) hg.1 hg.2 (by rw[insV_len];exact G.arity) (by rw[insV_len];exact hl3) (ht.le m) (insV_le ht.le z) (I.snd t ht m) (by rw[insV_len,insV_len]) (fun j=>?_) k1).1
  ·exact⟨M.1,M.2.1.trans k2,fun j=>(M.2.2 j).trans (k3 j)⟩
  ·by_cases hj:j<z.ins.length
   ·obtain⟨y,hy⟩:=get_lt hj
    rw[insV_getD hy,insV_getD hy]
    exact I.snd t ht y
   ·rw[getD_out (by rw[insV_len];omega),getD_out (by rw[insV_len];omega)]
    exact .inr rfl
 unfold work_gate_wp
 refine⟨z,hz,by omega,by omega,?_⟩
 refine joinLoop (fun s=>s.2≤z.ins.length∧s.1.length=z.ins.length∧∀ j,j<s.2→s.1.getD j 0=(insV v0 z).getD j 0) (fun s=>z.ins.length-s.2) (fun a=>a=insV v0 z) ?_ ⟨Nat.zero_le _,by simp,fun j hj=>absurd hj (Nat.not_lt_zero _)⟩ ?_
 ·rintro k2 ⟨l,j⟩ nx2 ⟨hj,hl,hI2⟩ hnx2 hk2
  dsimp only at hj hl hI2
  refine⟨fun q2=>?_,fun q2=>?_⟩
  ·have q2:=lt_t.1 q2
   (try dsimp only at q2)
   obtain⟨y,hy⟩:=get_lt q2
   have hyn:=G.ins y (List.mem_of_getElem? hy)
   refine⟨y,hy,hyn,_,getN I.len hyn,q2,_,getN hl q2,by omega,hnx2 _ ⟨q2,by simpa using hl,fun j' hj'=>?_⟩ (by dsimp only;omega)⟩
   dsimp only at hj' ⊢
   rw[getD_set (by omega)]
   by_cases e:j=j'
   ·subst e;rw[if_pos rfl,insV_getD hy]
   ·rw[if_neg e];exact hI2 j' (by omega)
  ·have q2:=lt_f.1 q2
   (try dsimp only at q2)
   refine hk2 l (List.ext_getElem? fun j'=>?_)
   by_cases e:j'<z.ins.length
   ·rw[getN hl e,getN (insV_len v0 z) e,hI2 j' (by omega)]
   ·rw[List.getElem?_eq_none (by omega),List.getElem?_eq_none (by rw[insV_len];omega)]
 rintro a rfl
 refine⟨hm,_,getN I.len hm,(insV_len v0 z).symm,by omega,by rw[insV_len];omega,F.ok,?_⟩
 generalize hr:gateR z.kind (v0.getD m 0) (insV v0 z)=r at F sound ⊢
 have hle:=F.le
 rw[hr] at hle
 refine joinI ⟨fun q=>⟨fun _=>h2 _ _ fun t ht=>?_,(fun e=>by cases e)⟩,fun q=>?_⟩
 ·have:=(sound t ht).1
  rw[this] at q;cases q
 have hok:r.2.2=true:=by simpa using q
 obtain⟨le1,le2,le3⟩:=hle hok
 have S0:GS c given m v0 w0 v0 w0 True:=⟨I,Nat.le_refl _,fun _ _=>rfl,.inr ⟨rfl,trivial⟩⟩
 refine gput_vc p S0 hm le1 (fun t ht=>(sound t ht).2.1) (.inl rfl) (fun v w S=>⟨(fun e=>by cases e),fun _=>?_⟩) (fun v w hn=>⟨fun _=>h2 _ _ hn,(fun e=>by cases e)⟩)
 refine joinLoop (fun s=>s.2.2≤z.ins.length∧GS c given m v0 w0 s.1 s.2.1 ((True∧Blw r.1 (v0.getD m 0))∧∀ j,j<s.2.2→Blw (r.2.1.getD j 0) ((insV v0 z).getD j 0))) (fun s=>z.ins.length-s.2.2) (fun s=>GS c given m v0 w0 s.1 s.2 ((True∧Blw r.1 (v0.getD m 0))∧∀ j,j<z.ins.length→Blw (r.2.1.getD j 0) ((insV v0 z).getD j 0))) ?_ ⟨Nat.zero_le _,S.to fun _ d=>⟨d,fun j hj=>absurd hj (Nat.not_lt_zero _)⟩⟩ ?_
 ·rintro k ⟨v,w,j⟩ nx ⟨hj,S⟩ hnx hk
  dsimp only at hj S
  refine⟨fun q=>?_,fun q=>?_⟩
  ·have q:=lt_t.1 q
   (try dsimp only at q)
   obtain⟨y,hy⟩:=get_lt q
   have hyn:=G.ins y (List.mem_of_getElem? hy)
   have hjr:j<r.2.1.length:=by rw[le2,insV_len];exact q
   refine⟨y,hy,_,getD_some hjr,gput_vc p S hyn (le3 _ (getD_mem hjr)) (fun t ht=>?_) (.inr ⟨z,hz,List.mem_of_getElem? hy⟩) (fun v' w' S'=>⟨(fun e=>by cases e),fun _=>⟨by omega,hnx _ ⟨q,?_⟩ (by dsimp only;omega)⟩⟩) (fun v' w' hn=>⟨fun _=>h2 _ _ hn,(fun e=>by cases e)⟩)⟩
   ·have:=(sound t ht).2.2 j
    rw[insV_getD hy] at this
    exact this
   ·refine S'.to fun _ d=>⟨d.1.1,fun j' hj'=>?_⟩
    by_cases e:j'=j
    ·subst e;rw[insV_getD hy];exact d.2
    ·exact d.1.2 j' (by dsimp only at hj';omega)
  ·have q:=lt_f.1 q
   (try dsimp only at q)
   exact hk (v,w) (S.to fun _ d=>⟨d.1,fun j' hj'=>d.2 j' (by omega)⟩)
 ·rintro⟨v,w⟩ S
  dsimp only at S
  have I2:=S.inv
  refine h1 v w ⟨I2.len,I2.le,I2.wlt,I2.bnd,I2.snd,fun i hi=>?_⟩ S.le S.mono
  rcases I2.cls i hi with q|q
  ·subst q
   rcases S.or with q|⟨rfl,⟨_,d1⟩,d2⟩
   ·exact .inr (.inl q)
   ·refine .inr (.inr fun z' hz' _=>?_)
    rw[hz] at hz';cases hz'
    rw[hr]
    refine⟨hok,d1,fun j=>?_⟩
    by_cases e:j<z.ins.length
    ·exact d2 j e
    ·rw[getD_out (by rw[le2,insV_len];omega),getD_out (by rw[insV_len];omega)]
     exact .inr rfl
  ·exact .inr q
structure CloseOk (c:Circ) (given:List Asg) (v:List Nat):Prop where
 len:v.length=c.nodes.length
 le:∀ i,v.getD i 0≤2
 snd:∀ t,CW c given t→∀ i,Blw (v.getD i 0) (t.getD i 0)
 cls:∀ i,i<c.nodes.length→ClosedAt c v i
 giv:∀ a∈given,v.getD a.net 0=a.value
theorem close_vc {c:Circ} (p:Pln c) (f3:Few3 c) {given:List Asg} (hg:∀ a∈given,a.net<c.nodes.length∧a.value≤1) (hl:given.length<2 ^ 60) {K:List Nat×Bool×Nat→Prop}
  (h1:∀ v,CloseOk c given v→K (v,true,0)) (h2:(∀ t,¬ CW c given t)→K ([],false,0)):implies_Close_wp c given K:=by
 have hlen:=p.good.len
 unfold implies_Close_wp
 refine plain_vc p ⟨fun q=>absurd rfl (ne_t.1 q),fun _=>?_⟩
 refine search_none (l:=given) ?_ ?_ ?_
 ·intro k i nx a ha hi hn
  obtain⟨g1,g2⟩:=hg a (List.mem_of_getElem? ha)
  refine⟨fun _=>⟨a,ha,joinI ⟨fun q=>absurd (lt_t.1 q) (Nat.not_lt_zero _),fun _=>⟨fun q=>absurd (nlt_t.1 q) (by omega),fun _=>known_vc ?_⟩⟩⟩,fun q=>?_⟩
  ·rw[decide_eq_true g2]
   exact⟨(fun e=>by cases e),fun _=>⟨by omega,hn⟩⟩
  ·have:=lt_f.1 q;omega
 ·intro k i nx hi hk
  refine⟨fun q=>?_,fun _=>hk⟩
  have:=lt_t.1 q;omega
 refine fanout_vc p.good.fanOk ⟨by omega,by omega,?_⟩
 refine joinLoop (fun s=>s.2.2≤c.nodes.length∧s.1.length=c.nodes.length∧(∀ j,j<s.2.2→s.1.getD j 0=2)∧s.2.1=List.range s.2.2) (fun s=>c.nodes.length-s.2.2) (fun s=>s.1.length=c.nodes.length∧(∀ j,j<c.nodes.length→s.1.getD j 0=2)∧s.2=List.range c.nodes.length) ?_ ⟨Nat.zero_le _,by simp,(fun j hj=>absurd hj (Nat.not_lt_zero _)),rfl⟩ ?_
 ·rintro k ⟨v,w,i⟩ nx ⟨hi,h3,h4,h5⟩ hnx hk
  dsimp only at hi h3 h4 h5
  refine⟨fun q=>?_,fun q=>?_⟩
  ·have q:=lt_t.1 q
   (try dsimp only at q)
   refine⟨q,_,getN h3 q,by rw[h5];simp only[List.length_range,List.length_singleton];omega,by omega,hnx _ ⟨q,by simpa using h3,fun j hj=>?_,?_⟩ (by dsimp only;omega)⟩
   ·dsimp only at hj ⊢
    rw[getD_set (by omega)]
    by_cases e:i=j
    ·rw[if_pos e]
    ·rw[if_neg e];exact h4 j (by omega)
   ·dsimp only
    rw[h5,List.range_succ]
  ·have q:=lt_f.1 q
   (try dsimp only at q)
   have:i=c.nodes.length:=by omega
   subst this
   exact hk (v,w) ⟨h3,h4,h5⟩
 rintro⟨v,w⟩ ⟨h3,h4,h5⟩
 dsimp only at h3 h4 h5
 subst h5
 have I0:CI c given (fun _=>False) v (List.range c.nodes.length):=by
  refine⟨h3,fun i=>?_,fun i m=>List.mem_range.1 m,?_,fun t ht i=>?_,fun i hi=>.inr (.inl (List.mem_range.2 hi))⟩
  ·by_cases e:i<c.nodes.length
   ·rw[h4 i e];exact Nat.le_refl _
   ·rw[getD_out (by omega)];exact Nat.zero_le _
  ·have:v.count 2≤v.length:=List.count_le_length
   rw[List.length_range];omega
  ·by_cases e:i<c.nodes.length
   ·exact .inl (h4 i e)
   ·rw[getD_out (by omega),getD_out (by rw[ht.len];omega)]
    exact .inr rfl
 refine joinLoop (fun s=>s.2.2≤given.length∧CI c given (fun _=>False) s.1 s.2.1∧∀ a∈given.take s.2.2,s.1.getD a.net 0=a.value) (fun s=>given.length-s.2.2) (fun s=>CI c given (fun _=>False) s.1 s.2∧∀ a∈given,s.1.getD a.net 0=a.value) ?_ ⟨Nat.zero_le _,I0,fun a m=>by simp at m⟩ ?_
 ·rintro k ⟨v,w,i⟩ nx ⟨hi,I,hv⟩ hnx hk
  dsimp only at hi I hv
  refine⟨fun q=>?_,fun q=>?_⟩
  ·have q:=lt_t.1 q
   (try dsimp only at q)
   obtain⟨a,ha⟩:=get_lt q
   obtain⟨l1,l2⟩:=List.getElem?_eq_some_iff.1 ha
   have hmem:=List.mem_of_getElem? ha
   obtain⟨g1,g2⟩:=hg a hmem
   have hb:=I.bnd
   have tk:∀ a'∈given.take (i+1),a'∈given.take i∨a'=a:=by
    intro a' m
    rw[List.take_succ_eq_append_getElem l1,l2] at m
    rcases List.mem_append.1 m with m|m
    ·exact .inl m
    ·exact .inr (List.mem_singleton.1 m)
   refine⟨a,ha,put_vc p.good I.len g1 (by omega) (fun e=>⟨(fun e2=>by cases e2),fun _=>⟨by omega,hnx _ ⟨q,I,fun a' m=>?_⟩ (by dsimp only;omega)⟩⟩) (fun e1 e2=>⟨(fun e3=>by cases e3),fun _=>⟨by omega,hnx _ ⟨q,(I.put p.good g1 e2 e1 (by omega) fun t ht=>ht.ext a hmem).1,fun a' m=>?_⟩ (by dsimp only;omega)⟩⟩) (fun e1 e2 e3=>⟨fun _=>h2 fun t ht=>?_,(fun e=>by cases e)⟩)⟩
   ·rcases tk a' m with m|rfl
    ·exact hv a' m
    ·rcases e with e|e
     ·omega
     ·exact e
   ·have hnl:a.net<v.length:=by rw[I.len];exact g1
    dsimp only
    rw[getD_set hnl]
    rcases tk a' m with m|rfl
    ·have e4:=hv a' m
     by_cases e:a.net=a'.net
     ·have:=(hg a' (List.mem_of_mem_take m)).2
      rw[← e,e2] at e4
      omega
     ·rw[if_neg e];exact e4
    ·rw[if_pos rfl]
   ·have b1:=(I.snd t ht a.net).resolve_left e2
    rw[ht.ext a hmem] at b1
    exact e3 b1
  ·have q:=lt_f.1 q
   (try dsimp only at q)
   exact hk (v,w) ⟨I,fun a m=>hv a (by rw[List.take_of_length_le q];exact m)⟩
 rintro⟨v,w⟩ ⟨I,hv⟩
 dsimp only at I hv
 refine joinLoop (fun s=>CI c given (fun _=>False) s.1 s.2∧∀ a∈given,s.1.getD a.net 0=a.value) (fun s=>s.1.count 2*1001+s.2.length) (fun s=>CloseOk c given s.1) ?_ ⟨I,hv⟩ ?_
 ·rintro k ⟨v,w⟩ nx ⟨I,hv⟩ hnx hk
  dsimp only at I hv
  refine⟨fun q=>?_,fun q=>?_⟩
  ·have q:=lt_t.1 q
   (try dsimp only at q)
   obtain⟨m,w',rfl⟩:∃ m w',w=m::w':=by
    cases w with
    |nil=>exact absurd q (Nat.lt_irrefl _)
    |cons m w'=>exact⟨m,w',rfl⟩
   have hm:=I.wlt m (by simp)
   obtain⟨z,hz⟩:=get_lt hm
   have hb:=I.bnd
   rw[List.length_cons] at hb
   refine⟨m,rfl,by rw[List.length_cons];omega,z,hz,free_vc ⟨fun e=>?_,fun e=>?_⟩⟩
   ·refine hnx _ ⟨⟨I.len,I.le,fun i hi=>I.wlt i (List.mem_cons_of_mem _ hi),by simp only[List.drop_succ_cons,List.drop_zero];omega,I.snd,fun i hi=>?_⟩,hv⟩ (by simp)
    rcases I.cls i hi with r|r|r
    ·exact .inl r
    ·rcases List.mem_cons.1 r with rfl|r
     ·refine .inr (.inr fun z' hz' hf=>?_)
      rw[hz] at hz';cases hz'
      rw[e] at hf;cases hf
     ·exact .inr (.inl r)
    ·exact .inr (.inr r)
   ·have I':CI c given (· = m) v w':=by
     refine⟨I.len,I.le,fun i hi=>I.wlt i (List.mem_cons_of_mem _ hi),by omega,I.snd,fun i hi=>?_⟩
     rcases I.cls i hi with r|r|r
     ·exact r.elim
     ·rcases List.mem_cons.1 r with rfl|r
      ·exact .inl rfl
      ·exact .inr (.inl r)
     ·exact .inr (.inr r)
    refine gate_vc p f3 hz e I' (fun v2 w2 I2 hle hmono=>⟨(fun e2=>by cases e2),fun _=>hnx _ ⟨I2,fun a ha=>?_⟩ ?_⟩) (fun v2 w2 hn=>⟨fun _=>h2 hn,(fun e2=>by cases e2)⟩)
    ·have e3:=hv a ha
     have:=(hg a ha).2
     have e4:=hmono a.net (by omega)
     dsimp only
     rw[e4,e3]
    ·dsimp only
     have e5:(m::w').length=w'.length+1:=List.length_cons
     have hle:v2.count 2*1001+w2.length≤v.count 2*1001+w'.length:=hle
     omega
  ·have q:=lt_f.1 q
   (try dsimp only at q)
   have e:w=[]:=List.length_eq_zero_iff.1 (by omega)
   subst e
   refine hk (v,[]) ⟨I.len,I.le,I.snd,fun i hi=>?_,hv⟩
   rcases I.cls i hi with r|r|r
   ·exact r.elim
   ·cases r
   ·exact r
 ·rintro⟨v,w⟩ C
  exact⟨C.len.symm,by rw[C.len];exact p.good.pos,h1 v C⟩
def givenN (n:Nat) (l:List U2):List Asg:=l.map fun u=>⟨u.a%n,u.b%2⟩
theorem given_vc {n:Nat}{l:List U2} (hn:0<n) (hl:∀ u∈l,u.a<256) (hlen:l.length≤6) {K:List Asg→Prop} (h:K (givenN n l)):probecardlaw24_Given_wp n l K:=by
 unfold probecardlaw24_Given_wp
 refine joinLoop (fun s=>s.2≤l.length∧s.1=givenN n (l.take s.2)) (fun s=>l.length-s.2) (fun a=>a=givenN n l) ?_ ⟨Nat.zero_le _,by simp[givenN]⟩ (fun a e=>by rw[e];exact h)
 rintro k ⟨o,i⟩ nx ⟨hi,hI⟩ hnx hk
 dsimp only at hi hI
 refine joinI ⟨fun q=>⟨fun _=>?_,fun e=>?_⟩,fun q=>⟨(fun e=>by cases e),fun _=>?_⟩⟩
 ·have q:=lt_t.1 q
  (try dsimp only at q)
  obtain⟨u,hu⟩:=get_lt q
  obtain⟨l1,l2⟩:=List.getElem?_eq_some_iff.1 hu
  refine⟨u,hu,hl u (List.mem_of_getElem? hu),hn,u,hu,by decide,by rw[hI];simp only[givenN,List.length_map,List.length_take,List.length_singleton];omega,by omega,hnx _ ⟨q,?_⟩ (by dsimp only;omega)⟩
  dsimp only
  rw[hI,List.take_succ_eq_append_getElem l1,l2]
  unfold givenN
  rw[List.map_append]
  rfl
 ·exact absurd (lt_f.1 e) (by omega)
 ·have q:=lt_f.1 q
  (try dsimp only at q)
  exact hk o (by rw[hI,List.take_of_length_le q])
theorem given_ok {n:Nat}{l:List U2} (hn:0<n):∀ a∈givenN n l,a.net<n∧a.value≤1:=by
 intro a m
 obtain⟨u,_,rfl⟩:=List.mem_map.1 m
 refine⟨Nat.mod_lt _ hn,?_⟩
 have:=Nat.mod_lt u.b (show 0<2 by decide)
 dsimp only
 omega
theorem gateK_few (bus:Bool) (g:GData) (ks:List Nat):(gateK bus g ks).ins.length≤3:=by
 unfold gateK
 generalize (if bus then g.kind%13 else g.kind%9)=kk
 repeat' split
 all_goals simp only
 all_goals first | (simp;done) | (split <;> simp)
theorem circ_few3 {x:CData} (hm:x.mem=false):Few3 (circN x):=by
 intro i y h
 rcases circ_node hm h with⟨_,rfl⟩|⟨_,_,d,_,rfl⟩|⟨_,_,g,rfl⟩
 ·exact Nat.zero_le _
 ·show (1:Nat)≤3;decide
 ·exact gateK_few _ _ _
theorem CloseOk.cw {c:Circ}{given:List Asg}{v:List Nat} (C:CloseOk c given v):CW c given v :=
 ⟨C.len,C.le,C.giv,fun i=>by
  by_cases h:i<c.nodes.length
  ·exact C.cls i h
  ·intro x hx _;exact absurd (lt_of_get hx) h⟩
theorem blw_antisymm {v w:List Nat} (hl:v.length=w.length) (h1:∀ i,Blw (v.getD i 0) (w.getD i 0)) (h2:∀ i,Blw (w.getD i 0) (v.getD i 0)):v=w:=by
 refine List.ext_getElem hl fun i a b=>?_
 have e1:=h1 i
 have e2:=h2 i
 rw[List.getD,List.getElem?_eq_getElem a,List.getD,List.getElem?_eq_getElem b] at e1
 rw[List.getD,List.getElem?_eq_getElem b,List.getD,List.getElem?_eq_getElem a] at e2
 simp only[Option.getD_some] at e1 e2
 rcases e1 with e1|e1
 ·rcases e2 with e2|e2
  ·omega
  ·omega
 ·exact e1
theorem CloseOk.eq {c:Circ}{given:List Asg}{v w:List Nat} (C:CloseOk c given v) (D:CloseOk c given w):v=w :=
 blw_antisymm (C.len.trans D.len.symm) (C.snd w D.cw) (D.snd v C.cw)
open Classical in
noncomputable def clo (c:Circ) (given:List Asg):Option (List Nat):=if h:∃ v,CloseOk c given v then some (Classical.choose h) else none
theorem clo_ok {c:Circ}{given:List Asg}{v:List Nat} (C:CloseOk c given v):clo c given=some v:=by
 unfold clo
 rw[dif_pos ⟨v,C⟩]
 exact congrArg some ((Classical.choose_spec (⟨v,C⟩:∃ v,CloseOk c given v)).eq C)
theorem clo_none {c:Circ}{given:List Asg} (n:∀ t,¬ CW c given t):clo c given=none:=by
 unfold clo
 rw[dif_neg (fun ⟨v,C⟩=>n v C.cw)]
theorem clo_some {c:Circ}{given:List Asg}{v:List Nat} (h:clo c given=some v):CloseOk c given v:=by
 unfold clo at h
 split at h
 ·rename_i e
  cases h
  exact Classical.choose_spec e
 ·cases h
def cloR (o:Option (List Nat)):List Nat×Bool×Nat:=match o with
 |some v=>(v,true,0)
 |none=>([],false,0)
structure GivOk (c:Circ) (given:List Asg):Prop where
 ok:∀ a∈given,a.net<c.nodes.length∧a.value≤1
 len:given.length<2 ^ 60
theorem clo_cases {c:Circ} (p:Pln c) (f3:Few3 c) {given:List Asg} (g:GivOk c given):(∃ v,CloseOk c given v∧clo c given=some v)∨((∀ t,¬ CW c given t)∧clo c given=none):=by
 have:=close_vc p f3 g.ok g.len (K:=fun r=>(∃ v,CloseOk c given v∧r=cloR (some v))∨((∀ t,¬ CW c given t)∧r=cloR none)) (fun v C=>.inl ⟨v,C,rfl⟩) (fun n=>.inr ⟨n,rfl⟩)
 obtain⟨r,h|h,_⟩:=implies_Close_walk this (h0:=heapOf vars) (fun i o e=>by rw[heapOf_get];exact e)
 ·obtain⟨v,C,_⟩:=h
  exact .inl ⟨v,C,clo_ok C⟩
 ·exact .inr ⟨h.1,clo_none h.1⟩
theorem clo_vc {c:Circ} (p:Pln c) (f3:Few3 c) {given:List Asg} (g:GivOk c given) {K:List Nat×Bool×Nat→Prop} (h:K (cloR (clo c given))):implies_Close_wp c given K:=by
 refine close_vc p f3 g.ok g.len (fun v C=>?_) fun n=>?_
 ·rw[clo_ok C] at h;exact h
 ·rw[clo_none n] at h;exact h
def putF (v:List Nat) (m x:Nat):Option (List Nat) :=
 if x=2 then some v else if v.getD m 0=2 then some (v.set m x) else if v.getD m 0=x then some v else none
def putsF (v:List Nat):List (Nat×Nat)→Option (List Nat)
 |[]=>some v
 |(m,x)::r=>match putF v m x with
  |some v=>putsF v r
  |none=>none
def gateF (c:Circ) (v:List Nat) (i:Nat):Option (List Nat):=match c.nodes[i]? with
 |some z=>match isFree z.kind with
  |true=>some v
  |false=>match gateR z.kind (v.getD i 0) (insV v z) with
   |(o,ins,ok)=>match ok with
    |true=>putsF v ((i,o)::z.ins.zip ins)
    |false=>none
 |none=>some v
def passF (c:Circ) (v:List Nat):List Nat→Option (List Nat)
 |[]=>some v
 |i::r=>match gateF c v i with
  |some v=>passF c v r
  |none=>none
def iterF (c:Circ):Nat→List Nat→Option (List Nat)
 |0,v=>some v
 |n+1,v=>match passF c v (List.range c.nodes.length) with
  |some v=>iterF c n v
  |none=>none
def closeF (c:Circ) (given:List Asg):Option (List Nat):=match putsF (List.replicate c.nodes.length 2) (given.map fun a=>(a.net,a.value)) with
 |some v=>iterF c c.nodes.length v
 |none=>none
structure UnderF (c:Circ) (given:List Asg) (v:List Nat):Prop where
 len:v.length=c.nodes.length
 le:∀ i,v.getD i 0≤2
 snd:∀ t,CW c given t→∀ i,Blw (v.getD i 0) (t.getD i 0)
theorem put_under {c:Circ}{given:List Asg}{v:List Nat} (U:UnderF c given v) {m x:Nat} (hm:m<c.nodes.length) (hx:x≤2) (hs:∀ t,CW c given t→Blw x (t.getD m 0)) :
  (∀ w,putF v m x=some w→UnderF c given w)∧(putF v m x=none→∀ t,¬ CW c given t):=by
 have hml:m<v.length:=by rw[U.len];exact hm
 unfold putF
 split
 ·exact⟨fun w e=>by cases e;exact U,fun e=>by cases e⟩
 rename_i h2
 split
 ·refine⟨fun w e=>?_,fun e=>by cases e⟩
  cases e
  refine⟨by rw[List.length_set];exact U.len,fun i=>?_,fun t ht i=>?_⟩
  ·rw[getD_set hml];split
   ·exact hx
   ·exact U.le i
  ·rw[getD_set hml];split
   ·rename_i e;subst e;exact hs t ht
   ·exact U.snd t ht i
 rename_i h3
 split
 ·exact⟨fun w e=>by cases e;exact U,fun e=>by cases e⟩
 rename_i h4
 refine⟨(fun w e=>by cases e),fun _ t ht=>?_⟩
 have a:=(hs t ht).resolve_left h2
 have b:=(U.snd t ht m).resolve_left h3
 exact h4 (b.trans a.symm)
theorem puts_under {c:Circ}{given:List Asg}:∀ {l:List (Nat×Nat)}{v:List Nat},UnderF c given v→(∀ q∈l,q.1<c.nodes.length∧q.2≤2∧∀ t,CW c given t→Blw q.2 (t.getD q.1 0)) →
  (∀ w,putsF v l=some w→UnderF c given w)∧(putsF v l=none→∀ t,¬ CW c given t)
 |[],v,U,_=>⟨fun w e=>by cases e;exact U,fun e=>by cases e⟩
 |(m,x)::r,v,U,h=>by
  obtain⟨h1,h2,h3⟩:=h (m,x) (by simp)
  obtain⟨k1,k2⟩:=put_under U h1 h2 h3
  unfold putsF
  cases e:putF v m x with
  |some v'=>exact puts_under (k1 v' e) fun q m=>h q (by simp[m])
  |none=>exact⟨(fun w q=>by cases q),fun _=>k2 e⟩
theorem gate_under {c:Circ} (p:Pln c) (f3:Few3 c) {given:List Asg}{v:List Nat} (U:UnderF c given v) (m:Nat) :
  (∀ w,gateF c v m=some w→UnderF c given w)∧(gateF c v m=none→∀ t,¬ CW c given t):=by
 unfold gateF
 cases hz:c.nodes[m]? with
 |none=>exact⟨fun w e=>by cases e;exact U,fun e=>by cases e⟩
 |some z =>
  dsimp only
  cases hf:isFree z.kind with
  |true=>exact⟨fun w e=>by cases e;exact U,fun e=>by cases e⟩
  |false =>
   dsimp only
   have hm:=lt_of_get hz
   have hg:=p.gate hz hf
   have G:=p.good.node m z hz
   have hl3:=f3 m z hz
   have F:GF z.kind (v.getD m 0) (insV v z):=gf hg.1 hg.2 (by rw[insV_len];exact G.arity) (by rw[insV_len];exact hl3) (U.le m) (insV_le U.le z)
   have sound:∀ t,CW c given t→(gateR z.kind (v.getD m 0) (insV v z)).2.2=true∧Blw (gateR z.kind (v.getD m 0) (insV v z)).1 (t.getD m 0)∧∀ j,Blw ((gateR z.kind (v.getD m 0) (insV v z)).2.1.getD j 0) ((insV t z).getD j 0):=by
    intro t ht
    obtain⟨k1,k2,k3⟩:=ht.cls m z hz hf
    have M:=(gate_mono (o:=v.getD m 0) (l:=insV v z) hg.1 hg.2 (by rw[insV_len];exact G.arity) (by rw[insV_len];exact hl3) (ht.le m) (insV_le ht.le z) (U.snd t ht m) (by rw[insV_len,insV_len]) (fun j=>?_) k1).1
    ·exact⟨M.1,M.2.1.trans k2,fun j=>(M.2.2 j).trans (k3 j)⟩
    ·by_cases hj:j<z.ins.length
     ·obtain⟨y,hy⟩:=get_lt hj
      rw[insV_getD hy,insV_getD hy]
      exact U.snd t ht y
     ·rw[getD_out (by rw[insV_len];omega),getD_out (by rw[insV_len];omega)]
      exact .inr rfl
   generalize hr:gateR z.kind (v.getD m 0) (insV v z)=r at F sound
   obtain⟨o,ins,ok⟩:=r
   have FL:=F.le
   rw[hr] at FL
   dsimp only at sound FL ⊢
   cases ok with
   |false=>exact⟨(fun w e=>by cases e),fun _ t ht=>by have:=(sound t ht).1;cases this⟩
   |true =>
    obtain⟨b1,b2,b3⟩:=FL rfl
    refine puts_under U fun q hq=>?_
    rcases List.mem_cons.1 hq with rfl|hq
    ·exact⟨hm,b1,fun t ht=>(sound t ht).2.1⟩
    ·obtain⟨y,x⟩:=q
     obtain⟨j,hj,e⟩:=List.getElem_of_mem hq
     have hj1:j<z.ins.length:=by rw[List.length_zip] at hj;omega
     have hj2:j<ins.length:=by rw[List.length_zip] at hj;omega
     rw[List.getElem_zip] at e
     cases e
     refine⟨G.ins _ (List.getElem_mem hj1),b3 _ (List.getElem_mem hj2),fun t ht=>?_⟩
     have:=(sound t ht).2.2 j
     rw[insV_getD (List.getElem?_eq_getElem hj1),List.getD,List.getElem?_eq_getElem hj2] at this
     exact this
theorem pass_under {c:Circ} (p:Pln c) (f3:Few3 c) {given:List Asg}:∀ {l:List Nat}{v:List Nat},UnderF c given v→(∀ w,passF c v l=some w→UnderF c given w)∧(passF c v l=none→∀ t,¬ CW c given t)
 |[],v,U=>⟨fun w e=>by cases e;exact U,fun e=>by cases e⟩
 |i::r,v,U=>by
  obtain⟨k1,k2⟩:=gate_under p f3 U i
  unfold passF
  cases e:gateF c v i with
  |some v'=>exact pass_under p f3 (k1 v' e)
  |none=>exact⟨(fun w q=>by cases q),fun _=>k2 e⟩
theorem iter_under {c:Circ} (p:Pln c) (f3:Few3 c) {given:List Asg}:∀ {n:Nat}{v:List Nat},UnderF c given v→(∀ w,iterF c n v=some w→UnderF c given w)∧(iterF c n v=none→∀ t,¬ CW c given t)
 |0,v,U=>⟨fun w e=>by cases e;exact U,fun e=>by cases e⟩
 |n+1,v,U=>by
  obtain⟨k1,k2⟩:=pass_under p f3 U (l:=List.range c.nodes.length)
  unfold iterF
  cases e:passF c v (List.range c.nodes.length) with
  |some v'=>exact iter_under p f3 (k1 v' e)
  |none=>exact⟨(fun w q=>by cases q),fun _=>k2 e⟩
def closedB (c:Circ) (v:List Nat):Bool:=(List.range c.nodes.length).all fun i=>match c.nodes[i]? with
 |some z=>isFree z.kind||match gateR z.kind (v.getD i 0) (insV v z) with
  |(o,ins,ok)=>ok&&blw o (v.getD i 0)&&blwL ins (insV v z)
 |none=>true
theorem closedB_ok {c:Circ}{v:List Nat} (h:closedB c v=true):∀ i,i<c.nodes.length→ClosedAt c v i:=by
 intro i hi z hz hf
 have q:=List.all_eq_true.1 h i (List.mem_range.2 hi)
 rw[hz] at q
 dsimp only at q
 rw[hf,Bool.false_or] at q
 generalize gateR z.kind (v.getD i 0) (insV v z)=r at q
 obtain⟨o,ins,ok⟩:=r
 dsimp only at q ⊢
 rw[Bool.and_eq_true,Bool.and_eq_true,blw_iff,blwL_iff] at q
 exact⟨q.1.1,q.1.2,q.2.2⟩
theorem closeF_under {c:Circ} (p:Pln c) (f3:Few3 c) {given:List Asg} (g:GivOk c given):(∀ v,closeF c given=some v→UnderF c given v)∧(closeF c given=none→∀ t,¬ CW c given t):=by
 have U0:UnderF c given (List.replicate c.nodes.length 2):=by
  refine⟨List.length_replicate ..,fun i=>?_,fun t ht i=>?_⟩
  ·rw[List.getD,List.getElem?_replicate];split <;> simp
  ·by_cases hi:i<c.nodes.length
   ·left;rw[List.getD,List.getElem?_replicate,if_pos hi];rfl
   ·right;rw[getD_out (by rw[List.length_replicate];omega),getD_out (by rw[ht.len];omega)]
 obtain⟨k1,k2⟩:=puts_under U0 (l:=given.map fun a=>(a.net,a.value)) fun q m=>by
  obtain⟨a,ha,rfl⟩:=List.mem_map.1 m
  obtain⟨a1,a2⟩:=g.ok a ha
  exact⟨a1,by dsimp only;omega,fun t ht=>.inr (ht.ext a ha).symm⟩
 unfold closeF
 cases e:putsF (List.replicate c.nodes.length 2) (given.map fun a=>(a.net,a.value)) with
 |some v=>exact iter_under p f3 (k1 v e)
 |none=>exact⟨(fun w q=>by cases q),fun _=>k2 e⟩
def closeC (c:Circ) (given:List Asg) (v:List Nat):Bool:=match closeF c given with
 |some w=>eqLs v w&&closedB c w&&given.all fun a=>Nat.beq (w.getD a.net 0) a.value
 |none=>false
theorem eqLs_iff:∀ {l m:List Nat},eqLs l m=true→l=m
 |[],[],_=>rfl
 |[],_::_,h=>by cases h
 |_::_,[],h=>by cases h
 |a::l,b::m,h=>by
  unfold eqLs at h
  rw[Bool.and_eq_true,Nat.beq_eq] at h
  rw[h.1,eqLs_iff h.2]
theorem closeC_ok {c:Circ} (p:Pln c) (f3:Few3 c) {given:List Asg} (g:GivOk c given) {v:List Nat} (h:closeC c given v=true):clo c given=some v:=by
 unfold closeC at h
 cases e:closeF c given with
 |none=>rw[e] at h;cases h
 |some w =>
  rw[e] at h
  dsimp only at h
  rw[Bool.and_eq_true,Bool.and_eq_true] at h
  obtain⟨⟨h1,h2⟩,h3⟩:=h
  rw[eqLs_iff h1]
  have U:=(closeF_under p f3 g).1 w e
  exact clo_ok ⟨U.len,U.le,U.snd,closedB_ok h2,fun a m=>Nat.eq_of_beq_eq_true (List.all_eq_true.1 h3 a m)⟩
theorem closeN_ok {c:Circ} (p:Pln c) (f3:Few3 c) {given:List Asg} (g:GivOk c given) (h:closeF c given=none):clo c given=none:=clo_none ((closeF_under p f3 g).2 h)
structure Lawv where
 cond:Asg
 thn:Asg
def encLaw (x:Lawv):Value:=.agg ⟨[i64 x.cond.net,n8 x.cond.value,i64 x.thn.net,n8 x.thn.value]⟩
theorem pure_lawC (x:Lawv):AllPure (cl (encLaw x)):=AllPure.cons (PureV.flat rfl) (AllPure.cons (PureV.flat rfl) (AllPure.cons (PureV.flat rfl) (AllPure.cons (PureV.flat rfl) AllPure.nil)))
end Go.Proofs.YtfhldkgelipnaaaGreatDoor
