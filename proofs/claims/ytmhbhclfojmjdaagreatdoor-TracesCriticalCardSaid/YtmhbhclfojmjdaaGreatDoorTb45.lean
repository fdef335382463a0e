/-
  U3: parts of the proof.
-/
import Derived.Test.YtmhbhclfojmjdaaGreatDoorTb44
namespace Go.Proofs.YtmhbhclfojmjdaaGreatDoor
open Go.Abs
set_option maxRecDepth 100000
def solL (c:Circ) (p:Pat) (nt:Nat→Nat→Nat) (pn:Nat→Nat→Nat→Nat):Nat→List Nat
 |0=>[]
 |i+1=>solL c p nt pn i++[match c.nodes[i]? with|some x=>nt i (baseV c p pn (solL c p nt pn i) i x) | none=>0]
def sol (c:Circ) (p:Pat) (nt:Nat→Nat→Nat) (pn:Nat→Nat→Nat→Nat):List Nat:=solL c p nt pn c.nodes.length
theorem solL_len {c:Circ}{p:Pat}{nt:Nat→Nat→Nat}{pn:Nat→Nat→Nat→Nat}:∀ n,(solL c p nt pn n).length=n
 |0=>rfl
 |n+1=>by rw[solL,List.length_append,solL_len n];rfl
theorem solL_get {c:Circ}{p:Pat}{nt:Nat→Nat→Nat}{pn:Nat→Nat→Nat→Nat}{i:Nat}:∀ {n},i<n→(solL c p nt pn n).getD i 0=(solL c p nt pn (i+1)).getD i 0:=by
 intro n
 induction n with
 |zero=>intro h;omega
 |succ n ih =>
  intro h
  by_cases e:i=n
  ·subst e;rfl
  ·rw[← ih (by omega)]
   rw[solL,List.getD,List.getD,List.getElem?_append_left (by rw[solL_len];omega)]
theorem solL_last {c:Circ}{p:Pat}{nt:Nat→Nat→Nat}{pn:Nat→Nat→Nat→Nat}{i:Nat}{x:Node} (hx:c.nodes[i]?=some x):(solL c p nt pn (i+1)).getD i 0=nt i (baseV c p pn (solL c p nt pn i) i x):=by
 rw[solL,List.getD,List.getElem?_append_right (by rw[solL_len];omega),solL_len,Nat.sub_self,hx]
 rfl
theorem srcV_le {c:Circ}{p:Pat} (hp:PatOk c p) (i:Nat):srcV c p i≤3:=by
 unfold srcV
 have key:∀ (l:List Nat) (j:Nat),(∀ v∈l,v≤3)→l.getD j 0≤3:=by
  intro l j h
  by_cases q:j<l.length
  ·exact h _ (getD_mem q)
  ·rw[List.getD,List.getElem?_eq_none (by omega)];exact Nat.zero_le _
 split
 ·exact key _ _ hp.inpv
 split
 ·exact key _ _ hp.statev
 ·omega
theorem baseV_le {c:Circ}{p:Pat} (hp:PatOk c p) {pn:Nat→Nat→Nat→Nat} (h2:∀ m j v,v≤3→pn m j v≤3) {t:List Nat} (ht:∀ i,t.getD i 0≤3) (i:Nat) (x:Node):baseV c p pn t i x≤3:=by
 unfold baseV
 split
 ·exact evalG_le _ (readV_le h2 ht)
 ·exact srcV_le hp i
theorem solL_le {c:Circ}{p:Pat} (hp:PatOk c p) {nt:Nat→Nat→Nat}{pn:Nat→Nat→Nat→Nat} (h1:∀ i v,v≤3→nt i v≤3) (h2:∀ m j v,v≤3→pn m j v≤3):∀ n i,(solL c p nt pn n).getD i 0≤3
 |0,i=>by rw[solL];simp
 |n+1,i=>by
  by_cases q:i<n
  ·rw[solL,List.getD,List.getElem?_append_left (by rw[solL_len];omega)]
   exact solL_le hp h1 h2 n i
  by_cases e:i=n
  ·subst e
   cases hx:c.nodes[i]? with
   |none =>
    rw[solL,List.getD,List.getElem?_append_right (by rw[solL_len];omega),solL_len,Nat.sub_self,hx]
    exact Nat.zero_le _
   |some x =>
    rw[solL_last hx]
    exact h1 _ _ (baseV_le hp h2 (solL_le hp h1 h2 i) _ _)
  ·rw[List.getD,List.getElem?_eq_none (by rw[solL_len];omega)]
   exact Nat.zero_le _
theorem sol_ok {c:Circ} (C:Cir c) {p:Pat} (hp:PatOk c p) {nt:Nat→Nat→Nat}{pn:Nat→Nat→Nat→Nat} (h1:∀ i v,v≤3→nt i v≤3) (h2:∀ m j v,v≤3→pn m j v≤3):Sol c p nt pn (sol c p nt pn):=by
 refine⟨solL_len _,fun i x hx=>?_,solL_le hp h1 h2 _⟩
 have hi:=lt_of_get hx
 unfold sol
 rw[solL_get hi,solL_last hx]
 congr 1
 unfold baseV
 split
 ·rename_i hc
  have hc:=of_decide_eq_true hc
  congr 1
  refine readV_congr fun k hk=>?_
  have:=(C.good.node i x hx).acyc hc.1 hc.2 k hk
  rw[solL_get this,← solL_get (n:=c.nodes.length) (by omega)]
 ·rfl
theorem Sol.is {c:Circ} (C:Cir c) {p:Pat} (hp:PatOk c p) {nt:Nat→Nat→Nat}{pn:Nat→Nat→Nat→Nat} (h1:∀ i v,v≤3→nt i v≤3) (h2:∀ m j v,v≤3→pn m j v≤3) {t:List Nat} (T:Sol c p nt pn t):t=sol c p nt pn:=T.eq C (sol_ok C hp h1 h2)
theorem evalNode {c:Circ} (C:Cir c) {m:Nat}{x:Node} (hx:c.nodes[m]?=some x) (hc:combB x.kind=true) {l:List Nat} (hl:l.length=x.ins.length) {K:Nat→Prop} (h:K (evalG x.kind l)):logic_Eval_wp x.kind l K:=by
 have hc:=of_decide_eq_true hc
 have g:=C.good.node m x hx
 have:=g.few
 exact evalG_vc hc.1 (by omega) (by rw[hl];exact g.arity) (by omega) h
theorem start_le {c:Circ} (C:Cir c) {p:Pat}{t1 t2:List Nat} (hp:PatOk c p) (l2:t2.length=c.nodes.length) (h1:∀ j f,(ofN c [0])[j]?=some f→t1.getD f 0=p.inp.getD j 0) (h0:∀ f,f ∉ ofN c [0]→t1.getD f 0=(List.replicate c.nodes.length 0).getD f 0)
  (h2:∀ j f,(ofN c [14])[j]?=some f→t2.getD f 0=p.state.getD j 0) (h3:∀ f,f ∉ ofN c [14]→t2.getD f 0=t1.getD f 0) (nt:Nat→Nat→Nat) (pn:Nat→Nat→Nat→Nat) (o:List Nat):RunS c p nt pn o t2 0:=by
 have key:=loads_vc C hp l2 h1 h2 h3
 refine⟨l2,fun j m x hj=>absurd hj (Nat.not_lt_zero _),fun j m x _ _ hx hc=>(key m x hx hc).1,fun i=>?_⟩
 by_cases q:i<c.nodes.length
 ·obtain⟨x,hx⟩:=get_lt q
  cases hc:combB x.kind with
  |false=>exact (key i x hx hc).2
  |true =>
   have hc:=of_decide_eq_true hc
   have e:=kd_eq hx
   rw[h3 i (fun m=>by have:=(ofN_mem.1 m).2;omega),h0 i (fun m=>by have:=(ofN_mem.1 m).2;omega)]
   rw[List.getD,List.getElem?_replicate]
   split <;> decide
 ·rw[List.getD,List.getElem?_eq_none (by omega)];exact Nat.zero_le _
theorem noncomb_base {c:Circ}{p:Pat}{pn:Nat→Nat→Nat→Nat}{t:List Nat}{m:Nat}{x:Node} (hc:combB x.kind=false):baseV c p pn t m x=srcV c p m:=by unfold baseV;rw[hc];rfl
theorem comb_base {c:Circ}{p:Pat}{pn:Nat→Nat→Nat→Nat}{t:List Nat}{m:Nat}{x:Node} (hc:combB x.kind=true):baseV c p pn t m x=evalG x.kind (readV pn t m x):=by unfold baseV;rw[hc];rfl
theorem run_vc {c:Circ} (C:Cir c) {p:Pat} (hp:PatOk c p) {K:Rsp×List Nat×Nat→Prop} (h:K (rspV c idP (sol c p idN idP),sol c p idN idP,0)):sims_Run_wp c p K:=by
 have hlen:=C.len
 have l0:=ofN_len c [0]
 have l2:=ofN_len c [14]
 have hid1:∀ i v,v≤3→idN i v≤3:=fun _ _ h=>h
 have hid2:∀ m j v,v≤3→idP m j v≤3:=fun _ _ _ h=>h
 unfold sims_Run_wp
 refine order_vc C.good fun o ho=>?_
 refine joinB' (a:=0) (fun F=>⟨fun _=>fits_vc C hp F,fun q=>by cases q⟩) ?_
 refine⟨(fun q=>by cases q),fun _=>⟨by omega,by omega,?_⟩⟩
 refine joinI (inputs_vc (by omega) (load_vc (n:=c.nodes.length) hlen l0 hp.inp (fun f m=>(ofN_mem.1 m).1) (ofN_nodup c [0]) List.length_replicate (fun t i nx ht h1 h2=>loadStep hlen l0 hp.inp (fun f m=>(ofN_mem.1 m).1) ht h1 h2) ?_))
 intro t1 e1 h1 h0
 refine states_vc (by omega) (load_vc (n:=c.nodes.length) hlen l2 hp.state (fun f m=>(ofN_mem.1 m).1) (ofN_nodup c [14]) e1 (fun t i nx ht h1 h2=>loadStep hlen l2 hp.state (fun f m=>(ofN_mem.1 m).1) ht h1 h2) ?_)
 intro t2 e2 h2 h3
 have hol:o.length=c.nodes.length:=by have:=ho.perm.length_eq;simpa using this
 refine joinLoop (fun s=>s.2.2.2≤o.length∧s.2.1.length=16∧RunS c p idN idP o s.1 s.2.2.2) (fun s=>o.length-s.2.2.2) (fun t=>t=sol c p idN idP) ?_ ⟨Nat.zero_le _,by simp,start_le C hp e2 h1 h0 h2 h3 _ _ _⟩ ?_
 ·rintro k ⟨t,b,n,i⟩ nx ⟨hi,hb,T⟩ hnx hk
  dsimp only at hi hb T
  refine⟨fun q=>?_,fun q=>hk t ?_⟩
  ·have q:i<o.length:=lt_t.1 q
   obtain⟨m,hm⟩:=get_lt q
   have hmn:m<c.nodes.length:=List.mem_range.1 (ho.perm.mem_iff.1 (List.mem_of_getElem? hm))
   obtain⟨x,hx⟩:=get_lt hmn
   have g:=C.good.node m x hx
   have hfew:=g.few
   refine joinP (fun s=>s.2.1.length=16∧RunS c p idN idP o s.1 (i+1)) (fun k' hk'=>?_) ?_
   ·refine⟨m,hm,x,hx,comb_vc ?_⟩
    cases hc:combB x.kind with
    |false =>
     have hc':=of_decide_eq_false hc
     rw[decide_eq_false hc']
     refine⟨fun _=>hk' _ ⟨hb,T.skip hm hx ?_⟩,fun e=>by cases e⟩
     rw[noncomb_base hc,T.todo i m x (Nat.le_refl _) hm hx hc]
     rfl
    |true =>
     have hc':=of_decide_eq_true hc
     rw[decide_eq_true hc']
     refine⟨(fun e=>by cases e),fun _=>⟨by decide,?_⟩⟩
     refine joinLoop (fun s=>s.2.2≤x.ins.length∧s.1.length=16∧s.2.1=s.2.2∧s.1.take s.2.2=(readV idP t m x).take s.2.2) (fun s=>x.ins.length-s.2.2) (fun s=>s.1.length=16∧s.2≤16∧s.1.take s.2=readV idP t m x) ?_ ⟨Nat.zero_le _,hb,rfl,rfl⟩ ?_
     ·rintro k2 ⟨b,n,j⟩ nx2 ⟨hj,hb,hn,ht⟩ hnx2 hk2
      dsimp only at hj hb hn ht
      subst hn
      refine⟨fun q=>?_,fun q=>hk2 _ ?_⟩
      ·have q:n<x.ins.length:=lt_t.1 q
       obtain⟨y,hy⟩:=get_lt q
       have hyn:=g.ins y (List.mem_of_getElem? hy)
       refine⟨y,hy,hyn,_,getN T.len hyn,by omega,by omega,by omega,hnx2 _ ⟨q,?_,rfl,?_⟩ (by dsimp only;omega)⟩
       ·simp only[List.length_append,List.length_take,List.length_drop,List.length_cons,List.length_nil];omega
       ·dsimp only
        have hv:=readV_get (pn:=idP) (t:=t) (m:=m) hy
        have hl:(b.take n).length=n:=by rw[List.length_take];omega
        rw[List.take_append,hl,show n+1-n=1 from by omega,List.take_of_length_le (by omega),take_succ_get hv,ht]
        rfl
      ·have q:x.ins.length≤n:=lt_f.1 q
       refine⟨hb,by dsimp only;omega,?_⟩
       dsimp only
       rw[ht,List.take_of_length_le (by rw[readV_len];exact q)]
     ·rintro⟨b,n⟩ ⟨hb,hn,ht⟩
      dsimp only at hb hn ht
      refine⟨by omega,?_⟩
      rw[ht]
      refine evalNode C hx hc readV_len ?_
      refine⟨hmn,_,getN T.len hmn,hk' _ ⟨hb,?_⟩⟩
      have:=T.step ho hm hx (by exact baseV_le hp hid2 T.le _ _)
      rw[comb_base hc] at this
      exact this
   ·rintro⟨t',b',n'⟩ ⟨hb',T'⟩
    exact⟨by omega,hnx _ ⟨q,hb',T'⟩ (by dsimp only;omega)⟩
  ·have q:o.length≤i:=lt_f.1 q
   have e:i=o.length:=by omega
   subst e
   exact (T.sol ho).is C hp hid1 hid2
 ·rintro _ rfl
  have S:=sol_ok C hp hid1 hid2
  exact⟨S.len.symm,observe_vc C S.len S.le h⟩
theorem injLoads {c:Circ} (C:Cir c) {p:Pat} (hp:PatOk c p) {rest:List Nat→List Nat→List Nat×Nat→Prop}
  (h:∀ t o,OrdOk c o→(∀ nt pn,RunS c p nt pn o t 0)→rest (ofN c [14]) t (o,0)) :
  1*c.nodes.length≤2 ^ 48∧c.nodes.length<2 ^ 63∧netlists_States_wp c (fun r414=>joinW (α:=(List Nat)) (fun k416=>netlists_Inputs_wp c (fun r417=>loopW (S:=((List Nat)×Nat)) (fun (v418,v419) nx420=>((ltN v419 r417.length)=true→∃ x421,r417[v419]?=some x421∧∃ x422,p.inp[v419]?=some x422∧x421<c.nodes.length∧∃ x423,v418[x421]?=some x423∧v419+1<2 ^ 63∧nx420 ((v418.set x421 x422),(v419+1)))∧((ltN v419 r417.length)=false→k416 v418)) ((List.replicate c.nodes.length (0:Nat)),0))) (fun v415=>joinW (α:=(List Nat)) (fun k425=>loopW (S:=((List Nat)×Nat)) (fun (v426,v427) nx428=>((ltN v427 r414.length)=true→∃ x429,r414[v427]?=some x429∧∃ x430,p.state[v427]?=some x430∧x429<c.nodes.length∧∃ x431,v426[x429]?=some x431∧v427+1<2 ^ 63∧nx428 ((v426.set x429 x430),(v427+1)))∧((ltN v427 r414.length)=false→k425 v426)) (v415,0)) (fun v424=>netlists_Order_wp c (fun r432=>rest r414 v424 r432)))):=by
 have hlen:=C.len
 have l0:=ofN_len c [0]
 have l2:=ofN_len c [14]
 refine⟨by omega,by omega,states_vc (by omega) (joinI (inputs_vc (by omega) (load_vc (n:=c.nodes.length) hlen l0 hp.inp (fun f m=>(ofN_mem.1 m).1) (ofN_nodup c [0]) List.length_replicate (fun t i nx ht h1 h2=>loadStep hlen l0 hp.inp (fun f m=>(ofN_mem.1 m).1) ht h1 h2) ?_)))⟩
 intro t1 e1 h1 h0
 refine joinI (load_vc (n:=c.nodes.length) hlen l2 hp.state (fun f m=>(ofN_mem.1 m).1) (ofN_nodup c [14]) e1 (fun t i nx ht h1 h2=>loadStep hlen l2 hp.state (fun f m=>(ofN_mem.1 m).1) ht h1 h2) ?_)
 intro t2 e2 h2 h3
 exact order_vc C.good fun o ho=>h t2 o ho fun nt pn=>start_le C hp e2 h1 h0 h2 h3 nt pn o
theorem injNode {c:Circ} (C:Cir c) {p:Pat}{nt:Nat→Nat→Nat}{pn:Nat→Nat→Nat→Nat}{o t:List Nat}{i m:Nat}{x:Node} (T:RunS c p nt pn o t i) (hm:o[i]?=some m) (hx:c.nodes[m]?=some x) {RD:(List Nat→Prop)→Prop} (hrd:∀ k,k (readV pn t m x)→RD k) {rest:List Nat→Prop}
  (h:∀ t1,t1.length=c.nodes.length→t1.getD m 0=baseV c p pn t m x→(∀ v,t1.set m v=t.set m v)→rest t1) :
  joinW (α:=(List Nat)) (fun k440=>∃ x441,c.nodes[m]?=some x441∧joinW (α:=Bool) (fun k443=>((neN x441.kind 0)=true→k443 (neN x441.kind 14))∧((neN x441.kind 0)=false→k443 false)) (fun v442=>(v442=true→∃ x444,c.nodes[m]?=some x444∧joinW (α:=(List Nat)) RD (fun v448=>logic_Eval_wp x444.kind v448 (fun r463=>m<c.nodes.length∧∃ x464,t[m]?=some x464∧k440 (t.set m r463))))∧(v442=false→k440 t))) rest:=by
 have hmn:=lt_of_get hx
 have hk:=C.kinds m x hx
 have e:(neN x.kind 0&&neN x.kind 14)=combB x.kind:=by
  rw[neN_eq,neN_eq]
  unfold combB
  rw[Bool.eq_iff_iff]
  simp only[Bool.and_eq_true,decide_eq_true_eq,Bool.not_eq_true',decide_eq_false_iff_not]
  omega
 refine joinI ⟨x,hx,joinB' (a:=combB x.kind) (fun F=>⟨fun q=>?_,fun q=>?_⟩) ⟨fun q=>⟨x,hx,joinI (hrd _ (evalNode C hx q readV_len ⟨hmn,_,getN T.len hmn,?_⟩))⟩,fun q=>?_⟩⟩
 ·rw[q,Bool.true_and] at e;rw[e];exact F
 ·rw[q,Bool.false_and] at e;rw[← e] at F;exact F
 ·refine h _ (by rw[List.length_set];exact T.len) ?_ fun v=>by rw[List.set_set]
  rw[getD_set (by rw[T.len];exact hmn),if_pos rfl,comb_base q]
 ·refine h t T.len ?_ fun _=>rfl
  rw[noncomb_base q]
  exact T.todo i m x (Nat.le_refl _) hm hx q
theorem rdA {c:Circ} (C:Cir c) {t:List Nat} (ht:t.length=c.nodes.length) {m:Nat}{x:Node} (hx:c.nodes[m]?=some x) (k:List Nat→Prop) (h:k (readV idP t m x)) :
  ∃ x451,c.nodes[m]?=some x451∧loopW (S:=((List Nat)×Nat)) (fun (v453,v454) nx456=>((ltN v454 x451.ins.length)=true→∃ x457,x451.ins[v454]?=some x457∧x457<c.nodes.length∧∃ x458,t[x457]?=some x458∧(v453.length+([x458]:(List Nat)).length)*1≤2 ^ 47∧v454+1<2 ^ 63∧nx456 ((v453++([x458]:(List Nat))),(v454+1)))∧((ltN v454 x451.ins.length)=false→k v453)) (([]:List Nat),0):=by
 have g:=C.good.node m x hx
 have hfew:=g.few
 refine⟨x,hx,loopW_intro (fun s=>s.2≤x.ins.length∧s.1=(readV idP t m x).take s.2) (fun s=>x.ins.length-s.2) ?_ ⟨Nat.zero_le _,rfl⟩⟩
 rintro⟨l,j⟩ nx ⟨hj,hl⟩ hnx
 dsimp only at hj hl
 refine⟨fun q=>?_,fun q=>?_⟩
 ·have q:j<x.ins.length:=lt_t.1 q
  obtain⟨y,hy⟩:=get_lt q
  have hyn:=g.ins y (List.mem_of_getElem? hy)
  refine⟨y,hy,hyn,_,getN ht hyn,?_,by omega,hnx _ ⟨q,?_⟩ (by dsimp only;omega)⟩
  ·rw[hl];simp only[List.length_take,List.length_cons,List.length_nil,readV_len];omega
  ·dsimp only
   rw[hl,take_succ_get (readV_get (pn:=idP) (t:=t) (m:=m) hy)]
   rfl
 ·have q:x.ins.length≤j:=lt_f.1 q
  rw[hl,List.take_of_length_le (by rw[readV_len];exact q)]
  exact h
def pinF (a:Nat) (pin:Int) (w:Nat):Nat→Nat→Nat→Nat:=fun m j v=>if m=a∧Int.ofNat j=pin then w else v
def netF (a w:Nat):Nat→Nat→Nat:=fun m v=>if m=a then w else v
theorem rdB {c:Circ} (C:Cir c) {t:List Nat} (ht:t.length=c.nodes.length) {m a w:Nat}{pin:Int}{x:Node} (hx:c.nodes[m]?=some x) (k:List Nat→Prop) (h:k (readV (pinF a pin w) t m x)) :
  ∃ x571,c.nodes[m]?=some x571∧loopW (S:=((List Nat)×Nat)) (fun (v573,v574) nx576=>((ltN v574 x571.ins.length)=true→∃ x577,x571.ins[v574]?=some x577∧x577<c.nodes.length∧∃ x578,t[x577]?=some x578∧joinW (α:=Bool) (fun k581=>((eqN m a)=true→k581 (eqZ (Int.ofNat v574) pin))∧((eqN m a)=false→k581 false)) (fun v579=>(v579=true→(v573.length+([w]:(List Nat)).length)*1≤2 ^ 47∧v574+1<2 ^ 63∧nx576 ((v573++([w]:(List Nat))),(v574+1)))∧(v579=false→(v573.length+([x578]:(List Nat)).length)*1≤2 ^ 47∧v574+1<2 ^ 63∧nx576 ((v573++([x578]:(List Nat))),(v574+1)))))∧((ltN v574 x571.ins.length)=false→k v573)) (([]:List Nat),0):=by
 have g:=C.good.node m x hx
 have hfew:=g.few
 refine⟨x,hx,loopW_intro (fun s=>s.2≤x.ins.length∧s.1=(readV (pinF a pin w) t m x).take s.2) (fun s=>x.ins.length-s.2) ?_ ⟨Nat.zero_le _,rfl⟩⟩
 rintro⟨l,j⟩ nx ⟨hj,hl⟩ hnx
 dsimp only at hj hl
 refine⟨fun q=>?_,fun q=>?_⟩
 ·have q:j<x.ins.length:=lt_t.1 q
  obtain⟨y,hy⟩:=get_lt q
  have hyn:=g.ins y (List.mem_of_getElem? hy)
  have hv:=readV_get (pn:=pinF a pin w) (t:=t) (m:=m) hy
  have hll:l.length≤16:=by rw[hl];simp only[List.length_take,readV_len];omega
  have go:∀ v,v=pinF a pin w m j (t.getD y 0)→nx (l++[v],j+1):=fun v e=>hnx _ ⟨q,by dsimp only;rw[hl,take_succ_get hv,e]⟩ (by dsimp only;omega)
  refine⟨y,hy,hyn,_,getN ht hyn,joinB' (a:=decide (m=a∧Int.ofNat j=pin)) (fun F=>⟨fun q=>?_,fun q=>?_⟩) ⟨fun q=>⟨by simp only[List.length_cons,List.length_nil];omega,by omega,go _ ?_⟩,fun q=>⟨by simp only[List.length_cons,List.length_nil];omega,by omega,go _ ?_⟩⟩⟩
  ·have e:eqZ (Int.ofNat j) pin=decide (m=a∧Int.ofNat j=pin):=by
    rw[eqZ_eq]
    simp[eq_t.1 q]
   rw[e];exact F
  ·rw[decide_eq_false (fun e=>eq_f.1 q e.1)] at F;exact F
  ·unfold pinF;rw[if_pos (of_decide_eq_true q)]
  ·unfold pinF;rw[if_neg (of_decide_eq_false q)]
 ·have q:x.ins.length≤j:=lt_f.1 q
  rw[hl,List.take_of_length_le (by rw[readV_len];exact q)]
  exact h
theorem outs_vc {c:Circ} (C:Cir c) {t:List Nat} (ht:t.length=c.nodes.length) {rest:List Nat→Prop} (h:rest (c.outs.map fun o=>t.getD o 0)) :
  joinW (α:=(List Nat)) (fun k475=>loopW (S:=((List Nat)×Nat)) (fun (v477,v478) nx480=>((ltN v478 c.outs.length)=true→∃ x481,c.outs[v478]?=some x481∧x481<c.nodes.length∧∃ x482,t[x481]?=some x482∧(v477.length+([x482]:(List Nat)).length)*1≤2 ^ 47∧v478+1<2 ^ 63∧nx480 ((v477++([x482]:(List Nat))),(v478+1)))∧((ltN v478 c.outs.length)=false→k475 v477)) (([]:List Nat),0)) rest:=by
 have hol:=C.good.outsLen
 refine joinLoop (fun s=>s.2≤c.outs.length∧s.1=(c.outs.take s.2).map fun o=>t.getD o 0) (fun s=>c.outs.length-s.2) (fun a=>a=c.outs.map fun o=>t.getD o 0) ?_ ⟨Nat.zero_le _,rfl⟩ (fun _ e=>e ▸ h)
 rintro k ⟨l,i⟩ nx ⟨hi,hl⟩ hnx hk
 dsimp only at hi hl
 refine⟨fun q=>?_,fun q=>hk _ ?_⟩
 ·have q:i<c.outs.length:=lt_t.1 q
  obtain⟨o,ho⟩:=get_lt q
  have hon:o<c.nodes.length:=C.good.outs o (List.mem_of_getElem? ho)
  refine⟨o,ho,hon,_,getN ht hon,by rw[hl];simp only[List.length_map,List.length_take,List.length_singleton];omega,by omega,hnx _ ⟨q,?_⟩ (by dsimp only;omega)⟩
  dsimp only
  rw[hl,take_succ_get ho,List.map_append]
  rfl
 ·have q:c.outs.length≤i:=lt_f.1 q
  rw[hl,List.take_of_length_le q]
theorem nexts_vc {c:Circ} (C:Cir c) {pn:Nat→Nat→Nat→Nat} (h2:∀ m j v,v≤3→pn m j v≤3) {t:List Nat} (hle:∀ i,t.getD i 0≤3) {RD:Nat→(List Nat→Prop)→Prop} (hrd:∀ m x,c.nodes[m]?=some x→∀ k,k (readV pn t m x)→RD m k) {rest:List Nat→Prop} (h:rest ((ofN c [14]).map fun s=>min (pn s 0 (t.getD ((insOf c s).getD 0 0) 0)) 2)) :
  joinW (α:=(List Nat)) (fun k491=>loopW (S:=((List Nat)×Nat)) (fun (v493,v494) nx497=>((ltN v494 (ofN c [14]).length)=true→∃ x498,(ofN c [14])[v494]?=some x498∧joinW (α:=(List Nat)) (RD x498) (fun v502=>∃ x521,v502[0]?=some x521∧joinW (α:=Nat) (fun k526=>((eqN x521 3)=true→k526 2)∧((eqN x521 3)=false→k526 x521)) (fun v523=>(v493.length+([v523]:(List Nat)).length)*1≤2 ^ 47∧v494+1<2 ^ 63∧nx497 ((v493++([v523]:(List Nat))),(v494+1)))))∧((ltN v494 (ofN c [14]).length)=false→k491 v493)) (([]:List Nat),0)) rest:=by
 have hlen:=C.len
 have l2:=ofN_len c [14]
 refine joinLoop (fun s=>s.2≤(ofN c [14]).length∧s.1=((ofN c [14]).take s.2).map fun s=>min (pn s 0 (t.getD ((insOf c s).getD 0 0) 0)) 2) (fun s=>(ofN c [14]).length-s.2) (fun a=>a=(ofN c [14]).map fun s=>min (pn s 0 (t.getD ((insOf c s).getD 0 0) 0)) 2) ?_ ⟨Nat.zero_le _,rfl⟩ (fun _ e=>e ▸ h)
 rintro k ⟨l,i⟩ nx ⟨hi,hl⟩ hnx hk
 dsimp only at hi hl
 refine⟨fun q=>?_,fun q=>hk _ ?_⟩
 ·have q:i<(ofN c [14]).length:=lt_t.1 q
  obtain⟨f,hf⟩:=get_lt q
  obtain⟨hfn,hfk⟩:=ofN_mem.1 (List.mem_of_getElem? hf)
  obtain⟨x,hx⟩:=get_lt hfn
  rw[kd_eq hx] at hfk
  have hg:=C.good.node f x hx
  have ha:x.ins.length=1:=by have:=hg.arity;rw[hfk] at this;exact arity_dff this
  have hy:x.ins[0]?=some (x.ins.getD 0 0):=getD_some (by omega)
  have hv:=h2 f 0 _ (hle (x.ins.getD 0 0))
  refine⟨f,hf,joinI (hrd f x hx _ ⟨_,readV_get hy,?_⟩)⟩
  refine joinB' (a:=min (pn f 0 (t.getD (x.ins.getD 0 0) 0)) 2) (fun F=>⟨fun q=>?_,fun q=>?_⟩) ⟨by rw[hl];simp only[List.length_map,List.length_take,List.length_singleton];omega,by omega,hnx _ ⟨q,?_⟩ (by dsimp only;omega)⟩
  ·rw[eq_t.1 q] at F;exact F
  ·have:=eq_f.1 q
   rw[Nat.min_eq_left (by omega)] at F;exact F
  ·dsimp only
   rw[hl,take_succ_get hf,List.map_append]
   simp only[List.map_cons,List.map_nil,insOf_eq hx]
 ·have q:(ofN c [14]).length≤i:=lt_f.1 q
  rw[hl,List.take_of_length_le q]
end Go.Proofs.YtmhbhclfojmjdaaGreatDoor
