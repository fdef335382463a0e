/-
  U3, J0: parts of the proof.
-/
import Derived.Test.YteceaohcjmbfbaaGreatDoorSb44
namespace Go.Proofs.YteceaohcjmbfbaaGreatDoor
open Go.Abs
set_option maxRecDepth 100000
def solL (c:Circ) (p:Pat) (nt:Nat->Nat->Nat) (pn:Nat->Nat->Nat->Nat):Nat->List Nat
 |0=>[]
 |i+1=>solL c p nt pn i++[match c.nodes[i]? with|some x=>nt i (baseV c p pn (solL c p nt pn i) i x) | none=>0]
def sol (c:Circ) (p:Pat) (nt:Nat->Nat->Nat) (pn:Nat->Nat->Nat->Nat):List Nat:=solL c p nt pn c.nodes.length
theorem solL_len {c:Circ}{p:Pat}{nt:Nat->Nat->Nat}{pn:Nat->Nat->Nat->Nat}:∀ n,(solL c p nt pn n).length=n
 |0=>rfl
 |n+1=>by rw[solL,List.length_append,solL_len n];rfl
theorem solL_get {c:Circ}{p:Pat}{nt:Nat->Nat->Nat}{pn:Nat->Nat->Nat->Nat}{i:Nat}:∀ {n},i<n->(solL c p nt pn n).getD i 0=(solL c p nt pn (i+1)).getD i 0:=by
 intro n
 induction n with
 |zero=>intro h;omega
 |succ n ih =>
  intro h
  by_cases e:i=n
  ·subst e;rfl
  ·rw[<- ih (by omega)]
   rw[solL,List.getD,List.getD,List.getElem?_append_left (by rw[solL_len];omega)]
theorem solL_last {c:Circ}{p:Pat}{nt:Nat->Nat->Nat}{pn:Nat->Nat->Nat->Nat}{i:Nat}{x:Node} (hx:c.nodes[i]?=some x):(solL c p nt pn (i+1)).getD i 0=nt i (baseV c p pn (solL c p nt pn i) i x):=by
 rw[solL,List.getD,List.getElem?_append_right (by rw[solL_len];omega),solL_len,Nat.sub_self,hx]
 rfl
theorem srcV_le {c:Circ}{p:Pat} (hp:PatOk c p) (i:Nat):srcV c p i<=3:=by
 unfold srcV
 have key:∀ (l:List Nat) (j:Nat),(∀ v∈l,v<=3)->l.getD j 0<=3:=by
  intro l j h
  by_cases q:j<l.length
  ·exact h _ (getD_mem q)
  ·rw[List.getD,List.getElem?_eq_none (by omega)];exact Nat.zero_le _
 split
 ·exact key _ _ hp.inpv
 split
 ·exact key _ _ hp.statev
 ·omega
theorem baseV_le {c:Circ}{p:Pat} (hp:PatOk c p) {pn:Nat->Nat->Nat->Nat} (h2:∀ m j v,v<=3->pn m j v<=3) {t:List Nat} (ht:∀ i,t.getD i 0<=3) (i:Nat) (x:Node):baseV c p pn t i x<=3:=by
 unfold baseV
 split
 ·exact evalG_le _ (readV_le h2 ht)
 ·exact srcV_le hp i
theorem solL_le {c:Circ}{p:Pat} (hp:PatOk c p) {nt:Nat->Nat->Nat}{pn:Nat->Nat->Nat->Nat} (h1:∀ i v,v<=3->nt i v<=3) (h2:∀ m j v,v<=3->pn m j v<=3):∀ n i,(solL c p nt pn n).getD i 0<=3
 |0,i=>by rw[solL];simp
 |n+1,i=>by
  by_cases q:i<n
  ·rw[solL,List.getD,List.getElem?_append_left (by rw[solL_len];omega)]
   exact solL_le hp h1 h2 n i
  by_cases e:i=n
  ·subst e
   cases hx:c.nodes[i]? with
   |none =>
    rw[solL,List.getD,List.getElem?_append_right (by rw[solL_len];omega),solL_len,Nat.sub_self,hx]
    exact Nat.zero_le _
   |some x =>
    rw[solL_last hx]
    exact h1 _ _ (baseV_le hp h2 (solL_le hp h1 h2 i) _ _)
  ·rw[List.getD,List.getElem?_eq_none (by rw[solL_len];omega)]
   exact Nat.zero_le _
theorem sol_ok {c:Circ} (C:Cir c) {p:Pat} (hp:PatOk c p) {nt:Nat->Nat->Nat}{pn:Nat->Nat->Nat->Nat} (h1:∀ i v,v<=3->nt i v<=3) (h2:∀ m j v,v<=3->pn m j v<=3):Sol c p nt pn (sol c p nt pn):=by
 refine⟨solL_len _,fun i x hx=>?_,solL_le hp h1 h2 _⟩
 have hi:=lt_of_get hx
 unfold sol
 rw[solL_get hi,solL_last hx]
 congr 1
 unfold baseV
 split
 ·rename_i hc
  have hc:=of_decide_eq_true hc
  congr 1
  refine readV_congr fun k hk=>?_
  have:=(C.good.node i x hx).acyc hc.1 hc.2 k hk
  rw[solL_get this,<- solL_get (n:=c.nodes.length) (by omega)]
 ·rfl
theorem Sol.is {c:Circ} (C:Cir c) {p:Pat} (hp:PatOk c p) {nt:Nat->Nat->Nat}{pn:Nat->Nat->Nat->Nat} (h1:∀ i v,v<=3->nt i v<=3) (h2:∀ m j v,v<=3->pn m j v<=3) {t:List Nat} (T:Sol c p nt pn t):t=sol c p nt pn:=T.eq C (sol_ok C hp h1 h2)
theorem evalNode {c:Circ} (C:Cir c) {m:Nat}{x:Node} (hx:c.nodes[m]?=some x) (hc:combB x.kind=true) {l:List Nat} (hl:l.length=x.ins.length) {K:Nat->Prop} (h:K (evalG x.kind l)):logic_Eval_wp x.kind l K:=by
 have hc:=of_decide_eq_true hc
 have g:=C.good.node m x hx
 have:=g.few
 exact evalG_vc hc.1 (by omega) (by rw[hl];exact g.arity) (by omega) h
theorem start_le {c:Circ} (C:Cir c) {p:Pat}{t1 t2:List Nat} (hp:PatOk c p) (l2:t2.length=c.nodes.length) (h1:∀ j f,(ofN c [0])[j]?=some f->t1.getD f 0=p.inp.getD j 0) (h0:∀ f,f ∉ ofN c [0]->t1.getD f 0=(List.replicate c.nodes.length 0).getD f 0)
  (h2:∀ j f,(ofN c [14])[j]?=some f->t2.getD f 0=p.state.getD j 0) (h3:∀ f,f ∉ ofN c [14]->t2.getD f 0=t1.getD f 0) (nt:Nat->Nat->Nat) (pn:Nat->Nat->Nat->Nat) (o:List Nat):RunS c p nt pn o t2 0:=by
 have key:=loads_vc C hp l2 h1 h2 h3
 refine⟨l2,fun j m x hj=>absurd hj (Nat.not_lt_zero _),fun j m x _ _ hx hc=>(key m x hx hc).1,fun i=>?_⟩
 by_cases q:i<c.nodes.length
 ·obtain⟨x,hx⟩:=get_lt q
  cases hc:combB x.kind with
  |false=>exact (key i x hx hc).2
  |true =>
   have hc:=of_decide_eq_true hc
   have e:=kd_eq hx
   rw[h3 i (fun m=>by have:=(ofN_mem.1 m).2;omega),h0 i (fun m=>by have:=(ofN_mem.1 m).2;omega)]
   rw[List.getD,List.getElem?_replicate]
   split <;> decide
 ·rw[List.getD,List.getElem?_eq_none (by omega)];exact Nat.zero_le _
theorem noncomb_base {c:Circ}{p:Pat}{pn:Nat->Nat->Nat->Nat}{t:List Nat}{m:Nat}{x:Node} (hc:combB x.kind=false):baseV c p pn t m x=srcV c p m:=by unfold baseV;rw[hc];rfl
theorem comb_base {c:Circ}{p:Pat}{pn:Nat->Nat->Nat->Nat}{t:List Nat}{m:Nat}{x:Node} (hc:combB x.kind=true):baseV c p pn t m x=evalG x.kind (readV pn t m x):=by unfold baseV;rw[hc];rfl
theorem run_vc {c:Circ} (C:Cir c) {p:Pat} (hp:PatOk c p) {K:Rsp×List Nat×Nat->Prop} (h:K (rspV c idP (sol c p idN idP),sol c p idN idP,0)):sims_Run_wp c p K:=by
 have hlen:=C.len
 have l0:=ofN_len c [0]
 have l2:=ofN_len c [14]
 have hid1:∀ i v,v<=3->idN i v<=3:=fun _ _ h=>h
 have hid2:∀ m j v,v<=3->idP m j v<=3:=fun _ _ _ h=>h
 unfold sims_Run_wp
 refine order_vc C.good fun o ho=>?_
 refine joinB' (a:=0) (fun F=>⟨fun _=>fits_vc C hp F,fun q=>by cases q⟩) ?_
 refine⟨(fun q=>by cases q),fun _=>⟨by omega,by omega,?_⟩⟩
 refine joinI (inputs_vc (by omega) (load_vc (n:=c.nodes.length) hlen l0 hp.inp (fun f m=>(ofN_mem.1 m).1) (ofN_nodup c [0]) List.length_replicate (fun t i nx ht h1 h2=>loadStep hlen l0 hp.inp (fun f m=>(ofN_mem.1 m).1) ht h1 h2) ?_))
 intro t1 e1 h1 h0
 refine states_vc (by omega) (load_vc (n:=c.nodes.length) hlen l2 hp.state (fun f m=>(ofN_mem.1 m).1) (ofN_nodup c [14]) e1 (fun t i nx ht h1 h2=>loadStep hlen l2 hp.state (fun f m=>(ofN_mem.1 m).1) ht h1 h2) ?_)
 intro t2 e2 h2 h3
 have hol:o.length=c.nodes.length:=by have:=ho.perm.length_eq;simpa using this
 refine joinLoop (fun s=>s.2.2.2<=o.length/\s.2.1.length=16/\RunS c p idN idP o s.1 s.2.2.2) (fun s=>o.length-s.2.2.2) (fun t=>t=sol c p idN idP) ?_ ⟨Nat.zero_le _,by simp,start_le C hp e2 h1 h0 h2 h3 _ _ _⟩ ?_
 ·rintro k ⟨t,b,n,i⟩ nx ⟨hi,hb,T⟩ hnx hk
  dsimp only at hi hb T
  refine⟨fun q=>?_,fun q=>hk t ?_⟩
  ·have q:i<o.length:=lt_t.1 q
   obtain⟨m,hm⟩:=get_lt q
   have hmn:m<c.nodes.length:=List.mem_range.1 (ho.perm.mem_iff.1 (List.mem_of_getElem? hm))
   obtain⟨x,hx⟩:=get_lt hmn
   have g:=C.good.node m x hx
   have hfew:=g.few
   refine joinP (fun s=>s.2.1.length=16/\RunS c p idN idP o s.1 (i+1)) (fun k' hk'=>?_) ?_
   ·refine⟨m,hm,x,hx,comb_vc ?_⟩
    cases hc:combB x.kind with
    |false =>
     have hc':=of_decide_eq_false hc
     rw[decide_eq_false hc']
     refine⟨fun _=>hk' _ ⟨hb,T.skip hm hx ?_⟩,fun e=>by cases e⟩
     rw[noncomb_base hc,T.todo i m x (Nat.le_refl _) hm hx hc]
     rfl
    |true =>
     have hc':=of_decide_eq_true hc
     rw[decide_eq_true hc']
     refine⟨(fun e=>by cases e),fun _=>⟨by decide,?_⟩⟩
     refine joinLoop (fun s=>s.2.2<=x.ins.length/\s.1.length=16/\s.2.1=s.2.2/\s.1.take s.2.2=(readV idP t m x).take s.2.2) (fun s=>x.ins.length-s.2.2) (fun s=>s.1.length=16/\s.2<=16/\s.1.take s.2=readV idP t m x) ?_ ⟨Nat.zero_le _,hb,rfl,rfl⟩ ?_
     ·rintro k2 ⟨b,n,j⟩ nx2 ⟨hj,hb,hn,ht⟩ hnx2 hk2
      dsimp only at hj hb hn ht
      subst hn
      refine⟨fun q=>?_,fun q=>hk2 _ ?_⟩
      ·have q:n<x.ins.length:=lt_t.1 q
       obtain⟨y,hy⟩:=get_lt q
       have hyn:=g.ins y (List.mem_of_getElem? hy)
       refine⟨y,hy,hyn,_,getN T.len hyn,by omega,by omega,by omega,hnx2 _ ⟨q,?_,rfl,?_⟩ (by dsimp only;omega)⟩
       ·simp only[List.length_append,List.length_take,List.length_drop,List.length_cons,List.length_nil];omega
       ·dsimp only
        have hv:=readV_get (pn:=idP) (t:=t) (m:=m) hy
        have hl:(b.take n).length=n:=by rw[List.length_take];omega
        rw[List.take_append,hl,show n+1-n=1 from by omega,List.take_of_length_le (by omega),take_succ_get hv,ht]
        rfl
      ·have q:x.ins.length<=n:=lt_f.1 q
       refine⟨hb,by dsimp only;omega,?_⟩
       dsimp only
       rw[ht,List.take_of_length_le (by rw[readV_len];exact q)]
     ·rintro⟨b,n⟩ ⟨hb,hn,ht⟩
      dsimp only at hb hn ht
      refine⟨by omega,?_⟩
      rw[ht]
      refine evalNode C hx hc readV_len ?_
      refine⟨hmn,_,getN T.len hmn,hk' _ ⟨hb,?_⟩⟩
      have:=T.step ho hm hx (by exact baseV_le hp hid2 T.le _ _)
      rw[comb_base hc] at this
      exact this
   ·rintro⟨t',b',n'⟩ ⟨hb',T'⟩
    exact⟨by omega,hnx _ ⟨q,hb',T'⟩ (by dsimp only;omega)⟩
  ·have q:o.length<=i:=lt_f.1 q
   have e:i=o.length:=by omega
   subst e
   exact (T.sol ho).is C hp hid1 hid2
 ·rintro _ rfl
  have S:=sol_ok C hp hid1 hid2
  exact⟨S.len.symm,observe_vc C S.len S.le h⟩
theorem injLoads {c:Circ} (C:Cir c) {p:Pat} (hp:PatOk c p) {rest:List Nat->List Nat->List Nat×Nat->Prop}
  (h:∀ t o,OrdOk c o->(∀ nt pn,RunS c p nt pn o t 0)->rest (ofN c [14]) t (o,0)) :
  1*c.nodes.length<=2 ^ 48/\c.nodes.length<2 ^ 63/\netlists_States_wp c (fun r414=>joinW (α:=(List Nat)) (fun k416=>netlists_Inputs_wp c (fun r417=>loopW (S:=((List Nat)×Nat)) (fun (v418,v419) nx420=>((ltN v419 r417.length)=true->∃ x421,r417[v419]?=some x421/\∃ x422,p.inp[v419]?=some x422/\x421<c.nodes.length/\∃ x423,v418[x421]?=some x423/\v419+1<2 ^ 63/\nx420 ((v418.set x421 x422),(v419+1)))/\((ltN v419 r417.length)=false->k416 v418)) ((List.replicate c.nodes.length (0:Nat)),0))) (fun v415=>joinW (α:=(List Nat)) (fun k425=>loopW (S:=((List Nat)×Nat)) (fun (v426,v427) nx428=>((ltN v427 r414.length)=true->∃ x429,r414[v427]?=some x429/\∃ x430,p.state[v427]?=some x430/\x429<c.nodes.length/\∃ x431,v426[x429]?=some x431/\v427+1<2 ^ 63/\nx428 ((v426.set x429 x430),(v427+1)))/\((ltN v427 r414.length)=false->k425 v426)) (v415,0)) (fun v424=>netlists_Order_wp c (fun r432=>rest r414 v424 r432)))):=by
 have hlen:=C.len
 have l0:=ofN_len c [0]
 have l2:=ofN_len c [14]
 refine⟨by omega,by omega,states_vc (by omega) (joinI (inputs_vc (by omega) (load_vc (n:=c.nodes.length) hlen l0 hp.inp (fun f m=>(ofN_mem.1 m).1) (ofN_nodup c [0]) List.length_replicate (fun t i nx ht h1 h2=>loadStep hlen l0 hp.inp (fun f m=>(ofN_mem.1 m).1) ht h1 h2) ?_)))⟩
 intro t1 e1 h1 h0
 refine joinI (load_vc (n:=c.nodes.length) hlen l2 hp.state (fun f m=>(ofN_mem.1 m).1) (ofN_nodup c [14]) e1 (fun t i nx ht h1 h2=>loadStep hlen l2 hp.state (fun f m=>(ofN_mem.1 m).1) ht h1 h2) ?_)
 intro t2 e2 h2 h3
 exact order_vc C.good fun o ho=>h t2 o ho fun nt pn=>start_le C hp e2 h1 h0 h2 h3 nt pn o
theorem injNode {c:Circ} (C:Cir c) {p:Pat}{nt:Nat->Nat->Nat}{pn:Nat->Nat->Nat->Nat}{o t:List Nat}{i m:Nat}{x:Node} (T:RunS c p nt pn o t i) (hm:o[i]?=some m) (hx:c.nodes[m]?=some x) {RD:(List Nat->Prop)->Prop} (hrd:∀ k,k (readV pn t m x)->RD k) {rest:List Nat->Prop}
  (h:∀ t1,t1.length=c.nodes.length->t1.getD m 0=baseV c p pn t m x->(∀ v,t1.set m v=t.set m v)->rest t1) :
  joinW (α:=(List Nat)) (fun k440=>∃ x441,c.nodes[m]?=some x441/\joinW (α:=Bool) (fun k443=>((neN x441.kind 0)=true->k443 (neN x441.kind 14))/\((neN x441.kind 0)=false->k443 false)) (fun v442=>(v442=true->∃ x444,c.nodes[m]?=some x444/\joinW (α:=(List Nat)) RD (fun v448=>logic_Eval_wp x444.kind v448 (fun r463=>m<c.nodes.length/\∃ x464,t[m]?=some x464/\k440 (t.set m r463))))/\(v442=false->k440 t))) rest:=by
 have hmn:=lt_of_get hx
 have hk:=C.kinds m x hx
 have e:(neN x.kind 0&&neN x.kind 14)=combB x.kind:=by
  rw[neN_eq,neN_eq]
  unfold combB
  rw[Bool.eq_iff_iff]
  simp only[Bool.and_eq_true,decide_eq_true_eq,Bool.not_eq_true',decide_eq_false_iff_not]
  omega
 refine joinI ⟨x,hx,joinB' (a:=combB x.kind) (fun F=>⟨fun q=>?_,fun q=>?_⟩) ⟨fun q=>⟨x,hx,joinI (hrd _ (evalNode C hx q readV_len ⟨hmn,_,getN T.len hmn,?_⟩))⟩,fun q=>?_⟩⟩
 ·rw[q,Bool.true_and] at e;rw[e];exact F
 ·rw[q,Bool.false_and] at e;rw[<- e] at F;exact F
 ·refine h _ (by rw[List.length_set];exact T.len) ?_ fun v=>by rw[List.set_set]
  rw[getD_set (by rw[T.len];exact hmn),if_pos rfl,comb_base q]
 ·refine h t T.len ?_ fun _=>rfl
  rw[noncomb_base q]
  exact T.todo i m x (Nat.le_refl _) hm hx q
theorem rdA {c:Circ} (C:Cir c) {t:List Nat} (ht:t.length=c.nodes.length) {m:Nat}{x:Node} (hx:c.nodes[m]?=some x) (k:List Nat->Prop) (h:k (readV idP t m x)) :
  ∃ x451,c.nodes[m]?=some x451/\loopW (S:=((List Nat)×Nat)) (fun (v453,v454) nx456=>((ltN v454 x451.ins.length)=true->∃ x457,x451.ins[v454]?=some x457/\x457<c.nodes.length/\∃ x458,t[x457]?=some x458/\(v453.length+([x458]:(List Nat)).length)*1<=2 ^ 47/\v454+1<2 ^ 63/\nx456 ((v453++([x458]:(List Nat))),(v454+1)))/\((ltN v454 x451.ins.length)=false->k v453)) (([]:List Nat),0):=by
 have g:=C.good.node m x hx
 have hfew:=g.few
 refine⟨x,hx,loopW_intro (fun s=>s.2<=x.ins.length/\s.1=(readV idP t m x).take s.2) (fun s=>x.ins.length-s.2) ?_ ⟨Nat.zero_le _,rfl⟩⟩
 rintro⟨l,j⟩ nx ⟨hj,hl⟩ hnx
 dsimp only at hj hl
 refine⟨fun q=>?_,fun q=>?_⟩
 ·have q:j<x.ins.length:=lt_t.1 q
  obtain⟨y,hy⟩:=get_lt q
  have hyn:=g.ins y (List.mem_of_getElem? hy)
  refine⟨y,hy,hyn,_,getN ht hyn,?_,by omega,hnx _ ⟨q,?_⟩ (by dsimp only;omega)⟩
  ·rw[hl];simp only[List.length_take,List.length_cons,List.length_nil,readV_len];omega
  ·dsimp only
   rw[hl,take_succ_get (readV_get (pn:=idP) (t:=t) (m:=m) hy)]
   rfl
 ·have q:x.ins.length<=j:=lt_f.1 q
  rw[hl,List.take_of_length_le (by rw[readV_len];exact q)]
  exact h
def pinF (a:Nat) (pin:Int) (w:Nat):Nat->Nat->Nat->Nat:=fun m j v=>if m=a/\Int.ofNat j=pin then w else v
def netF (a w:Nat):Nat->Nat->Nat:=fun m v=>if m=a then w else v
theorem rdB {c:Circ} (C:Cir c) {t:List Nat} (ht:t.length=c.nodes.length) {m a w:Nat}{pin:Int}{x:Node} (hx:c.nodes[m]?=some x) (k:List Nat->Prop) (h:k (readV (pinF a pin w) t m x)) :
  ∃ x571,c.nodes[m]?=some x571/\loopW (S:=((List Nat)×Nat)) (fun (v573,v574) nx576=>((ltN v574 x571.ins.length)=true->∃ x577,x571.ins[v574]?=some x577/\x577<c.nodes.length/\∃ x578,t[x577]?=some x578/\joinW (α:=Bool) (fun k581=>((eqN m a)=true->k581 (eqZ (Int.ofNat v574) pin))/\((eqN m a)=false->k581 false)) (fun v579=>(v579=true->(v573.length+([w]:(List Nat)).length)*1<=2 ^ 47/\v574+1<2 ^ 63/\nx576 ((v573++([w]:(List Nat))),(v574+1)))/\(v579=false->(v573.length+([x578]:(List Nat)).length)*1<=2 ^ 47/\v574+1<2 ^ 63/\nx576 ((v573++([x578]:(List Nat))),(v574+1)))))/\((ltN v574 x571.ins.length)=false->k v573)) (([]:List Nat),0):=by
 have g:=C.good.node m x hx
 have hfew:=g.few
 refine⟨x,hx,loopW_intro (fun s=>s.2<=x.ins.length/\s.1=(readV (pinF a pin w) t m x).take s.2) (fun s=>x.ins.length-s.2) ?_ ⟨Nat.zero_le _,rfl⟩⟩
 rintro⟨l,j⟩ nx ⟨hj,hl⟩ hnx
 dsimp only at hj hl
 refine⟨fun q=>?_,fun q=>?_⟩
 ·have q:j<x.ins.length:=lt_t.1 q
  obtain⟨y,hy⟩:=get_lt q
  have hyn:=g.ins y (List.mem_of_getElem? hy)
  have hv:=readV_get (pn:=pinF a pin w) (t:=t) (m:=m) hy
  have hll:l.length<=16:=by rw[hl];simp only[List.length_take,readV_len];omega
  have go:∀ v,v=pinF a pin w m j (t.getD y 0)->nx (l++[v],j+1):=fun v e=>hnx _ ⟨q,by dsimp only;rw[hl,take_succ_get hv,e]⟩ (by dsimp only;omega)
  refine⟨y,hy,hyn,_,getN ht hyn,joinB' (a:=decide (m=a/\Int.ofNat j=pin)) (fun F=>⟨fun q=>?_,fun q=>?_⟩) ⟨fun q=>⟨by simp only[List.length_cons,List.length_nil];omega,by omega,go _ ?_⟩,fun q=>⟨by simp only[List.length_cons,List.length_nil];omega,by omega,go _ ?_⟩⟩⟩
  ·have e:eqZ (Int.ofNat j) pin=decide (m=a/\Int.ofNat j=pin):=by
    rw[eqZ_eq]
    simp[eq_t.1 q]
   rw[e];exact F
  ·rw[decide_eq_false (fun e=>eq_f.1 q e.1)] at F;exact F
  ·unfold pinF;rw[if_pos (of_decide_eq_true q)]
  ·unfold pinF;rw[if_neg (of_decide_eq_false q)]
 ·have q:x.ins.length<=j:=lt_f.1 q
  rw[hl,List.take_of_length_le (by rw[readV_len];exact q)]
  exact h
theorem outs_vc {c:Circ} (C:Cir c) {t:List Nat} (ht:t.length=c.nodes.length) {rest:List Nat->Prop} (h:rest (c.outs.map fun o=>t.getD o 0)) :
  joinW (α:=(List Nat)) (fun k475=>loopW (S:=((List Nat)×Nat)) (fun (v477,v478) nx480=>((ltN v478 c.outs.length)=true->∃ x481,c.outs[v478]?=some x481/\x481<c.nodes.length/\∃ x482,t[x481]?=some x482/\(v477.length+([x482]:(List Nat)).length)*1<=2 ^ 47/\v478+1<2 ^ 63/\nx480 ((v477++([x482]:(List Nat))),(v478+1)))/\((ltN v478 c.outs.length)=false->k475 v477)) (([]:List Nat),0)) rest:=by
 have hol:=C.good.outsLen
 refine joinLoop (fun s=>s.2<=c.outs.length/\s.1=(c.outs.take s.2).map fun o=>t.getD o 0) (fun s=>c.outs.length-s.2) (fun a=>a=c.outs.map fun o=>t.getD o 0) ?_ ⟨Nat.zero_le _,rfl⟩ (fun _ e=>e ▸ h)
 rintro k ⟨l,i⟩ nx ⟨hi,hl⟩ hnx hk
 dsimp only at hi hl
 refine⟨fun q=>?_,fun q=>hk _ ?_⟩
 ·have q:i<c.outs.length:=lt_t.1 q
  obtain⟨o,ho⟩:=get_lt q
  have hon:o<c.nodes.length:=C.good.outs o (List.mem_of_getElem? ho)
  refine⟨o,ho,hon,_,getN ht hon,by rw[hl];simp only[List.length_map,List.length_take,List.length_singleton];omega,by omega,hnx _ ⟨q,?_⟩ (by dsimp only;omega)⟩
  dsimp only
  rw[hl,take_succ_get ho,List.map_append]
  rfl
 ·have q:c.outs.length<=i:=lt_f.1 q
  rw[hl,List.take_of_length_le q]
theorem nexts_vc {c:Circ} (C:Cir c) {pn:Nat->Nat->Nat->Nat} (h2:∀ m j v,v<=3->pn m j v<=3) {t:List Nat} (hle:∀ i,t.getD i 0<=3) {RD:Nat->(List Nat->Prop)->Prop} (hrd:∀ m x,c.nodes[m]?=some x->∀ k,k (readV pn t m x)->RD m k) {rest:List Nat->Prop} (h:rest ((ofN c [14]).map fun s=>min (pn s 0 (t.getD ((insOf c s).getD 0 0) 0)) 2)) :
  joinW (α:=(List Nat)) (fun k491=>loopW (S:=((List Nat)×Nat)) (fun (v493,v494) nx497=>((ltN v494 (ofN c [14]).length)=true->∃ x498,(ofN c [14])[v494]?=some x498/\joinW (α:=(List Nat)) (RD x498) (fun v502=>∃ x521,v502[0]?=some x521/\joinW (α:=Nat) (fun k526=>((eqN x521 3)=true->k526 2)/\((eqN x521 3)=false->k526 x521)) (fun v523=>(v493.length+([v523]:(List Nat)).length)*1<=2 ^ 47/\v494+1<2 ^ 63/\nx497 ((v493++([v523]:(List Nat))),(v494+1)))))/\((ltN v494 (ofN c [14]).length)=false->k491 v493)) (([]:List Nat),0)) rest:=by
 have hlen:=C.len
 have l2:=ofN_len c [14]
 refine joinLoop (fun s=>s.2<=(ofN c [14]).length/\s.1=((ofN c [14]).take s.2).map fun s=>min (pn s 0 (t.getD ((insOf c s).getD 0 0) 0)) 2) (fun s=>(ofN c [14]).length-s.2) (fun a=>a=(ofN c [14]).map fun s=>min (pn s 0 (t.getD ((insOf c s).getD 0 0) 0)) 2) ?_ ⟨Nat.zero_le _,rfl⟩ (fun _ e=>e ▸ h)
 rintro k ⟨l,i⟩ nx ⟨hi,hl⟩ hnx hk
 dsimp only at hi hl
 refine⟨fun q=>?_,fun q=>hk _ ?_⟩
 ·have q:i<(ofN c [14]).length:=lt_t.1 q
  obtain⟨f,hf⟩:=get_lt q
  obtain⟨hfn,hfk⟩:=ofN_mem.1 (List.mem_of_getElem? hf)
  obtain⟨x,hx⟩:=get_lt hfn
  rw[kd_eq hx] at hfk
  have hg:=C.good.node f x hx
  have ha:x.ins.length=1:=by have:=hg.arity;rw[hfk] at this;exact arity_dff this
  have hy:x.ins[0]?=some (x.ins.getD 0 0):=getD_some (by omega)
  have hv:=h2 f 0 _ (hle (x.ins.getD 0 0))
  refine⟨f,hf,joinI (hrd f x hx _ ⟨_,readV_get hy,?_⟩)⟩
  refine joinB' (a:=min (pn f 0 (t.getD (x.ins.getD 0 0) 0)) 2) (fun F=>⟨fun q=>?_,fun q=>?_⟩) ⟨by rw[hl];simp only[List.length_map,List.length_take,List.length_singleton];omega,by omega,hnx _ ⟨q,?_⟩ (by dsimp only;omega)⟩
  ·rw[eq_t.1 q] at F;exact F
  ·have:=eq_f.1 q
   rw[Nat.min_eq_left (by omega)] at F;exact F
  ·dsimp only
   rw[hl,take_succ_get hf,List.map_append]
   simp only[List.map_cons,List.map_nil,insOf_eq hx]
 ·have q:(ofN c [14]).length<=i:=lt_f.1 q
  rw[hl,List.take_of_length_le q]
set_option maxHeartbeats 8000000
def faults_valid_wp (p0:Circ) (K:Nat->Prop):Prop :=
 netlists_Check_wp p0 (fun r1=>((neN r1 0)=true->K r1)/\((neN r1 0)=false->((ltN 0 p0.mems.length)=true->K 7)/\((ltN 0 p0.mems.length)=false->K 0)))
theorem faults_valid_walk {p0:Circ}{K:Nat->Prop} (hm:faults_valid_wp p0 K) {h0:Heap} (hB:HasB vars h0):∃ r,K r/\CallD Tryz.prog NG 76 ⟨[encCirc p0]⟩ h0 (i64 r) h0:=by
 unfold faults_valid_wp at hm
 refine fw Tryz.func76 hB (enc:=i64) (fun r=>PureV.flat rfl) fun O=>?_;conv=>whnf
 refine gX ?_
 refine fz ?_;refine gX ?_
 refine ca (netlists_Check_walk hm O.has) fun r1 hm=>?_;refine gX ?_
 refine br hm (fun hm=>?_) fun hm=>?_
 ·refine gX ?_
  exact fe hm O
 ·refine gX ?_
  refine br hm (fun hm=>?_) fun hm=>?_
  ·refine gX ?_
   exact fe hm O
  ·refine gX ?_
   exact fe hm O
def faults_cone_wp (p0:Circ) (p1:Nat) (K:(List Bool)->Prop):Prop :=
 1*p0.nodes.length<=2 ^ 48/\p0.nodes.length<2 ^ 63/\p1<p0.nodes.length/\∃ x3,(List.replicate p0.nodes.length (false:Bool))[p1]?=some x3/\joinW (α:=(List Bool)) (fun k5=>loopW (S:=((List Bool)×(List Nat))) (fun (v8,v12) nx15=>((ltN 0 v12.length)=true->1<=v12.length/\v12.length<2 ^ 63/\∃ x16,v12[(v12.length-1)]?=some x16/\1<=v12.length/\v12.length<2 ^ 63/\(v12.length-1)<=v12.length/\∃ x18,p0.nodes[x16]?=some x18/\((eqN x18.kind 14)=true->nx15 (v8,(v12.take (v12.length-1))))/\((eqN x18.kind 14)=false->∃ x19,p0.nodes[x16]?=some x19/\loopW (S:=((List Bool)×(List Nat)×Nat)) (fun (v20,v24,v25) nx28=>((ltN v25 x19.ins.length)=true->joinW (α:=((List Bool)×(List Nat))) (fun k36=>∃ x37,x19.ins[v25]?=some x37/\x37<p0.nodes.length/\∃ x38,v20[x37]?=some x38/\((!x38)=true->(v24.length+([x37]:(List Nat)).length)*8<=2 ^ 47/\x37<p0.nodes.length/\∃ x44,v20[x37]?=some x44/\k36 ((v20.set x37 true),(v24++([x37]:(List Nat)))))/\((!x38)=false->k36 (v20,v24))) (fun (v29,v33)=>v25+1<2 ^ 63/\nx28 (v29,v33,(v25+1))))/\((ltN v25 x19.ins.length)=false->nx15 (v20,v24))) (v8,(v12.take (v12.length-1)),0)))/\((ltN 0 v12.length)=false->k5 v8)) (((List.replicate p0.nodes.length (false:Bool)).set p1 true),([p1]:(List Nat)))) (fun v4=>p0.nodes.length=v4.length/\K v4)
theorem faults_cone_walk {p0:Circ}{p1:Nat}{K:(List Bool)->Prop} (hm:faults_cone_wp p0 p1 K) {h0:Heap} (hB:HasB vars h0):∃ r,K r/\CallD Tryz.prog NG 124 ⟨[encCirc p0,i64 p1]⟩ h0 ((encL 1 Value.bool) r) h0:=by
 unfold faults_cone_wp at hm
 refine fw Tryz.func124 hB (enc:=(encL 1 Value.bool)) (fun r=>pureL (fun _=>AllPure.cons (PureV.flat rfl) AllPure.nil)) fun O=>?_;conv=>whnf
 refine gX ?_
 refine fz ?_;refine gX ?_
 refine O.mkL (enc:=Value.bool) 1 1 false hm fun g1 h O hm=>?_;refine gX ?_
 refine ix 1 hm fun x3 hx3 hm=>?_;refine gH ?_
 refine O.stE 1 (.head _) hx3 true fun h O=>?_;refine gH ?_
 refine jn hm 65 [5] (fun s=>s) (fun v4 h=>Own vars h0 [((some g1),.cells (flatC (v4.map Value.bool)) false)] h) (fun v4=>[]) (fun hm=>?_) ?_
 ·refine gX ?_
  refine O.buildL (l:=([p1]:(List Nat))) (enc:=i64) (s:=1) (z:=(i64 0)) rfl rfl (by kernel_rfl) (by kernel_rfl) rfl rfl rfl rfl (fun _=>rfl) fun g6 h O=>?_;refine gX ?_
  refine lw 65 [2,5] (σ:=((List Bool)×(List Nat))×(Option Nat×Option Nat×(List Nat))) (fun s=>s.1) (fun ((v8,v12),(a9,a10,a11)) h=>(a9=none->v12++a11=[])/\(a10=none\/a10=some 1)/\Own vars h0 [((some g1),.cells (flatC (v8.map Value.bool)) false),(a9,.cells (flatC ((v12++a11).map i64)) false)] h) (fun ((v8,v12),(a9,a10,a11))=>[(6,(stV i64 a9 a10 v12 a11))]) ((((List.replicate p0.nodes.length (false:Bool)).set p1 true),([p1]:(List Nat))),((some g6),none,([]:(List Nat)))) hm ⟨someNone,(.inl rfl),(O.sel [1,0] (by decide))⟩ ?_
  clear hm;rintro⟨⟨v8,v12⟩,⟨a9,a10,a11⟩⟩ nx15 base h hm ⟨ha13,ht14,O⟩
  refine gX ?_
  refine br hm (fun hm=>?_) fun hm=>?_
  ·refine gX ?_
   refine aSub hm fun hm=>?_;refine gH ?_
   obtain⟨x16,hx16,hm⟩:=hm
   have h9:=hm
   obtain⟨g17,rfl⟩:=stSome ha13 hx16
   replace hm:=h9
   refine indexK (s:=1) (j:=(v12.length-1)) rfl rfl rfl rfl (lt_of_get hx16) ?_;refine gH ?_
   replace hx16:=stGet (J:=a11) hx16
   refine ldE (s:=1) (i:=0) (O.at (.tail _ (.head _))) hx16 ?_;refine gX ?_
   refine aSub hm fun hm=>?_;refine gH ?_
   refine stCut (enc:=i64) (l:=v12) (J:=a11) (s:=1) (k:=(v12.length-1)) rfl rfl rfl ht14 rfl hm.1 ?_;refine gX ?_
   rw[stRe (enc:=i64) v12 a11 (v12.length-1)] at O
   replace hm:=hm.2
   refine atF hm fun x18 hx18 hm=>?_;refine gX ?_
   refine br hm (fun hm=>?_) fun hm=>?_
   ·refine gX ?_
    exact jx ((v8,(v12.take (v12.length-1))),((some g17),a10,(v12.drop (v12.length-1)++a11))) hm ⟨someNone,ht14,O⟩
   ·refine gX ?_
    refine atF hm fun x19 hx19 hm=>?_;refine gX ?_
    refine lw 65 [2,5,45,46] (σ:=((List Bool)×(List Nat)×Nat)×(Option Nat×Option Nat×(List Nat))) (fun s=>s.1) (fun ((v20,v24,v25),(a21,a22,a23)) h=>(a21=none->v24++a23=[])/\(a22=none\/a22=some 1)/\Own vars h0 [((some g1),.cells (flatC (v20.map Value.bool)) false),(a21,.cells (flatC ((v24++a23).map i64)) false)] h) (fun ((v20,v24,v25),(a21,a22,a23))=>[(6,(stV i64 a21 a22 v24 a23)),(47,(i64 v25))]) ((v8,(v12.take (v12.length-1)),0),((some g17),a10,(v12.drop (v12.length-1)++a11))) hm ⟨someNone,ht14,O⟩ ?_
    clear hm;rintro⟨⟨v20,v24,v25⟩,⟨a21,a22,a23⟩⟩ nx28 base h hm ⟨ha26,ht27,O⟩
    refine gX ?_
    refine br hm (fun hm=>?_) fun hm=>?_
    ·apply Cs;conv=>whnf
     refine jn (σ:=((List Bool)×(List Nat))×(Option Nat×Option Nat×(List Nat))) hm 65 [2,5,45,46,47] (fun s=>s.1) (fun ((v29,v33),(a30,a31,a32)) h=>(a30=none->v33++a32=[])/\(a31=none\/a31=some 1)/\Own vars h0 [((some g1),.cells (flatC (v29.map Value.bool)) false),(a30,.cells (flatC ((v33++a32).map i64)) false)] h) (fun ((v29,v33),(a30,a31,a32))=>[(6,(stV i64 a30 a31 v33 a32))]) (fun hm=>?_) ?_
     ·refine gX ?_
      refine atF hm fun x37 hx37 hm=>?_;refine gX ?_
      refine ix 1 hm fun x38 hx38 hm=>?_;refine gH ?_
      refine ldE (s:=1) (i:=0) (O.at (.head _)) hx38 ?_;refine gX ?_
      refine br hm (fun hm=>?_) fun hm=>?_
      ·refine gX ?_
       refine fz ?_;refine gH ?_
       refine O.stPush (enc:=i64) (l:=v24) (J:=a23) (new:=([x37]:(List Nat))) (s:=1) (b:=8) (.tail _ (.head _)) ha26 ht27 rfl rfl rfl rfl rfl rfl rfl rfl (YOk.fl rfl) (fun _=>rfl) (fun _=>rfl) (by decide) hm.1 fun a39 a40 a41 h ha42 ht43 O=>?_;refine gH ?_
       replace hm:=hm.2
       refine ix 1 hm fun x44 hx44 hm=>?_;refine gH ?_
       refine O.stE 1 (.head _) hx44 true fun h O=>?_;refine gH ?_
       exact jx (((v20.set x37 true),(v24++([x37]:(List Nat)))),(a39,a40,a41)) hm ⟨ha42,ht43,O⟩
      ·refine gX ?_
       exact jx ((v20,v24),(a21,a22,a23)) hm ⟨ha26,ht27,O⟩
     ·clear hm;rintro⟨⟨v29,v33⟩,⟨a30,a31,a32⟩⟩ base h hm ⟨ha34,ht35,O⟩
      refine gX ?_
      refine aAdd hm fun hm=>?_;refine gH ?_
      exact jx ((v29,v33,(v25+1)),(a30,a31,a32)) hm ⟨ha34,ht35,O⟩
    ·refine gX ?_
     exact jx ((v20,v24),(a21,a22,a23)) hm ⟨ha26,ht27,O⟩
  ·refine gX ?_
   exact jx v8 hm (O.sel [0] (by decide))
 ·clear hm;rintro v4 base h hm O
  refine gX ?_
  obtain⟨hn45,hm⟩:=hm
  exact⟨v4,hm,O.ext,fun h2 F=>O.flatL F (Nat.le_refl _) (.head _) (fun _=>rfl) hn45⟩
def faults_line_wp (p0:Circ) (p1:LnZ) (K:Bool->Prop):Prop :=
 ((!ltN p1.node 0)=true->((ltN p1.node p0.nodes.length)=true->((!ltI p1.pin (Int.negSucc 0))=true->∃ x1,p0.nodes[p1.node]?=some x1/\K (ltI p1.pin (Int.ofNat x1.ins.length)))/\((!ltI p1.pin (Int.negSucc 0))=false->K false))/\((ltN p1.node p0.nodes.length)=false->K false))/\((!ltN p1.node 0)=false->K false)
theorem faults_line_walk {p0:Circ}{p1:LnZ}{K:Bool->Prop} (hm:faults_line_wp p0 p1 K) {h0:Heap} (hB:HasB vars h0):∃ r,K r/\CallD Tryz.prog NG 94 ⟨[encCirc p0,encLnZ p1]⟩ h0 (Value.bool r) h0:=by
 unfold faults_line_wp at hm
 refine fw Tryz.func94 hB (enc:=Value.bool) (fun r=>PureV.flat rfl) fun O=>?_;conv=>whnf
 refine gX ?_
 refine fz ?_;refine gH ?_
 refine fz ?_;refine gX ?_
 refine br hm (fun hm=>?_) fun hm=>?_
 ·refine gX ?_
  first|refine⟨.inr (.inr (rfl)),?_⟩|refine⟨.inr (.inl (by kernel_rfl)),?_⟩
  refine gX ?_
  refine br hm (fun hm=>?_) fun hm=>?_
  ·refine gX ?_
   refine br hm (fun hm=>?_) fun hm=>?_
   ·refine gX ?_
    first|refine⟨.inr (.inr (rfl)),?_⟩|refine⟨.inr (.inl (by kernel_rfl)),?_⟩
    refine gX ?_
    refine atF hm fun x1 hx1 hm=>?_;refine gH ?_
    first|refine⟨.inr (.inr (rfl)),?_⟩|refine⟨.inr (.inl (by kernel_rfl)),?_⟩
    refine gX ?_
    exact fe hm O
   ·refine gX ?_
    exact fe hm O
  ·refine gX ?_
   refine bf ?_;refine gX ?_
   exact fe hm O
 ·refine gX ?_
  refine bf ?_;refine gH ?_
  refine bf ?_;refine gX ?_
  exact fe hm O
def faults_bridge_wp (p0:Circ) (p1:Flt) (K:Nat->Prop):Prop :=
 joinW (α:=Bool) (fun k2=>((neZ p1.line.pin (Int.negSucc 0))=true->k2 true)/\((neZ p1.line.pin (Int.negSucc 0))=false->((ltN p1.other 0)=true->k2 true)/\((ltN p1.other 0)=false->((!ltN p1.other p0.nodes.length)=true->k2 true)/\((!ltN p1.other p0.nodes.length)=false->((eqN p1.line.node p1.other)=true->k2 true)/\((eqN p1.line.node p1.other)=false->((eqN p1.model 2)=true->((ltN p1.other p1.line.node)=true->k2 true)/\((ltN p1.other p1.line.node)=false->((eqN p1.model 3)=true->k2 (neN p1.value 0))/\((eqN p1.model 3)=false->k2 false)))/\((eqN p1.model 2)=false->((eqN p1.model 3)=true->k2 (neN p1.value 0))/\((eqN p1.model 3)=false->k2 false))))))) (fun v1=>(v1=true->K 1)/\(v1=false->joinW (α:=Bool) (fun k4=>∃ x5,p0.nodes[p1.line.node]?=some x5/\((eqN x5.kind 12)=true->k4 true)/\((eqN x5.kind 12)=false->∃ x6,p0.nodes[p1.other]?=some x6/\k4 (eqN x6.kind 12))) (fun v3=>(v3=true->K 7)/\(v3=false->joinW (α:=Bool) (fun k8=>faults_cone_wp p0 p1.line.node (fun r9=>∃ x10,r9[p1.other]?=some x10/\(x10=true->k8 true)/\(x10=false->faults_cone_wp p0 p1.other (fun r11=>∃ x12,r11[p1.line.node]?=some x12/\k8 x12)))) (fun v7=>(v7=true->K 6)/\(v7=false->K 0))))))
theorem faults_bridge_walk {p0:Circ}{p1:Flt}{K:Nat->Prop} (hm:faults_bridge_wp p0 p1 K) {h0:Heap} (hB:HasB vars h0):∃ r,K r/\CallD Tryz.prog NG 95 ⟨[encCirc p0,encFlt p1]⟩ h0 (i64 r) h0:=by
 unfold faults_bridge_wp at hm
 refine fw Tryz.func95 hB (enc:=i64) (fun r=>PureV.flat rfl) fun O=>?_;conv=>whnf
 refine gX ?_
 refine fz ?_;refine gH ?_
 refine fz ?_;refine gH ?_
 apply Cs;conv=>whnf
 apply Cs;refine gH ?_
 apply Cs;conv=>whnf
 apply Cs;conv=>whnf
 refine jn hm 85 [2,5,6] (fun s=>s) (fun v1 h=>Own vars h0 [] h) (fun v1=>[(12,(.bool v1))]) (fun hm=>?_) ?_
 ·refine gX ?_
  refine br hm (fun hm=>?_) fun hm=>?_
  ·refine gX ?_
   refine bt ?_;refine gH ?_
   refine bt ?_;refine gH ?_
   refine bt ?_;refine gH ?_
   refine bt ?_;refine gH ?_
   exact jx true hm O
  ·refine gX ?_
   refine br hm (fun hm=>?_) fun hm=>?_
   ·refine gX ?_
    refine bt ?_;refine gH ?_
    refine bt ?_;refine gH ?_
    refine bt ?_;refine gH ?_
    exact jx true hm O
   ·refine gX ?_
    refine br hm (fun hm=>?_) fun hm=>?_
    ·refine gX ?_
     refine bt ?_;refine gH ?_
     refine bt ?_;refine gH ?_
     exact jx true hm O
    ·refine gX ?_
     refine br hm (fun hm=>?_) fun hm=>?_
     ·refine gX ?_
      refine bt ?_;refine gH ?_
      exact jx true hm O
     ·refine gX ?_
      refine br hm (fun hm=>?_) fun hm=>?_
      ·refine gX ?_
       refine br hm (fun hm=>?_) fun hm=>?_
       ·refine gX ?_
        exact jx true hm O
       ·refine gX ?_
        refine br hm (fun hm=>?_) fun hm=>?_
        ·refine gX ?_
         exact jx (neN p1.value 0) hm O
        ·refine gX ?_
         exact jx false hm O
      ·refine gX ?_
       refine bf ?_;refine gH ?_
       refine br hm (fun hm=>?_) fun hm=>?_
       ·refine gX ?_
        exact jx (neN p1.value 0) hm O
       ·refine gX ?_
        exact jx false hm O
 ·clear hm;rintro v1 base h hm O
  refine gX ?_
  refine br hm (fun hm=>?_) fun hm=>?_
  ·refine gX ?_
   exact fe hm O
  ·refine jn hm 85 [2,5,6] (fun s=>s) (fun v3 h=>Own vars h0 [] h) (fun v3=>[(53,(.bool v3))]) (fun hm=>?_) ?_
   ·refine gX ?_
    refine atF hm fun x5 hx5 hm=>?_;refine gH ?_
    refine br hm (fun hm=>?_) fun hm=>?_
    ·refine gX ?_
     exact jx true hm O
    ·refine gX ?_
     refine atF hm fun x6 hx6 hm=>?_;refine gH ?_
     exact jx (eqN x6.kind 12) hm O
   ·clear hm;rintro v3 base h hm O
    refine gX ?_
    refine br hm (fun hm=>?_) fun hm=>?_
    ·refine gX ?_
     exact fe hm O
    ·refine jn hm 85 [] (fun s=>s) (fun v7 h=>Own vars h0 [] h) (fun v7=>[(70,(.bool v7))]) (fun hm=>?_) ?_
     ·refine gX ?_
      refine ca (faults_cone_walk hm O.has) fun r9 hm=>?_;refine gH ?_
      refine atF hm fun x10 hx10 hm=>?_;refine gH ?_
      refine br hm (fun hm=>?_) fun hm=>?_
      ·refine gX ?_
       exact jx true hm O
      ·refine gX ?_
       refine ca (faults_cone_walk hm O.has) fun r11 hm=>?_;refine gH ?_
       refine atF hm fun x12 hx12 hm=>?_;refine gH ?_
       exact jx x12 hm O
     ·clear hm;rintro v7 base h hm O
      refine gX ?_
      refine br hm (fun hm=>?_) fun hm=>?_
      ·refine gX ?_
       exact fe hm O
      ·refine gX ?_
       exact fe hm O
def faults_Check_wp (p0:Circ) (p1:Flt) (K:Nat->Prop):Prop :=
 faults_valid_wp p0 (fun r1=>((neN r1 0)=true->K r1)/\((neN r1 0)=false->joinW (α:=Bool) (fun k3=>((ltN 3 p1.model)=true->k3 true)/\((ltN 3 p1.model)=false->((ltN 1 p1.value)=true->k3 true)/\((ltN 1 p1.value)=false->faults_line_wp p0 p1.line (fun r4=>k3 (!r4))))) (fun v2=>(v2=true->K 1)/\(v2=false->((!ltN p1.model 2)=true->faults_bridge_wp p0 p1 (fun r5=>K r5))/\((!ltN p1.model 2)=false->((neN p1.other 0)=true->K 1)/\((neN p1.other 0)=false->K 0))))))
theorem faults_Check_walk {p0:Circ}{p1:Flt}{K:Nat->Prop} (hm:faults_Check_wp p0 p1 K) {h0:Heap} (hB:HasB vars h0):∃ r,K r/\CallD Tryz.prog NG 53 ⟨[encCirc p0,encFlt p1]⟩ h0 (i64 r) h0:=by
 unfold faults_Check_wp at hm
 refine fw Tryz.func53 hB (enc:=i64) (fun r=>PureV.flat rfl) fun O=>?_;conv=>whnf
 refine gX ?_
 refine fz ?_;refine gH ?_
 refine fz ?_;refine gX ?_
 refine ca (faults_valid_walk hm O.has) fun r1 hm=>?_;refine gX ?_
 refine br hm (fun hm=>?_) fun hm=>?_
 ·refine gX ?_
  exact fe hm O
 ·apply Cs;conv=>whnf
  apply Cs;conv=>whnf
  apply Cs;conv=>whnf
  refine jn hm 38 [2,3] (fun s=>s) (fun v2 h=>Own vars h0 [] h) (fun v2=>[(11,(.bool v2))]) (fun hm=>?_) ?_
  ·refine gX ?_
   refine br hm (fun hm=>?_) fun hm=>?_
   ·refine gX ?_
    refine bt ?_;refine gH ?_
    exact jx true hm O
   ·refine gX ?_
    refine br hm (fun hm=>?_) fun hm=>?_
    ·refine gX ?_
     exact jx true hm O
    ·refine gX ?_
     refine ca (faults_line_walk hm O.has) fun r4 hm=>?_;refine gH ?_
     exact jx (!r4) hm O
  ·clear hm;rintro v2 base h hm O
   refine gX ?_
   refine br hm (fun hm=>?_) fun hm=>?_
   ·refine gX ?_
    exact fe hm O
   ·refine gX ?_
    refine br hm (fun hm=>?_) fun hm=>?_
    ·refine gX ?_
     refine ca (faults_bridge_walk hm O.has) fun r5 hm=>?_;refine gX ?_
     exact fe hm O
    ·refine gX ?_
     refine br hm (fun hm=>?_) fun hm=>?_
     ·refine gX ?_
      exact fe hm O
     ·refine gX ?_
      exact fe hm O
def faults_Lines_wp (p0:Circ) (K:((List LnZ)×Nat)->Prop):Prop :=
 faults_valid_wp p0 (fun r1=>((neN r1 0)=true->K ([],r1))/\((neN r1 0)=false->joinW (α:=(List LnZ)) (fun k6=>loopW (S:=((List LnZ)×Nat)) (fun (v8,v9) nx11=>((ltN v9 p0.nodes.length)=true->joinW (α:=(List LnZ)) (fun k15=>∃ x16,p0.nodes[v9]?=some x16/\x16.ins.length+1<2 ^ 63/\loopW (S:=((List LnZ)×Nat)) (fun (v20,v21) nx23=>((ltN v21 (x16.ins.length+1))=true -> -(2 ^ 63)<=((Int.ofNat v21)-(Int.ofNat 1))/\((Int.ofNat v21)-(Int.ofNat 1))<2 ^ 63/\(v20.length+([(⟨v9,((Int.ofNat v21)-(Int.ofNat 1))⟩:LnZ)]:(List LnZ)).length)*16<=2 ^ 47/\v21+1<2 ^ 63/\nx23 ((v20++([(⟨v9,((Int.ofNat v21)-(Int.ofNat 1))⟩:LnZ)]:(List LnZ))),(v21+1)))/\((ltN v21 (x16.ins.length+1))=false->k15 v20)) (v8,0)) (fun v13=>v9+1<2 ^ 63/\nx11 (v13,(v9+1))))/\((ltN v9 p0.nodes.length)=false->k6 v8)) (([]:List LnZ),0)) (fun v4=>K (v4,0))))
theorem faults_Lines_walk {p0:Circ}{K:((List LnZ)×Nat)->Prop} (hm:faults_Lines_wp p0 K) {h0:Heap} (hB:HasB vars h0):∃ r,K r/\CallD Tryz.prog NG 42 ⟨[encCirc p0]⟩ h0 ((fun (r:((List LnZ)×Nat))=>Value.tuple ⟨[(encL 2 encLnZ) (r.1),i64 (r.2)]⟩) r) h0:=by
 unfold faults_Lines_wp at hm
 refine fw Tryz.func42 hB (enc:=(fun (r:((List LnZ)×Nat))=>Value.tuple ⟨[(encL 2 encLnZ) (r.1),i64 (r.2)]⟩)) (fun r=>PureV.tup (AllPure.cons (pureL (fun _=>pure_lnZC _)) (AllPure.cons (PureV.flat rfl) (AllPure.nil)))) fun O=>?_;conv=>whnf
 refine gX ?_
 refine fz ?_;refine gX ?_
 refine ca (faults_valid_walk hm O.has) fun r1 hm=>?_;refine gX ?_
 refine br hm (fun hm=>?_) fun hm=>?_
 ·refine gX ?_
  exact⟨([],r1),hm,O.ext,fun h2 F=>VLe.tup (LLe.cons (VLe.nil _ _) (LLe.cons (VLe.refl _ _) (LLe.nil _)))⟩
 ·apply Cs;conv=>whnf
  apply Cs;conv=>whnf
  apply Cs;refine gH ?_
  have O:=O.addNil (.cells (flatC ((([]:List LnZ)).map encLnZ)) false)
  refine jn (σ:=(List LnZ)×Option Nat) hm 40 [] (fun s=>s.1) (fun (v4,a3) h=>(a3=none->v4=[])/\Own vars h0 [(a3,.cells (flatC (v4.map encLnZ)) false)] h) (fun (v4,a3)=>[(5,(growV 2 a3 (v4.map encLnZ)))]) (fun hm=>?_) ?_
  ·refine gX ?_
   refine lw 40 [15,16] (σ:=((List LnZ)×Nat)×Option Nat) (fun s=>s.1) (fun ((v8,v9),a7) h=>(a7=none->v8=[])/\Own vars h0 [(a7,.cells (flatC (v8.map encLnZ)) false)] h) (fun ((v8,v9),a7)=>[(5,(growV 2 a7 (v8.map encLnZ))),(17,(i64 v9))]) ((([]:List LnZ),0),none) hm ⟨(fun _=>rfl),O⟩ ?_
   clear hm;rintro⟨⟨v8,v9⟩,a7⟩ nx11 base h hm ⟨ha10,O⟩
   refine gX ?_
   refine br hm (fun hm=>?_) fun hm=>?_
   ·apply Cs;conv=>whnf
    refine jn (σ:=(List LnZ)×Option Nat) hm 40 [15,16,17] (fun s=>s.1) (fun (v13,a12) h=>(a12=none->v13=[])/\Own vars h0 [(a12,.cells (flatC (v13.map encLnZ)) false)] h) (fun (v13,a12)=>[(5,(growV 2 a12 (v13.map encLnZ)))]) (fun hm=>?_) ?_
    ·refine gX ?_
     refine atF hm fun x16 hx16 hm=>?_;refine gH ?_
     (first|refine O.new (anew_alloc (l:=[(n8 0),(.slice none 0 0),(i64 0),(i64 0)]) rfl rfl rfl) fun g17 h O=>?_|refine O.newX (anew_alloc (l:=[(n8 0),(.slice none 0 0),(i64 0),(i64 0)]) rfl rfl rfl) fun g17 h O=>?_);refine gH ?_
     refine O.stC 4 (.head _) [(n8 x16.kind),((encL 1 i64) x16.ins),(i64 x16.mem),(i64 x16.bit)] fun h O=>?_;refine gX ?_
     refine aAdd hm fun hm=>?_;refine gX ?_
     refine lw 40 [6,15,16,17,25] (σ:=((List LnZ)×Nat)×Option Nat) (fun s=>s.1) (fun ((v20,v21),a19) h=>(a19=none->v20=[])/\Own vars h0 [(a19,.cells (flatC (v20.map encLnZ)) false)] h) (fun ((v20,v21),a19)=>[(5,(growV 2 a19 (v20.map encLnZ))),(26,(i64 v21))]) ((v8,0),a7) hm ⟨ha10,(O.sel [1] (by decide))⟩ ?_
     clear hm;rintro⟨⟨v20,v21⟩,a19⟩ nx23 base h hm ⟨ha22,O⟩
     refine gX ?_
     refine br hm (fun hm=>?_) fun hm=>?_
     ·refine gX ?_
      refine⟨_,subZK (a:=(Int.ofNat v21)) (b:=(Int.ofNat 1)) rfl rfl hm.1 hm.2.1,?_⟩;refine gH ?_
      replace hm:=hm.2.2
      refine fz ?_;refine gH ?_
      refine O.apL (enc:=encLnZ) (l:=v20) (new:=([(⟨v9,((Int.ofNat v21)-(Int.ofNat 1))⟩:LnZ)]:(List LnZ))) 2 (.head _) ha22 hm fun a24 h ha25 O hm=>?_;refine gX ?_
      refine aAdd hm fun hm=>?_;refine gH ?_
      exact jx (((v20++([(⟨v9,((Int.ofNat v21)-(Int.ofNat 1))⟩:LnZ)]:(List LnZ))),(v21+1)),a24) hm ⟨ha25,O⟩
     ·refine gX ?_
      exact jx (v20,a19) hm ⟨ha22,O⟩
    ·clear hm;rintro⟨v13,a12⟩ base h hm ⟨ha14,O⟩
     refine gX ?_
     refine aAdd hm fun hm=>?_;refine gH ?_
     exact jx ((v13,(v9+1)),a12) hm ⟨ha14,O⟩
   ·refine gX ?_
    exact jx (v8,a7) hm ⟨ha10,O⟩
  ·clear hm;rintro⟨v4,a3⟩ base h hm ⟨ha5,O⟩
   refine gX ?_
   refine fg Tryz.func77 ?_;refine gX ?_
   refine clipK (s:=2) (enc:=encLnZ) (l:=v4) (n:=v4.length) (m:=v4.length) rfl rfl rfl rfl rfl rfl rfl ?_;refine gX ?_
   exact⟨(v4,0),hm,O.ext,fun h2 F=>VLe.tup (LLe.cons (O.clipL F (Nat.le_refl _) (.head _) ha5 (fun _=>rfl)) (LLe.cons (VLe.refl _ _) (LLe.nil _)))⟩
end Go.Proofs.YteceaohcjmbfbaaGreatDoor
