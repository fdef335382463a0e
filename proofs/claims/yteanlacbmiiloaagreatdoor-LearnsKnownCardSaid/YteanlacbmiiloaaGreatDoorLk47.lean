/-
  Q3, Ph, Q4, Q5, Q6, R4, QL, Lw2: parts of the proof.
-/
import Derived.Test.YteanlacbmiiloaaGreatDoorLk46
namespace Go.Proofs.YteanlacbmiiloaaGreatDoor
open Go.Abs
set_option maxRecDepth 100000
def ofO (o:Option (List Nat)):List Nat:=match o with
 |some v=>v
 |none=>[]
theorem joined_vc {a b:List Nat} (h:a.length=b.length) (h0:0<a.length) (hl:a.length≤2 ^ 40) {K:List Nat→Prop} (k:K (joinedN a b)):learns_joined_wp a b K:=by
 unfold learns_joined_wp
 refine⟨by omega,by omega,?_⟩
 refine joinLoop (fun s=>s.2≤a.length∧s.1.length=a.length∧∀ i,i<s.2→s.1.getD i 0=cm (a.getD i 0) (b.getD i 0)) (fun s=>a.length-s.2) (fun v=>v=joinedN a b) ?_ ⟨Nat.zero_le _,by simp,fun i hi=>absurd hi (Nat.not_lt_zero _)⟩ ?_
 ·rintro kk ⟨v,i⟩ nx ⟨hi,hv,hI⟩ hnx hk
  dsimp only at hi hv hI
  refine⟨fun q=>?_,fun q=>?_⟩
  ·have q:=lt_t.1 q
   (try dsimp only at q)
   refine⟨_,getD_some q,_,getN h.symm q,?_⟩
   have step:∀ x,x=cm (a.getD i 0) (b.getD i 0)→(i<a.length∧∃ y,v[i]?=some y∧i+1<2 ^ 63∧nx (v.set i x,i+1)):=fun x e=>by
    refine⟨q,_,getN hv q,by omega,hnx _ ⟨q,by dsimp only;rw[List.length_set];exact hv,fun j hj=>?_⟩ (by dsimp only;omega)⟩
    dsimp only at hj ⊢
    rw[getD_set (by omega)]
    split
    ·rename_i e2;subst e2;exact e
    ·exact hI j (by omega)
   refine⟨fun e=>step _ ?_,fun e=>step _ ?_⟩
   ·unfold cm;rw[if_pos (eq_t.1 e)]
   ·unfold cm;rw[if_neg (eq_f.1 e)]
  ·have q:=lt_f.1 q
   (try dsimp only at q)
   refine hk v (List.ext_getElem (by rw[joinedN_len];exact hv) fun j h1 h2=>?_)
   have:=hI j (by omega)
   rw[← joinedN_get h,List.getD,List.getElem?_eq_getElem h1,List.getD,List.getElem?_eq_getElem h2] at this
   exact this
 ·rintro v rfl
  have:=joinedN_len a b
  exact⟨by omega,by omega,k⟩
theorem meet_ge {n:Nat}{w a b:List Nat} (ha:a.length=n) (hb:b.length=n) (h1:LeN n w a) (h2:LeN n w b):LeN n w (joinedN a b):=by
 refine⟨h1.1,fun i=>?_⟩
 rw[joinedN_get (ha.trans hb.symm)]
 have:=cm_mono (h1.2 i) (h2.2 i)
 unfold cm at this
 rw[if_pos rfl] at this
 exact this
def SatV (c:Circ) (d:Nat):Prop:=∀ given,GivOk c given→∀ K:List Nat→Prop,(∀ v,Lst (satP c d) given v→K v)→((∀ t,satP c d t→¬ Ext given t)→K [])→learns_saturate_f (d+1) c d given K
theorem SatV.get {c:Circ}{d:Nat} (V:SatV c d) {given:List Asg} (g:GivOk c given) {K:List Nat→Prop} (k:K (ofO (satO c d given))):learns_saturate_f (d+1) c d given K:=by
 refine V given g K (fun v L=>?_) fun N=>?_
 ·rw[show satO c d given=some v from lstO_ok satP_len L] at k;exact k
 ·rw[show satO c d given=none from lstO_none N] at k;exact k
theorem SatV.dec {c:Circ}{d:Nat} (V:SatV c d):SatD c d:=fun given g=>by
 obtain⟨r,h,_⟩:=learns_saturate_walk ⟨d+1,V given g (fun _=>(∃ v,Lst (satP c d) given v)∨∀ t,satP c d t→¬ Ext given t) (fun v L=>.inl ⟨v,L⟩) (fun N=>.inr N)⟩ (h0:=heapOf vars) (fun i o e=>by rw[heapOf_get];exact e)
 exact h
theorem sat_zero {c:Circ} (C:CC c):SatV c 0:=by
 intro given g K h1 h2
 unfold learns_saturate_f
 refine close_vc C.p C.f3 g.ok g.len (fun v D=>⟨(fun e=>by cases e),fun _=>⟨fun _=>h1 v (lst_close D),fun e=>absurd rfl (eq_f.1 e)⟩⟩) fun N=>⟨fun _=>h2 fun t T E=>N t (cw_split.2 ⟨T,E⟩),(fun e=>by cases e)⟩
theorem sat_succ {c:Circ} (C:CC c) {d:Nat} (hd:d<100) (V:SatV c d) (D:∀ e,e≤d→SatD c e):SatV c (d+1):=by
 intro given g K h1 h2
 have hc:=C.p.good.len
 have hpos:=C.p.good.pos
 unfold learns_saturate_f
 refine close_vc C.p C.f3 g.ok g.len (fun v0 D0=>⟨(fun e=>by cases e),fun _=>⟨fun e=>absurd (eq_t.1 e) (by omega),fun _=>?_⟩⟩) fun N=>⟨fun _=>h2 fun t T E=>N t (cw_split.2 ⟨satP_cw T,E⟩),(fun e=>by cases e)⟩
 refine loopW_intro (fun v=>CW c [] v∧Ext given v∧∀ t,satP c (d+1) t→Ext given t→LeN c.nodes.length v t) (fun v=>1024-(knownA v).length) ?_ ⟨(cw_split.1 D0.cw).1,D0.giv,fun t T E=>⟨D0.len,D0.snd t (cw_split.2 ⟨satP_cw T,E⟩)⟩⟩
 intro v next ⟨W,E,low⟩ hnext
 have hvl:=W.len
 refine list_vc (by omega) ?_
 refine joinLoop (fun s=>s.2≤v.length∧LeN c.nodes.length v s.1∧s.1.length=c.nodes.length∧(∀ i,s.1.getD i 0≤2)∧(∀ t,satP c (d+1) t→Ext given t→LeN c.nodes.length s.1 t)∧(s.1=v→∀ m,m<s.2→v.getD m 0=2→leO c.nodes.length (meetO (satO c d (knownA v++[⟨m,0⟩])) (satO c d (knownA v++[⟨m,1⟩]))) v))
  (fun s=>v.length-s.2) (fun w=>LeN c.nodes.length v w∧w.length=c.nodes.length∧(∀ i,w.getD i 0≤2)∧(∀ t,satP c (d+1) t→Ext given t→LeN c.nodes.length w t)∧(w=v→∀ m,m<v.length→v.getD m 0=2→leO c.nodes.length (meetO (satO c d (knownA v++[⟨m,0⟩])) (satO c d (knownA v++[⟨m,1⟩]))) v)) ?_ ⟨Nat.zero_le _,⟨hvl,fun _=>.inr rfl⟩,hvl,W.le,low,fun _ m hm=>absurd hm (Nat.not_lt_zero _)⟩ ?_
 ·rintro k ⟨w,i⟩ nx ⟨hi,hge,hwl,hle,hlow,hsat⟩ hnx hk
  dsimp only at hi hge hwl hle hlow hsat
  refine⟨fun q=>?_,fun q=>?_⟩
  ·have q:=lt_t.1 q
   (try dsimp only at q)
   have hin:i<c.nodes.length:=by omega
   refine joinI ⟨_,getN hwl hin,fun e=>?_,fun e=>?_⟩
   ·have e:=ne_t.1 e
    refine⟨by omega,hnx _ ⟨q,hge,hwl,hle,hlow,fun ew m hm h2=>?_⟩ (by dsimp only;omega)⟩
    dsimp only at ew hm
    by_cases em:m=i
    ·subst em;rw[ew] at e;exact absurd h2 e
    ·exact hsat ew m (by omega) h2
   ·have e:=ne_f.1 e
    have G:=giv_known hwl hc hle
    have hkl:(knownA w).length≤1024:=by have:=known_len w;omega
    have G0:GivOk c (knownA w++[⟨i,0⟩]):=G.snoc (by omega) hin (Nat.zero_le _)
    have G1:GivOk c (knownA w++[⟨i,1⟩]):=G.snoc (by omega) hin (Nat.le_refl _)
    refine joinI ⟨by omega,by omega,list_vc (by omega) ⟨by simp only[List.length_singleton];omega,V.get G0 ⟨by omega,by omega,list_vc (by omega) ⟨by simp only[List.length_singleton];omega,V.get G1 ?_⟩⟩⟩⟩
    have targ:∀ t,satP c (d+1) t→Ext given t→leO c.nodes.length (meetO (satO c d (knownA w++[⟨i,0⟩])) (satO c d (knownA w++[⟨i,1⟩]))) t:=fun t T Et=>sat_meet hc D T (hlow t T Et) hle hin
    have side:∀ {x:Nat} {a:List Nat},satO c d (knownA w++[⟨i,x⟩])=some a→LeN c.nodes.length w a∧a.length=c.nodes.length∧∀ j,a.getD j 0≤2:=fun {x a} ea=>by
     have L:=lstO_some ea
     have al:=satP_len a L.mem
     exact⟨(known_ext hwl al).1 (ext_snoc.1 L.ext).1,al,(satP_cw L.mem).le⟩
    have go:∀ w',meetO (satO c d (knownA w++[⟨i,0⟩])) (satO c d (knownA w++[⟨i,1⟩]))=some w'→LeN c.nodes.length w w'→w'.length=c.nodes.length→(∀ j,w'.getD j 0≤2)→i+1<2 ^ 63∧nx (w',i+1):=fun w' em hw' hl' hle'=>by
     refine⟨by omega,hnx _ ⟨q,hge.trans hw',hl',hle',fun t T Et=>?_,fun ew m hm h2=>?_⟩ (by dsimp only;omega)⟩
     ·obtain⟨z,ez,hz⟩:=targ t T Et
      rw[em] at ez;cases ez;exact hz
     ·dsimp only at ew hm
      have ewv:w=v:=by subst ew;exact hw'.anti hge
      by_cases emi:m=i
      ·subst emi
       rw[← ewv,em]
       exact⟨w',rfl,by rw[ewv,ew];exact⟨hvl,fun _=>.inr rfl⟩⟩
      ·exact hsat ewv m (by omega) h2
    have ne:∀ {a:List Nat},a.length=c.nodes.length→a.isEmpty=false:=fun {a} h=>by cases a with
     |nil=>simp only[List.length_nil] at h;omega
     |cons _ _=>rfl
    have s0:=@side 0
    have s1:=@side 1
    clear side
    generalize satO c d (knownA w++[⟨i,0⟩])=o0 at targ s0 go ⊢
    generalize satO c d (knownA w++[⟨i,1⟩])=o1 at targ s1 go ⊢
    cases o0 with
    |none =>
     cases o1 with
     |none=>exact joinB (a:=true) (fun F=>⟨fun _=>F,(fun e=>by cases e)⟩) ⟨fun _=>h2 fun t T Et=>(by obtain⟨z,ez,_⟩:=targ t T Et;cases ez),(fun e=>by cases e)⟩
     |some b =>
      obtain⟨b1,b2,b3⟩:=s1 rfl
      have eb:(ofO (some b)).isEmpty=false:=ne b2
      exact joinB (a:=(ofO (some b)).isEmpty) (fun F=>⟨fun _=>F,(fun e=>by cases e)⟩) ⟨fun e=>(by rw[eb] at e;cases e),fun _=>⟨fun _=>go b rfl b1 b2 b3,(fun e=>by cases e)⟩⟩
    |some a =>
     obtain⟨a1,a2,a3⟩:=s0 rfl
     have ea:(ofO (some a)).isEmpty=false:=ne a2
     refine joinB (a:=false) (fun F=>⟨fun e=>(by rw[ea] at e;cases e),fun _=>F⟩) ⟨(fun e=>by cases e),fun _=>⟨fun e=>(by rw[ea] at e;cases e),fun _=>?_⟩⟩
     cases o1 with
     |none=>exact⟨fun _=>go a rfl a1 a2 a3,(fun e=>by cases e)⟩
     |some b =>
      obtain⟨b1,b2,b3⟩:=s1 rfl
      have eb:(ofO (some b)).isEmpty=false:=ne b2
      refine⟨fun e=>(by rw[eb] at e;cases e),fun _=>joined_vc (a:=a) (b:=b) (a2.trans b2.symm) (by omega) (by omega) (go _ rfl (meet_ge a2 b2 a1 b1) (by rw[joinedN_len];exact a2) fun j=>?_)⟩
      rw[joinedN_get (a2.trans b2.symm)]
      unfold cm
      split
      ·exact a3 j
      ·exact Nat.le_refl _
  ·have q:=lt_f.1 q
   (try dsimp only at q)
   have:i=v.length:=by omega
   subst this
   exact hk w ⟨hge,hwl,hle,hlow,hsat⟩
 ·rintro w ⟨hge,hwl,hle,hlow,hsat⟩
  have kg:=known_grow hge hwl
  refine list_vc (by omega) ⟨fun q=>?_,fun q=>?_⟩
  ·have q:=lt_t.1 q
   have G:=giv_known hwl hc hle
   refine list_vc (by omega) (close_vc C.p C.f3 G.ok G.len (fun v' D'=>⟨(fun e=>by cases e),fun _=>?_⟩) fun N=>⟨fun _=>h2 fun t T Et=>N t (cw_split.2 ⟨satP_cw T,(known_ext hwl (satP_len t T)).2 (hlow t T Et)⟩),(fun e=>by cases e)⟩)
   have hwv:LeN c.nodes.length w v':=(known_ext hwl D'.len).1 D'.giv
   refine hnext v' ⟨(cw_split.1 D'.cw).1,(hge.trans hwv).ext (fun x m=>(g.ok x m).2) E,fun t T Et=>⟨D'.len,D'.snd t (cw_split.2 ⟨satP_cw T,(known_ext hwl (satP_len t T)).2 (hlow t T Et)⟩)⟩⟩ ?_
   have:=(known_grow hwv D'.len).1
   have:=known_len v'
   have:=D'.len
   omega
  ·have q:=lt_f.1 q
   have ev:=kg.2 q
   subst ev
   refine h1 _ ⟨⟨W,fun m hm h2=>hsat rfl m (by omega) h2⟩,E,fun t T Et=>?_⟩
   rw[hvl]
   exact low t T Et
theorem sat_all {c:Circ} (C:CC c):∀ d,d<100→SatV c d∧∀ e,e≤d→SatD c e
 |0,_=>⟨sat_zero C,fun e he=>by
  have:e=0:=by omega
  subst this;exact (sat_zero C).dec⟩
 |d+1,h=>by
  obtain⟨V,D⟩:=sat_all C d (by omega)
  have V':=sat_succ C (by omega) V D
  refine⟨V',fun e he=>?_⟩
  by_cases q:e=d+1
  ·subst q;exact V'.dec
  ·exact D e (by omega)
theorem saturate_vc {c:Circ} (C:CC c) {d:Nat} (hd:d<100) {given:List Asg} (g:GivOk c given) {K:List Nat→Prop} (k:K (ofO (satO c d given))):learns_saturate_wp c d given K :=
 ⟨d+1,(sat_all C d hd).1.get g k⟩
theorem satD {c:Circ} (C:CC c) {d:Nat} (hd:d<100):SatD c d:=(sat_all C d hd).2 d (Nat.le_refl _)
inductive CloseR (c:Circ) (given:List Asg):List Nat×Bool×Nat→Prop
 |ok (v:List Nat) (C:CloseOk c given v):CloseR c given (v,true,0)
 |no (h:∀ t,¬ CW c given t):CloseR c given ([],false,0)
theorem CloseR.yes {c:Circ}{given:List Asg}{r:List Nat×Bool×Nat} (R:CloseR c given r) (h:r.2.1=true):CloseOk c given r.1:=by
 cases R with
 |ok v C=>exact C
 |no _=>cases h
theorem CloseR.not {c:Circ}{given:List Asg}{r:List Nat×Bool×Nat} (R:CloseR c given r) (h:r.2.1=false):r.1=[]∧∀ t,¬ CW c given t:=by
 cases R with
 |ok v C=>cases h
 |no q=>exact⟨rfl,q⟩
theorem lknown_vc {c:Circ}{l:List Asg} (h:∀ a∈l,a.net<c.nodes.length∧a.value≤1) (hl:l.length<2 ^ 60) {K:Bool→Prop} (k:K true):learns_known_wp c l K:=by
 unfold learns_known_wp
 refine joinLoop (fun i=>i≤l.length) (fun i=>l.length-i) (fun _=>True) ?_ (Nat.zero_le _) (fun _ _=>k)
 rintro kk i nx hi hnx hk
 refine⟨fun q=>?_,fun _=>hk () trivial⟩
 have q:=lt_t.1 q
 obtain⟨a,ha⟩:=get_lt q
 obtain⟨g1,g2⟩:=h a (List.mem_of_getElem? ha)
 refine⟨a,ha,joinB (a:=false) (fun F=>⟨fun e=>absurd (lt_t.1 e) (Nat.not_lt_zero _),fun _=>⟨fun e=>absurd (nlt_t.1 e) (by omega),fun _=>known_vc ?_⟩⟩) ⟨(fun e=>by cases e),fun _=>⟨by omega,hnx _ q (by omega)⟩⟩⟩
 rw[decide_eq_true g2]
 exact F
theorem cloR_sat {o:Option (List Nat)} (h:∀ v,o=some v→0<v.length):(ofO o,!(ofO o).isEmpty,0)=cloR o:=by
 cases o with
 |none=>rfl
 |some v=>cases v with
  |nil=>have:=h [] rfl;simp at this
  |cons _ _=>rfl
theorem satO_pos {c:Circ} (C:CC c) {d:Nat}{given:List Asg}:∀ v,satO c d given=some v→0<v.length:=fun v e=>by
 rw[satP_len v (lstO_some e).mem];exact C.p.good.pos
theorem lSaturate_vc {c:Circ} (C:CC c) {d:Nat} (hd:d≤4) {given:List Asg} (g:GivOk c given) {K:List Nat×Bool×Nat→Prop} (k:K (cloR (satO c d given))):learns_Saturate_wp c d given K:=by
 unfold learns_Saturate_wp
 refine plain_vc C.p ⟨fun q=>absurd rfl (ne_t.1 q),fun _=>⟨fun q=>absurd (lt_t.1 q) (Nat.not_lt_zero _),fun _=>⟨fun q=>absurd (lt_t.1 q) (by omega),fun _=>lknown_vc g.ok g.len ⟨(fun e=>by cases e),fun _=>saturate_vc C (by omega) g ?_⟩⟩⟩⟩
 rw[cloR_sat (satO_pos C)]
 exact k
def lawP (c:Circ) (laws:List Lawv):List Nat→Prop:=fun t=>CW c [] t∧∀ l∈laws,t.getD l.cond.net 0=l.cond.value→t.getD l.thn.net 0=l.thn.value
noncomputable def lawO (c:Circ) (laws:List Lawv) (given:List Asg):Option (List Nat):=lstO (lawP c laws) given
theorem lawP_len {c:Circ}{laws:List Lawv} (t:List Nat) (h:lawP c laws t):t.length=c.nodes.length:=h.1.len
structure LawsOk (c:Circ) (laws:List Lawv):Prop where
 ok:∀ l∈laws,(l.cond.net<c.nodes.length∧l.cond.value≤1)∧l.thn.net<c.nodes.length∧l.thn.value≤1
 len:laws.length<2 ^ 30
theorem clone_vc {l:List Asg} (hl:l.length<2 ^ 40) {K:List Asg→Prop} (k:K l):sl_CloneA_wp l K:=by
 unfold sl_CloneA_wp
 cases l with
 |nil=>exact⟨fun _=>k,(fun e=>by cases e)⟩
 |cons a l=>exact⟨(fun e=>by cases e),fun _=>⟨by simp only[List.length_nil];omega,by simp,k⟩⟩
open Classical in
noncomputable def cloM (c:Circ) (all:List Asg):Nat:=match clo c all with
 |none=>0
 |some v=>1025-(knownA v).length
theorem lClose_vc' {c:Circ} (C:CC c) {laws:List Lawv} (L:LawsOk c laws) {given:List Asg} (g:GivOk c given) (gl:given.length<2 ^ 40) {K:List Nat×Bool×Nat→Prop} (h1:∀ v,Lst (lawP c laws) given v→K (v,true,0)) (h2:(∀ t,lawP c laws t→¬ Ext given t)→K ([],false,0)):learns_Close_wp c laws given K:=by
 have hc:=C.p.good.len
 unfold learns_Close_wp
 refine plain_vc C.p ⟨fun q=>absurd rfl (ne_t.1 q),fun _=>lknown_vc g.ok g.len ⟨(fun e=>by cases e),fun _=>?_⟩⟩
 refine joinLoop (fun i=>i≤laws.length) (fun i=>laws.length-i) (fun _=>True) ?_ (Nat.zero_le _) fun _ _=>?_
 ·rintro kk i nx hi hnx hk
  refine⟨fun q=>?_,fun _=>hk () trivial⟩
  have q:=lt_t.1 q
  obtain⟨l,hl⟩:=get_lt q
  obtain⟨l1,l2⟩:=L.ok l (List.mem_of_getElem? hl)
  have:=L.len
  refine⟨l,hl,lknown_vc (fun a m=>?_) (by simp) ⟨(fun e=>by cases e),fun _=>⟨by omega,hnx _ q (by omega)⟩⟩⟩
  rcases List.mem_cons.1 m with rfl|m
  ·exact l1
  ·rw[List.mem_singleton.1 m];exact l2
 refine clone_vc gl ?_
 refine loopW_intro (fun all=>GivOk c all∧(∀ t,lawP c laws t→Ext given t→Ext all t)∧∀ t,CW c [] t→Ext all t→Ext given t) (cloM c) ?_ ⟨g,fun _ _ e=>e,fun _ _ e=>e⟩
 intro all next ⟨ga,ha1,ha2⟩ hnext
 refine close_vc C.p C.f3 ga.ok ga.len (fun v D=>⟨(fun e=>by cases e),fun _=>?_⟩) fun N=>⟨fun _=>h2 fun t T E=>N t (cw_split.2 ⟨T.1,ha1 t T E⟩),(fun e=>by cases e)⟩
 have hvl:=D.len
 have hkl:(knownA v).length≤1024:=by have:=known_len v;omega
 have hlow:∀ t,lawP c laws t→Ext given t→LeN c.nodes.length v t:=fun t T E=>⟨hvl,D.snd t (cw_split.2 ⟨T.1,ha1 t T E⟩)⟩
 refine list_vc (v:=v) (by omega) ?_
 refine joinLoop (fun s=>s.2.2≤laws.length∧(∀ a∈s.1,a.net<c.nodes.length∧a.value≤1)∧s.1.length≤1024+s.2.2∧(∀ t,lawP c laws t→Ext given t→Ext s.1 t)∧(∀ t,Ext s.1 t→Ext (knownA v) t)∧(s.2.1=true→∃ a∈s.1,v.getD a.net 0≠a.value)∧(s.2.1=false→s.1=knownA v∧∀ j l,j<s.2.2→laws[j]?=some l→v.getD l.cond.net 0=l.cond.value→v.getD l.thn.net 0=l.thn.value))
  (fun s=>laws.length-s.2.2) (fun s=>(∀ a∈s.1,a.net<c.nodes.length∧a.value≤1)∧s.1.length≤1024+laws.length∧(∀ t,lawP c laws t→Ext given t→Ext s.1 t)∧(∀ t,Ext s.1 t→Ext (knownA v) t)∧(s.2=true→∃ a∈s.1,v.getD a.net 0≠a.value)∧(s.2=false→s.1=knownA v∧∀ l∈laws,v.getD l.cond.net 0=l.cond.value→v.getD l.thn.net 0=l.thn.value)) ?_
  ⟨Nat.zero_le _,(giv_known hvl hc D.le).ok,hkl,fun t T E=>(known_ext hvl (lawP_len t T)).2 (hlow t T E),fun _ e=>e,(fun e=>by cases e),fun _=>⟨rfl,fun _ _ h=>absurd h (Nat.not_lt_zero _)⟩⟩ ?_
 ·rintro kk ⟨l,b,i⟩ nx ⟨hi,hok,hll,i1,i2,i3,i4⟩ hnx hk
  dsimp only at hi hok hll i1 i2 i3 i4
  have:=L.len
  refine⟨fun q=>?_,fun q=>?_⟩
  ·have q:=lt_t.1 q
   (try dsimp only at q)
   obtain⟨x,hx⟩:=get_lt q
   obtain⟨⟨x1,x2⟩,x3,x4⟩:=L.ok x (List.mem_of_getElem? hx)
   have no:¬ (v.getD x.cond.net 0=x.cond.value∧v.getD x.thn.net 0≠x.thn.value)→i+1<2 ^ 63∧nx (l,b,i+1):=fun hn=>by
    refine⟨by omega,hnx _ ⟨q,hok,by dsimp only;omega,i1,i2,i3,fun e=>⟨(i4 e).1,fun j y hj hy hc2=>?_⟩⟩ (by dsimp only;omega)⟩
    by_cases ej:j=i
    ·subst ej
     rw[hx] at hy;cases hy
     exact Classical.byContradiction fun h=>hn ⟨hc2,h⟩
    ·exact (i4 e).2 j y (by dsimp only at hj;omega) hy hc2
   have fin:∀ z,(z=true→v.getD x.cond.net 0=x.cond.value∧v.getD x.thn.net 0≠x.thn.value)→(z=false→¬ (v.getD x.cond.net 0=x.cond.value∧v.getD x.thn.net 0≠x.thn.value)) →
     (z=true→(l.length+([x.thn]:List Asg).length)*16≤2 ^ 47∧i+1<2 ^ 63∧nx (l++([x.thn]:List Asg),true,i+1))∧(z=false→i+1<2 ^ 63∧nx (l,b,i+1)):=fun z z1 z2=>by
    refine⟨fun e=>?_,fun e=>no (z2 e)⟩
    obtain⟨c1,c2⟩:=z1 e
    refine⟨by simp only[List.length_singleton];omega,by omega,hnx _ ⟨q,fun a m=>?_,by simp only[List.length_append,List.length_singleton];omega,fun t T E=>ext_snoc.2 ⟨i1 t T E,?_⟩,fun t E=>i2 t (ext_snoc.1 E).1,fun _=>⟨x.thn,List.mem_append_right _ (List.mem_singleton.2 rfl),c2⟩,(fun e=>by cases e)⟩ (by dsimp only;omega)⟩
    ·rcases List.mem_append.1 m with m|m
     ·exact hok a m
     ·rw[List.mem_singleton.1 m];exact⟨x3,x4⟩
    ·refine T.2 x (List.mem_of_getElem? hx) ?_
     rcases (hlow t T E).2 x.cond.net with h|h
     ·omega
     ·rw[← h];exact c1
   refine joinI ⟨x,hx,joinI ⟨_,getN hvl x1,fun e=>⟨_,getN hvl x3,fin _ (fun e2=>⟨eq_t.1 e,ne_t.1 e2⟩) (fun e2 h=>h.2 (ne_f.1 e2))⟩,fun e=>fin _ (fun e2=>by cases e2) (fun _ h=>absurd h.1 (eq_f.1 e))⟩⟩
  ·have q:=lt_f.1 q
   (try dsimp only at q)
   exact hk (l,b) ⟨hok,by dsimp only;omega,i1,i2,i3,fun e=>⟨(i4 e).1,fun y m=>by
    obtain⟨j,hj,ey⟩:=List.getElem_of_mem m
    exact (i4 e).2 j y (by omega) (by rw[List.getElem?_eq_getElem hj,ey])⟩⟩
 ·rintro⟨l,b⟩ ⟨hok,hll,i1,i2,i3,i4⟩
  dsimp only at hok hll i1 i2 i3 i4
  have:=L.len
  refine⟨fun e=>?_,fun e=>?_⟩
  ·have gl:GivOk c l:=⟨hok,by omega⟩
   refine hnext l ⟨gl,i1,fun t T E=>ha2 t T ?_⟩ ?_
   ·exact ((known_ext hvl T.len).1 (i2 t E)).ext (fun x m=>(ga.ok x m).2) D.giv
   ·unfold cloM
    rw[clo_ok D]
    rcases clo_cases C.p C.f3 gl with⟨v',D',e'⟩|⟨_,e'⟩
    ·rw[e']
     have hvv:=(known_ext hvl D'.len).1 (i2 v' D'.giv)
     have kg:=known_grow hvv D'.len
     obtain⟨a,m,ne⟩:=i3 e
     have:¬ (knownA v').length≤(knownA v).length:=fun h=>by
      have:=kg.2 h
      subst this
      exact ne (D'.giv a m)
     have:=known_len v'
     have:=D'.len
     dsimp only
     omega
    ·rw[e']
     dsimp only
     omega
  ·exact h1 v ⟨⟨(cw_split.1 D.cw).1,(i4 e).2⟩,ha2 v (cw_split.1 D.cw).1 D.giv,fun t T E=>by rw[hvl];exact hlow t T E⟩
theorem lClose_vc {c:Circ} (C:CC c) {laws:List Lawv} (L:LawsOk c laws) {given:List Asg} (g:GivOk c given) (gl:given.length<2 ^ 40) {K:List Nat×Bool×Nat→Prop} (k:K (cloR (lawO c laws given))):learns_Close_wp c laws given K:=by
 refine lClose_vc' C L g gl (fun v V=>?_) fun N=>?_
 ·rw[show lawO c laws given=some v from lstO_ok lawP_len V] at k;exact k
 ·rw[show lawO c laws given=none from lstO_none N] at k;exact k
theorem equal_vc {a:List Nat}{x:Bool} (hl:a.length<2 ^ 60) {K:Bool→Prop} (k:K true):probecardlaw25_equal_wp a x a x K:=by
 unfold probecardlaw25_equal_wp
 refine joinB (a:=false) (fun F=>⟨fun e=>(by cases x <;> cases e),fun _=>(by rw[ne_f.2 rfl];exact F)⟩) ⟨(fun e=>by cases e),fun _=>?_⟩
 refine joinLoop (fun i=>i≤a.length) (fun i=>a.length-i) (fun _=>True) ?_ (Nat.zero_le _) (fun _ _=>k)
 rintro kk i nx hi hnx hk
 refine⟨fun q=>?_,fun _=>hk () trivial⟩
 have q:=lt_t.1 q
 obtain⟨y,hy⟩:=get_lt q
 exact⟨y,hy,y,hy,fun e=>absurd rfl (ne_t.1 e),fun _=>⟨by omega,hnx _ q (by omega)⟩⟩
theorem cloR_fst (o:Option (List Nat)):(cloR o).1=ofO o:=by cases o <;> rfl
theorem one_giv {c:Circ}{m w:Nat} (hm:m<c.nodes.length) (hw:w≤1):GivOk c [⟨m,w⟩]:=by
 refine⟨fun a h=>?_,by simp⟩
 rw[List.mem_singleton.1 h];exact⟨hm,hw⟩
noncomputable def keepR (c:Circ) (i:Nat) (a:Asg):Bool:=neN a.net (i/2)&&match clo c [⟨a.net,1-a.value⟩] with
 |none=>false
 |some w=>neN (w.getD (i/2) 0) (1-i%2)
def lawR (i:Nat) (a:Asg):Lawv:=⟨⟨a.net,1-a.value⟩,⟨i/2,1-i%2⟩⟩
noncomputable def rowR (c:Circ) (i:Nat):List Lawv:=match clo c [⟨i/2,i%2⟩] with
 |none=>[⟨⟨i/2,i%2⟩,⟨i/2,1-i%2⟩⟩]
 |some v=>((knownA v).filter (keepR c i)).map (lawR i)
noncomputable def outR (c:Circ):List Lawv:=(List.range (2*c.nodes.length)).flatMap (rowR c)
theorem rowR_len {c:Circ} (C:CC c) (i:Nat):(rowR c i).length≤1025:=by
 unfold rowR
 cases h:clo c [⟨i/2,i%2⟩] with
 |none=>simp
 |some v =>
  dsimp only
  rw[List.length_map]
  have:=List.length_filter_le (keepR c i) (knownA v)
  have:=known_len v
  have:=(clo_some h).len
  have:=C.p.good.len
  omega
theorem outP_len {c:Circ} (C:CC c):∀ i,((List.range i).flatMap (rowR c)).length≤1025*i
 |0=>by simp
 |i+1=>by
  rw[List.range_succ,List.flatMap_append,List.length_append]
  have:=outP_len C i
  have:=rowR_len C i
  simp only[List.flatMap_cons,List.flatMap_nil,List.append_nil]
  omega
theorem mod_w (i:Nat):i%2%256=i%2:=Nat.mod_eq_of_lt (by omega)
theorem static_vc {c:Circ} (C:CC c) (h512:c.nodes.length≤512) {K:List Lawv×Nat→Prop} (k:∀ l:List Lawv,l.Perm (outR c)→l.Pairwise lawLe→K (l,0)):learns_Static_wp c K:=by
 have hc:=C.p.good.len
 have hpos:=C.p.good.pos
 unfold learns_Static_wp
 refine plain_vc C.p ⟨fun q=>absurd rfl (ne_t.1 q),fun _=>⟨fun q=>absurd (lt_t.1 q) (by omega),fun _=>⟨by omega,by omega,by omega,?_⟩⟩⟩
 refine joinLoop (fun s=>s.2≤2*c.nodes.length∧s.1.length=2*c.nodes.length∧∀ j,j<s.2→s.1[j]?=some (ofO (clo c [⟨j/2,j%2⟩]))) (fun s=>2*c.nodes.length-s.2) (fun s=>s.length=2*c.nodes.length∧∀ j,j<2*c.nodes.length→s[j]?=some (ofO (clo c [⟨j/2,j%2⟩]))) ?_ ⟨Nat.zero_le _,by simp,fun j hj=>absurd hj (Nat.not_lt_zero _)⟩ ?_
 ·rintro kk ⟨all,i⟩ nx ⟨hi,hl,hI⟩ hnx hk
  dsimp only at hi hl hI
  refine⟨fun q=>?_,fun q=>?_⟩
  ·have q:=lt_t.1 q
   (try dsimp only at q)
   refine⟨by omega,by omega,by omega,?_⟩
   rw[mod_w]
   refine clo_vc C.p C.f3 (one_giv (by omega) (by omega)) ?_
   obtain⟨x,hx⟩:=get_lt (l:=all) (i:=i) (by omega)
   refine⟨q,x,hx,by omega,hnx _ ⟨q,by dsimp only;rw[List.length_set];exact hl,fun j hj=>?_⟩ (by dsimp only;omega)⟩
   dsimp only at hj ⊢
   rw[List.getElem?_set]
   by_cases e:i=j
   ·subst e;rw[if_pos rfl,if_pos (by omega),cloR_fst]
   ·rw[if_neg e];exact hI j (by omega)
  ·have q:=lt_f.1 q
   (try dsimp only at q)
   exact hk all ⟨hl,fun j hj=>hI j (by omega)⟩
 rintro all ⟨hl,hI⟩
 refine joinLoop (fun s=>s.2≤2*c.nodes.length∧s.1=(List.range s.2).flatMap (rowR c)) (fun s=>2*c.nodes.length-s.2) (fun s=>s=outR c) ?_ ⟨Nat.zero_le _,rfl⟩ ?_
 ·rintro kk ⟨out,i⟩ nx ⟨hi,hI2⟩ hnx hk
  dsimp only at hi hI2
  have hol:out.length≤1025*i:=by rw[hI2];exact outP_len C i
  refine⟨fun q=>?_,fun q=>?_⟩
  ·have q:=lt_t.1 q
   (try dsimp only at q)
   have go:∀ o,o=out++rowR c i→i+1<2 ^ 63∧nx (o,i+1):=fun o e=>by
    refine⟨by omega,hnx _ ⟨q,?_⟩ (by dsimp only;omega)⟩
    dsimp only
    rw[e,hI2,List.range_succ,List.flatMap_append]
    simp only[List.flatMap_cons,List.flatMap_nil,List.append_nil]
   have hx:=hI i q
   refine joinI ⟨q,_,hx,by omega,by omega,by omega,?_⟩
   rw[mod_w]
   refine⟨by omega,by omega,?_⟩
   cases hcl:clo c [⟨i/2,i%2⟩] with
   |none =>
    refine⟨fun _=>⟨by simp only[List.length_singleton];omega,go _ ?_⟩,(fun e=>by cases e)⟩
    unfold rowR
    rw[hcl]
   |some v =>
    have D:=clo_some hcl
    have hvl:=D.len
    have hne:(ofO (some v)).isEmpty=false:=by cases v with
     |nil=>simp only[List.length_nil] at hvl;omega
     |cons _ _=>rfl
    refine⟨fun e=>(by rw[hne] at e;cases e),fun _=>list_vc (v:=v) (by omega) ?_⟩
    have hkl:=known_len v
    refine loopW_intro (fun s=>s.2≤(knownA v).length∧s.1=out++(((knownA v).take s.2).filter (keepR c i)).map (lawR i)) (fun s=>(knownA v).length-s.2) ?_ ⟨Nat.zero_le _,by simp⟩
    rintro⟨o,j⟩ nx2 ⟨hj,hJ⟩ hnx2
    dsimp only at hj hJ
    have hol2:o.length≤1025*i+1024:=by
     rw[hJ,List.length_append,List.length_map]
     have:=List.length_filter_le (keepR c i) ((knownA v).take j)
     rw[List.length_take] at this
     omega
    refine⟨fun q2=>?_,fun q2=>?_⟩
    ·have q2:=lt_t.1 q2
     (try dsimp only at q2)
     obtain⟨a,ha⟩:=get_lt q2
     obtain⟨l1,l2⟩:=List.getElem?_eq_some_iff.1 ha
     obtain⟨a1,a2,a3⟩:=mem_known.1 (List.mem_of_getElem? ha)
     have hav:=D.le a.net
     have av:a.value≤1:=by omega
     have go2:∀ b,b=keepR c i a→(b=true→(o.length+([lawR i a]:List Lawv).length)*32≤2 ^ 47∧j+1<2 ^ 63∧nx2 (o++([lawR i a]:List Lawv),j+1))∧(b=false→j+1<2 ^ 63∧nx2 (o,j+1)):=fun b eb=>by
      refine⟨fun e=>⟨by simp only[List.length_singleton];omega,by omega,hnx2 _ ⟨q2,?_⟩ (by dsimp only;omega)⟩,fun e=>⟨by omega,hnx2 _ ⟨q2,?_⟩ (by dsimp only;omega)⟩⟩
      ·dsimp only
       rw[hJ,List.take_succ_eq_append_getElem l1,l2,List.filter_append,List.filter_cons,if_pos (by rw[← eb];exact e),List.filter_nil,List.map_append,List.append_assoc]
       rfl
      ·dsimp only
       rw[hJ,List.take_succ_eq_append_getElem l1,l2,List.filter_append,List.filter_cons,if_neg (by rw[← eb,e];simp),List.filter_nil,List.append_nil]
     have hidx:2*a.net+(1-a.value)<2*c.nodes.length:=by omega
     have hx2:=hI _ hidx
     rw[show (2*a.net+(1-a.value))/2=a.net by omega,show (2*a.net+(1-a.value))%2=1-a.value by omega] at hx2
     refine joinI ⟨a,ha,by omega,av,by omega,by omega,by omega,by omega,_,hx2,?_⟩
     have fin:∀ b,b=keepR c i a→(b=true→a.value≤1∧1<256∧(o.length+([(⟨(⟨a.net,(1-a.value)⟩:Asg),(⟨(i/2),(1-(i%2))⟩:Asg)⟩:Lawv)]:(List Lawv)).length)*32≤2 ^ 47∧j+1<2 ^ 63∧nx2 (o++([(⟨(⟨a.net,(1-a.value)⟩:Asg),(⟨(i/2),(1-(i%2))⟩:Asg)⟩:Lawv)]:(List Lawv)),j+1))∧(b=false→j+1<2 ^ 63∧nx2 (o,j+1)):=fun b eb=>⟨fun e=>⟨av,by decide,(go2 b eb).1 e⟩,(go2 b eb).2⟩
     refine joinI ⟨fun e=>?_,fun e=>fin _ ?_⟩
     ·unfold keepR at fin
      rw[e] at fin
      cases hc2:clo c [⟨a.net,1-a.value⟩] with
      |none =>
       rw[hc2] at fin
       exact⟨(fun e=>by cases e),fun _=>fin _ rfl⟩
      |some w =>
       have hwl:=(clo_some hc2).len
       have hne2:(ofO (some w)).isEmpty=false:=by cases w with
        |nil=>simp only[List.length_nil] at hwl;omega
        |cons _ _=>rfl
       rw[hc2] at fin
       refine⟨fun _=>⟨_,getN hwl (by omega),fin _ ?_⟩,fun e=>(by rw[hne2] at e;cases e)⟩
       rfl
     ·unfold keepR
      rw[e]
      rfl
    ·have q2:=lt_f.1 q2
     (try dsimp only at q2)
     refine go o ?_
     rw[hJ,List.take_of_length_le q2]
     unfold rowR
     rw[hcl]
  ·have q:=lt_f.1 q
   (try dsimp only at q)
   have:i=2*c.nodes.length:=by omega
   subst this
   exact hk out hI2
 ·rintro out rfl
  have:=outP_len C (2*c.nodes.length)
  exact⟨by unfold outR;omega,fun l hp hs=>k l hp hs⟩
set_option maxHeartbeats 8000000
def probecardlaw25_lives_wp  (K:Bool→Prop):Prop :=
 probecardlaw25_example_wp  (fun r1=>probecardlaw25_at_wp 5 1 (fun r6=>1=([r6]:(List Asg)).length∧learns_Saturate_wp r1 0 ([r6]:(List Asg)) (fun r9=>probecardlaw25_at_wp 5 1 (fun r11=>1=([r11]:(List Asg)).length∧learns_Saturate_wp r1 1 ([r11]:(List Asg)) (fun r14=>learns_Static_wp r1 (fun r16=>learns_Static_wp (⟨([(⟨0,([]:(List Nat)),0,0⟩:Node),(⟨4,([0]:(List Nat)),0,0⟩:Node),(⟨5,([0,1]:(List Nat)),0,0⟩:Node)]:(List Node)),([(⟨#[97]⟩:ByteArray),(⟨#[98]⟩:ByteArray),(⟨#[99]⟩:ByteArray)]:(List ByteArray)),([]:(List Memo)),([2]:(List Nat))⟩:Circ) (fun r17=>learns_Saturate_wp (⟨([(⟨0,([]:(List Nat)),0,0⟩:Node),(⟨4,([0]:(List Nat)),0,0⟩:Node),(⟨5,([0,1]:(List Nat)),0,0⟩:Node)]:(List Node)),([(⟨#[97]⟩:ByteArray),(⟨#[98]⟩:ByteArray),(⟨#[99]⟩:ByteArray)]:(List ByteArray)),([]:(List Memo)),([2]:(List Nat))⟩:Circ) 1 ([]:(List Asg)) (fun r18=>joinW (α:=Bool) (fun k20=>((neN r9.2.2 0)=true→k20 true)∧((neN r9.2.2 0)=false→((neN r14.2.2 0)=true→k20 true)∧((neN r14.2.2 0)=false→((neN r16.2 0)=true→k20 true)∧((neN r16.2 0)=false→((neN r17.2 0)=true→k20 true)∧((neN r17.2 0)=false→((neN r18.2.2 0)=true→k20 true)∧((neN r18.2.2 0)=false→probecardlaw25_equal_wp r9.1 r9.2.1 ([2,2,2,2,2,1]:(List Nat)) true (fun r21=>((!r21)=true→k20 true)∧((!r21)=false→probecardlaw25_equal_wp r14.1 r14.2.1 ([2,1,2,2,2,1]:(List Nat)) true (fun r22=>((!r22)=true→k20 true)∧((!r22)=false→probecardlaw25_equal_wp r18.1 r18.2.1 ([2,2,0]:(List Nat)) true (fun r23=>k20 (!r23)))))))))))) (fun v19=>(v19=true→K false)∧(v19=false→joinW (α:=Bool) (fun k25=>((neN r16.1.length 1)=true→k25 true)∧((neN r16.1.length 1)=false→∃ x26,r16.1[0]?=some x26∧probecardlaw25_at_wp 5 1 (fun r27=>probecardlaw25_at_wp 1 1 (fun r28=>((!(((eqN x26.cond.net r27.net)&&((eqN x26.cond.value r27.value)&&true))&&(((eqN x26.thn.net r28.net)&&((eqN x26.thn.value r28.value)&&true))&&true)))=true→k25 true)∧((!(((eqN x26.cond.net r27.net)&&((eqN x26.cond.value r27.value)&&true))&&(((eqN x26.thn.net r28.net)&&((eqN x26.thn.value r28.value)&&true))&&true)))=false→((neN r17.1.length 1)=true→k25 true)∧((neN r17.1.length 1)=false→∃ x29,r17.1[0]?=some x29∧probecardlaw25_at_wp 2 1 (fun r30=>probecardlaw25_at_wp 2 0 (fun r31=>k25 (!(((eqN x29.cond.net r30.net)&&((eqN x29.cond.value r30.value)&&true))&&(((eqN x29.thn.net r31.net)&&((eqN x29.thn.value r31.value)&&true))&&true))))))))))) (fun v24=>(v24=true→K false)∧(v24=false→probecardlaw25_at_wp 2 1 (fun r32=>1=([r32]:(List Asg)).length∧learns_Close_wp (⟨([(⟨0,([]:(List Nat)),0,0⟩:Node),(⟨4,([0]:(List Nat)),0,0⟩:Node),(⟨5,([0,1]:(List Nat)),0,0⟩:Node)]:(List Node)),([(⟨#[97]⟩:ByteArray),(⟨#[98]⟩:ByteArray),(⟨#[99]⟩:ByteArray)]:(List ByteArray)),([]:(List Memo)),([2]:(List Nat))⟩:Circ) r17.1 ([r32]:(List Asg)) (fun r35=>probecardlaw25_at_wp 0 1 (fun r37=>probecardlaw25_at_wp 1 1 (fun r38=>probecardlaw25_at_wp 0 1 (fun r41=>1=([(⟨r37,r38⟩:Lawv)]:(List Lawv)).length∧1=([r41]:(List Asg)).length∧learns_Close_wp r1 ([(⟨r37,r38⟩:Lawv)]:(List Lawv)) ([r41]:(List Asg)) (fun r44=>((eqN r35.2.2 0)=true→((!r35.2.1)=true→((eqN r44.2.2 0)=true→probecardlaw25_equal_wp r44.1 r44.2.1 ([1,1,1,0,0,1]:(List Nat)) true (fun r49=>K r49))∧((eqN r44.2.2 0)=false→K false))∧((!r35.2.1)=false→K false))∧((eqN r35.2.2 0)=false→K false)))))))))))))))))))
theorem probecardlaw25_lives_walk  {K:Bool→Prop} (hm:probecardlaw25_lives_wp  K) {h0:Heap} (hB:HasB vars h0):∃ r,K r∧CallD Tryz.prog NG 23 ⟨[]⟩ h0 (Value.bool r) h0:=by
 unfold probecardlaw25_lives_wp at hm
 refine fw Tryz.func23 hB (enc:=Value.bool) (fun r=>PureV.flat rfl) fun O=>?_;conv=>whnf
 refine gX ?_
 refine ca (probecardlaw25_example_walk hm O.has) fun r1 hm=>?_;refine gH ?_
 refine O.new (anew_alloc (l:=[(.slice none 0 0),(.slice none 0 0),(.slice none 0 0),(.slice none 0 0)]) rfl rfl rfl) fun g2 h O=>?_;refine gH ?_
 refine O.stC 4 (.head _) [((encL 4 encNode) r1.nodes),((encL 1 Value.string) r1.names),((encL 3 encMem) r1.mems),((encL 1 i64) r1.outs)] fun h O=>?_;refine gX ?_
 refine fz ?_;refine gH ?_
 refine fz ?_;refine gH ?_
 refine NewG.frzW rfl (VLe.els (s:=4) (es':=([(⟨0,([]:(List Nat)),0,0⟩:Node),(⟨4,([0]:(List Nat)),0,0⟩:Node),(⟨5,([0,1]:(List Nat)),0,0⟩:Node)]).map encNode) rfl (map_size (enc:=encNode) (s:=4) (fun _=>rfl) _) (LLe.cons (VLe.refl _ _) (LLe.cons (VLe.nil _ _) (LLe.cons (VLe.refl _ _) (LLe.cons (VLe.refl _ _) (LLe.cons (VLe.refl _ _) (LLe.cons (VLe.refl _ _) (LLe.cons (VLe.refl _ _) (LLe.cons (VLe.refl _ _) (LLe.cons (VLe.refl _ _) (LLe.cons (VLe.refl _ _) (LLe.cons (VLe.refl _ _) (LLe.cons (VLe.refl _ _) (LLe.nil _)))))))))))))) ?_;refine gH ?_
 refine fz ?_;refine gH ?_
 refine fz ?_;refine gH ?_
 refine O.new (anew_alloc (l:=[(.slice none 0 0),(.slice none 0 0),(.slice none 0 0),(.slice none 0 0)]) rfl rfl rfl) fun g4 h O=>?_;refine gH ?_
 refine O.stC 4 (.head _) [((encL 4 encNode) ([(⟨0,([]:(List Nat)),0,0⟩:Node),(⟨4,([0]:(List Nat)),0,0⟩:Node),(⟨5,([0,1]:(List Nat)),0,0⟩:Node)]:(List Node))),((encL 1 Value.string) ([(⟨#[97]⟩:ByteArray),(⟨#[98]⟩:ByteArray),(⟨#[99]⟩:ByteArray)]:(List ByteArray))),(.slice none 0 0),((encL 1 i64) ([2]:(List Nat)))] fun h O=>?_;refine gX ?_
 refine ldA (O.at (.tail _ (.head _))) ?_;refine gH ?_
 first|refine⟨.inr (.inr (loadAggK rfl (O.at (.tail _ (.head _))) rfl rfl (lbE rfl) rfl)),?_⟩|refine⟨.inr (.inl (by kernel_rfl)),?_⟩
 refine gX ?_
 refine ca (probecardlaw25_at_walk hm O.has) fun r6 hm=>?_;refine gH ?_
 refine⟨.inl (Ext.refl _),?_⟩;refine gH ?_
 refine O.buildLX (l:=([r6]:(List Asg))) (enc:=encAsg) (s:=2) (z:=(.agg ⟨[(i64 0),(n8 0)]⟩)) rfl rfl (by kernel_rfl) (by kernel_rfl) rfl rfl rfl rfl (fun _=>rfl) fun g7 h O=>?_;refine gH ?_
 obtain⟨hn10,hm⟩:=hm
 refine O.useL (fun _ hb=>learns_Saturate_walk hm hb) (.head _) hn10 (fun _=>rfl) (i:=2) rfl (by kernel_rfl) (fun h2 q=>(LLe.cons (VLe.refl _ _) (LLe.cons (VLe.refl _ _) (LLe.cons (q) (LLe.nil _))))) (fun r9 h hm' O=>?_);replace hm:=hm';refine gH ?_
 refine⟨.inr (by kernel_rfl),?_⟩;refine gH ?_
 refine gX ?_
 refine ldA (O.at (.tail _ (.tail _ (.head _)))) ?_;refine gH ?_
 first|refine⟨.inr (.inr (loadAggK rfl (O.at (.tail _ (.tail _ (.head _)))) rfl rfl (lbE rfl) rfl)),?_⟩|refine⟨.inr (.inl (by kernel_rfl)),?_⟩
 refine gX ?_
 refine ca (probecardlaw25_at_walk hm O.has) fun r11 hm=>?_;refine gH ?_
 refine⟨.inl (Ext.refl _),?_⟩;refine gH ?_
 refine O.buildLX (l:=([r11]:(List Asg))) (enc:=encAsg) (s:=2) (z:=(.agg ⟨[(i64 0),(n8 0)]⟩)) rfl rfl (by kernel_rfl) (by kernel_rfl) rfl rfl rfl rfl (fun _=>rfl) fun g12 h O=>?_;refine gH ?_
 obtain⟨hn15,hm⟩:=hm
 refine O.useL (fun _ hb=>learns_Saturate_walk hm hb) (.head _) hn15 (fun _=>rfl) (i:=2) rfl (by kernel_rfl) (fun h2 q=>(LLe.cons (VLe.refl _ _) (LLe.cons (VLe.refl _ _) (LLe.cons (q) (LLe.nil _))))) (fun r14 h hm' O=>?_);replace hm:=hm';refine gH ?_
 refine⟨.inr (by kernel_rfl),?_⟩;refine gH ?_
 refine gX ?_
 refine ldA (O.at (.tail _ (.tail _ (.tail _ (.head _))))) ?_;refine gH ?_
 refine ca (learns_Static_walk hm O.has) fun r16 hm=>?_;refine gX ?_
 refine ldA (O.at (.tail _ (.tail _ (.head _)))) ?_;refine gH ?_
 refine caW (learns_Static_walk hm O.has) (LLe.cons (VLe.agg (LLe.cons (VLe.refl _ _) (LLe.cons (VLe.refl _ _) (LLe.cons (VLe.nil _ _) (LLe.cons (VLe.refl _ _) (LLe.nil _)))))) (LLe.nil _)) fun r17 hm=>?_;refine gX ?_
 refine ldA (O.at (.tail _ (.tail _ (.head _)))) ?_;refine gH ?_
 refine caW (learns_Saturate_walk hm O.has) (LLe.cons (VLe.agg (LLe.cons (VLe.refl _ _) (LLe.cons (VLe.refl _ _) (LLe.cons (VLe.nil _ _) (LLe.cons (VLe.refl _ _) (LLe.nil _)))))) (LLe.cons (VLe.refl _ _) (LLe.cons (VLe.nil _ _) (LLe.nil _)))) fun r18 hm=>?_;refine gH ?_
 apply Cs;conv=>whnf
 refine jn hm 178 [2,3,10,12] (fun s=>s) (fun v19 h=>Own vars h0 [((some g2),.cells [((encL 4 encNode) r1.nodes),((encL 1 Value.string) r1.names),((encL 3 encMem) r1.mems),((encL 1 i64) r1.outs)] false),((some g4),.cells [((encL 4 encNode) ([(⟨0,([]:(List Nat)),0,0⟩:Node),(⟨4,([0]:(List Nat)),0,0⟩:Node),(⟨5,([0,1]:(List Nat)),0,0⟩:Node)]:(List Node))),((encL 1 Value.string) ([(⟨#[97]⟩:ByteArray),(⟨#[98]⟩:ByteArray),(⟨#[99]⟩:ByteArray)]:(List ByteArray))),(.slice none 0 0),((encL 1 i64) ([2]:(List Nat)))] false)] h) (fun v19=>[(114,(.bool v19))]) (fun hm=>?_) ?_
 ·refine gX ?_
  refine br hm (fun hm=>?_) fun hm=>?_
  ·refine gX ?_
   refine bt ?_;refine gH ?_
   refine bt ?_;refine gH ?_
   refine bt ?_;refine gH ?_
   refine bt ?_;refine gH ?_
   refine bt ?_;refine gH ?_
   refine bt ?_;refine gH ?_
   exact jx true hm (O.sel [3,2] (by decide))
  ·refine gX ?_
   refine br hm (fun hm=>?_) fun hm=>?_
   ·refine gX ?_
    refine bt ?_;refine gH ?_
    refine bt ?_;refine gH ?_
    refine bt ?_;refine gH ?_
    refine bt ?_;refine gH ?_
    refine bt ?_;refine gH ?_
    exact jx true hm (O.sel [3,2] (by decide))
   ·refine gX ?_
    refine br hm (fun hm=>?_) fun hm=>?_
    ·refine gX ?_
     refine bt ?_;refine gH ?_
     refine bt ?_;refine gH ?_
     refine bt ?_;refine gH ?_
     refine bt ?_;refine gH ?_
     exact jx true hm (O.sel [3,2] (by decide))
    ·refine gX ?_
     refine br hm (fun hm=>?_) fun hm=>?_
     ·refine gX ?_
      refine bt ?_;refine gH ?_
      refine bt ?_;refine gH ?_
      refine bt ?_;refine gH ?_
      exact jx true hm (O.sel [3,2] (by decide))
     ·refine gX ?_
      refine br hm (fun hm=>?_) fun hm=>?_
      ·refine gX ?_
       refine bt ?_;refine gH ?_
       refine bt ?_;refine gH ?_
       exact jx true hm (O.sel [3,2] (by decide))
      ·refine gX ?_
       refine fz ?_;refine gH ?_
       refine caW (probecardlaw25_equal_walk hm O.has) (LLe.cons (VLe.ofN) (LLe.cons (VLe.refl _ _) (LLe.cons (VLe.refl _ _) (LLe.cons (VLe.refl _ _) (LLe.nil _))))) fun r21 hm=>?_;refine gH ?_
       refine br hm (fun hm=>?_) fun hm=>?_
       ·refine gX ?_
        refine bt ?_;refine gH ?_
        exact jx true hm (O.sel [3,2] (by decide))
       ·refine gX ?_
        refine fz ?_;refine gH ?_
        refine caW (probecardlaw25_equal_walk hm O.has) (LLe.cons (VLe.ofN) (LLe.cons (VLe.refl _ _) (LLe.cons (VLe.refl _ _) (LLe.cons (VLe.refl _ _) (LLe.nil _))))) fun r22 hm=>?_;refine gH ?_
        refine br hm (fun hm=>?_) fun hm=>?_
        ·refine gX ?_
         exact jx true hm (O.sel [3,2] (by decide))
        ·refine gX ?_
         refine fz ?_;refine gH ?_
         refine caW (probecardlaw25_equal_walk hm O.has) (LLe.cons (VLe.ofN) (LLe.cons (VLe.refl _ _) (LLe.cons (VLe.refl _ _) (LLe.cons (VLe.refl _ _) (LLe.nil _))))) fun r23 hm=>?_;refine gH ?_
         exact jx (!r23) hm (O.sel [3,2] (by decide))
 ·clear hm;rintro v19 base h hm O
  refine gX ?_
  refine br hm (fun hm=>?_) fun hm=>?_
  ·refine gX ?_
   exact fe hm O
  ·apply Cs;conv=>whnf
   apply Cs;conv=>whnf
   refine jn hm 178 [2,3,12] (fun s=>s) (fun v24 h=>Own vars h0 [((some g2),.cells [((encL 4 encNode) r1.nodes),((encL 1 Value.string) r1.names),((encL 3 encMem) r1.mems),((encL 1 i64) r1.outs)] false),((some g4),.cells [((encL 4 encNode) ([(⟨0,([]:(List Nat)),0,0⟩:Node),(⟨4,([0]:(List Nat)),0,0⟩:Node),(⟨5,([0,1]:(List Nat)),0,0⟩:Node)]:(List Node))),((encL 1 Value.string) ([(⟨#[97]⟩:ByteArray),(⟨#[98]⟩:ByteArray),(⟨#[99]⟩:ByteArray)]:(List ByteArray))),(.slice none 0 0),((encL 1 i64) ([2]:(List Nat)))] false)] h) (fun v24=>[(140,(.bool v24))]) (fun hm=>?_) ?_
   ·refine gX ?_
    refine br hm (fun hm=>?_) fun hm=>?_
    ·refine gX ?_
     refine bt ?_;refine gH ?_
     refine bt ?_;refine gH ?_
     exact jx true hm O
    ·refine gX ?_
     refine atF hm fun x26 hx26 hm=>?_;refine gH ?_
     first|refine⟨.inr (.inr (rfl)),?_⟩|refine⟨.inr (.inl (by kernel_rfl)),?_⟩
     refine gX ?_
     refine ca (probecardlaw25_at_walk hm O.has) fun r27 hm=>?_;refine gH ?_
     refine⟨.inl (Ext.refl _),?_⟩;refine gH ?_
     refine ca (probecardlaw25_at_walk hm O.has) fun r28 hm=>?_;refine gH ?_
     refine⟨.inl (Ext.refl _),?_⟩;refine gH ?_
     refine⟨.bool (!(((eqN x26.cond.net r27.net)&&((eqN x26.cond.value r27.value)&&true))&&(((eqN x26.thn.net r28.net)&&((eqN x26.thn.value r28.value)&&true))&&true))),by kernel_rfl,?_⟩;refine gH ?_
     refine br hm (fun hm=>?_) fun hm=>?_
     ·refine gX ?_
      refine bt ?_;refine gH ?_
      exact jx true hm O
     ·refine gX ?_
      refine br hm (fun hm=>?_) fun hm=>?_
      ·refine gX ?_
       exact jx true hm O
      ·refine gX ?_
       refine atF hm fun x29 hx29 hm=>?_;refine gH ?_
       first|refine⟨.inr (.inr (rfl)),?_⟩|refine⟨.inr (.inl (by kernel_rfl)),?_⟩
       refine gX ?_
       refine ca (probecardlaw25_at_walk hm O.has) fun r30 hm=>?_;refine gH ?_
       refine⟨.inl (Ext.refl _),?_⟩;refine gH ?_
       refine ca (probecardlaw25_at_walk hm O.has) fun r31 hm=>?_;refine gH ?_
       refine⟨.inl (Ext.refl _),?_⟩;refine gH ?_
       refine⟨.bool (!(((eqN x29.cond.net r30.net)&&((eqN x29.cond.value r30.value)&&true))&&(((eqN x29.thn.net r31.net)&&((eqN x29.thn.value r31.value)&&true))&&true))),by kernel_rfl,?_⟩;refine gH ?_
       exact jx (!(((eqN x29.cond.net r30.net)&&((eqN x29.cond.value r30.value)&&true))&&(((eqN x29.thn.net r31.net)&&((eqN x29.thn.value r31.value)&&true))&&true))) hm O
   ·clear hm;rintro v24 base h hm O
    refine gX ?_
    refine br hm (fun hm=>?_) fun hm=>?_
    ·refine gX ?_
     exact fe hm O
    ·refine gX ?_
     refine ldA (O.at (.tail _ (.head _))) ?_;refine gH ?_
     first|refine⟨.inr (.inr (loadAggK rfl (O.at (.tail _ (.head _))) rfl rfl (lbE rfl) rfl)),?_⟩|refine⟨.inr (.inl (by kernel_rfl)),?_⟩
     refine gX ?_
     refine ca (probecardlaw25_at_walk hm O.has) fun r32 hm=>?_;refine gH ?_
     refine⟨.inl (Ext.refl _),?_⟩;refine gH ?_
     refine O.buildLX (l:=([r32]:(List Asg))) (enc:=encAsg) (s:=2) (z:=(.agg ⟨[(i64 0),(n8 0)]⟩)) rfl rfl (by kernel_rfl) (by kernel_rfl) rfl rfl rfl rfl (fun _=>rfl) fun g33 h O=>?_;refine gH ?_
     obtain⟨hn36,hm⟩:=hm
     refine O.useL (fun _ hb=>learns_Close_walk hm hb) (.head _) hn36 (fun _=>rfl) (i:=2) rfl (by kernel_rfl) (fun h2 q=>(LLe.cons (VLe.agg (LLe.cons (VLe.refl _ _) (LLe.cons (VLe.refl _ _) (LLe.cons (VLe.nil _ _) (LLe.cons (VLe.refl _ _) (LLe.nil _)))))) (LLe.cons (VLe.refl _ _) (LLe.cons (VLe.toN (by simp) q) (LLe.nil _))))) (fun r35 h hm' O=>?_);replace hm:=hm';refine gH ?_
     refine⟨.inr (by kernel_rfl),?_⟩;refine gH ?_
     refine gX ?_
     refine ldA (O.at (.tail _ (.head _))) ?_;refine gH ?_
     first|refine⟨.inr (.inr (loadAggK rfl (O.at (.tail _ (.head _))) rfl rfl (lbE rfl) rfl)),?_⟩|refine⟨.inr (.inl (by kernel_rfl)),?_⟩
     refine gX ?_
     refine ca (probecardlaw25_at_walk hm O.has) fun r37 hm=>?_;refine gH ?_
     refine⟨.inl (Ext.refl _),?_⟩;refine gH ?_
     refine ca (probecardlaw25_at_walk hm O.has) fun r38 hm=>?_;refine gH ?_
     refine⟨.inl (Ext.refl _),?_⟩;refine gH ?_
     refine O.buildLX (l:=([(⟨r37,r38⟩:Lawv)]:(List Lawv))) (enc:=encLaw) (s:=4) (z:=(.agg ⟨[(i64 0),(n8 0),(i64 0),(n8 0)]⟩)) rfl rfl (by kernel_rfl) (by kernel_rfl) rfl rfl rfl rfl (fun _=>rfl) fun g39 h O=>?_;refine gH ?_
     refine ca (probecardlaw25_at_walk hm O.has) fun r41 hm=>?_;refine gH ?_
     refine⟨.inl (Ext.refl _),?_⟩;refine gH ?_
     refine O.buildLX (l:=([r41]:(List Asg))) (enc:=encAsg) (s:=2) (z:=(.agg ⟨[(i64 0),(n8 0)]⟩)) rfl rfl (by kernel_rfl) (by kernel_rfl) rfl rfl rfl rfl (fun _=>rfl) fun g42 h O=>?_;refine gH ?_
     obtain⟨hn47,hn48,hm⟩:=hm
     refine O.useXL (.tail _ (.head _)) hn47 (fun _=>rfl) (i:=1) rfl (by kernel_rfl) (fun h2 q=>(LLe.cons (VLe.refl _ _) (LLe.cons (q) (LLe.cons (VLe.refl _ _) (LLe.nil _))))) fun h O=>O.useXL (.head _) hn48 (fun _=>rfl) (i:=2) rfl (by kernel_rfl) (fun h2 q=>(LLe.cons (VLe.refl _ _) (LLe.cons (VLe.refl _ _) (LLe.cons (VLe.toN (by simp) q) (LLe.nil _))))) fun h O=>ca (learns_Close_walk hm O.has) fun r44 hm=>?_;refine gH ?_
     refine⟨.inr (by kernel_rfl),?_⟩;refine gH ?_
     refine gX ?_
     refine br hm (fun hm=>?_) fun hm=>?_
     ·refine gX ?_
      refine br hm (fun hm=>?_) fun hm=>?_
      ·refine gX ?_
       refine br hm (fun hm=>?_) fun hm=>?_
       ·refine gX ?_
        refine fz ?_;refine gH ?_
        refine ca (probecardlaw25_equal_walk hm O.has) fun r49 hm=>?_;refine gX ?_
        exact fe hm O
       ·refine gX ?_
        exact fe hm O
      ·refine gX ?_
       refine bf ?_;refine gX ?_
       exact fe hm O
     ·refine gX ?_
      refine bf ?_;refine gH ?_
      refine bf ?_;refine gX ?_
      exact fe hm O
def nm25:List ByteArray:=[⟨#[97]⟩,⟨#[98]⟩,⟨#[99]⟩,⟨#[100]⟩,⟨#[101]⟩,⟨#[102]⟩,⟨#[103]⟩]
theorem isname_run25:(nm25.all fun s=>isTrue (runFn Tryz.prog [] (orcExt Tryz.prog) 60 142 #[.string s] (heapOf vars)))=true:=by kernel_rfl
theorem isNm25 {s:ByteArray} (h:s∈nm25):IsNm s:=by
 obtain⟨h',e⟩:=isTrue_iff (List.all_eq_true.1 isname_run25 s h)
 have c:=(runFn_sound hM hP (fun f vs h v e=>orcExt_sound f vs h v e) 60 _ _ _ _ _ e).1
 exact⟨PureV.flatB rfl,fun h b=>c.lift (by kernel_rfl) rfl (bears_vars (hasSize b) (hasVars b))⟩
def nodeB (n i:Nat) (x:Node):Bool:=decide (x.kind≤11)&&decide (Arity x.kind x.ins.length)&&(x.ins.all fun k=>Nat.blt k n)&&decide (x.mem=0)&&decide (x.bit=0)&&(x.ins.all fun k=>Nat.blt k i)&&decide (x.ins.length≤3)
def circB (c:Circ):Bool:=(List.range c.nodes.length).all fun i=>match c.nodes[i]? with
 |some x=>nodeB c.nodes.length i x
 |none=>true
theorem cc25 {c:Circ} (h:circB c=true) (h0:0<c.nodes.length) (hl:c.nodes.length≤1024) (hn:c.names.length=c.nodes.length) (h1:(c.names.all fun s=>nm25.any fun q=>decide (q=s))=true) (h2:c.names.Nodup) (hm:c.mems=[]) (ho:∀ o∈c.outs,o<c.nodes.length) (hol:c.outs.length≤16):CC c:=by
 have key:∀ i x,c.nodes[i]?=some x→nodeB c.nodes.length i x=true:=fun i x hx=>by
  have:=List.all_eq_true.1 h i (List.mem_range.2 (lt_of_get hx))
  rw[hx] at this;exact this
 unfold nodeB at key
 simp only[Bool.and_eq_true,decide_eq_true_eq,List.all_eq_true,Nat.blt_eq] at key
 have F:FanOk c:=fan_ok ⟨hl,fun i x hx=>⟨(key i x hx).1.1.1.1.2,by have:=(key i x hx).2;omega⟩⟩
 have N:NamesOk c:=by
  refine FnV.of_walk (enc:=i64) (PureV.flat rfl) fun h hB=>?_
  exact names_all_walk (K:=fun r=>r=0) (names_all_vc (fun s m=>isNm25 (by
   obtain⟨q,hq,e⟩:=List.any_eq_true.1 (List.all_eq_true.1 h1 s m)
   rw[← of_decide_eq_true e];exact hq)) h2 (by omega) rfl) hB
 refine⟨⟨⟨hl,hn,N,F,fun m hmm=>(by rw[hm] at hmm;cases hmm),by rw[hm];exact Nat.zero_le _,ho,hol,fun i x hx=>?_,h0⟩,hm,fun i x hx=>?_⟩,fun i x hx=>(key i x hx).2⟩
 ·obtain⟨⟨⟨⟨⟨⟨k1,k2⟩,k3⟩,k4⟩,k5⟩,k6⟩,k7⟩:=key i x hx
  exact⟨by omega,k2,k3,fun e=>by omega,fun _=>⟨k4,k5⟩,fun e=>by omega,fun _ _=>k6⟩
 ·have:=(key i x hx).1.1.1.1.1.1
  omega
def okE (c:Circ) (given:List Asg):Bool:=match closeF c given with
 |some v=>closeC c given v
 |none=>true
theorem okE_ok {c:Circ} (C:CC c) {given:List Asg} (g:GivOk c given) (h:okE c given=true):clo c given=closeF c given:=by
 unfold okE at h
 cases e:closeF c given with
 |none=>exact closeN_ok C.p C.f3 g e
 |some v=>rw[e] at h;exact closeC_ok C.p C.f3 g h
theorem sat0 {c:Circ} (C:CC c) {given:List Asg} (g:GivOk c given):satO c 0 given=clo c given:=by
 rcases clo_cases C.p C.f3 g with⟨v,D,e⟩|⟨N,e⟩
 ·rw[e];exact lstO_ok satP_len (lst_close D)
 ·rw[e];exact lstO_none fun t T E=>N t (cw_split.2 ⟨T,E⟩)
def leB (v t:List Nat):Bool:=blwL v t
theorem leB_ok {n:Nat}{v t:List Nat} (h:leB v t=true) (ht:t.length=n):LeN n v t:=by
 obtain⟨h1,h2⟩:=blwL_iff.1 h
 exact⟨h1.trans ht,h2⟩
def givB (c:Circ) (given:List Asg):Bool:=(given.all fun a=>Nat.blt a.net c.nodes.length&&Nat.ble a.value 1)&&Nat.ble given.length 1000
theorem givB_ok {c:Circ}{given:List Asg} (h:givB c given=true):GivOk c given:=by
 unfold givB at h
 simp only[Bool.and_eq_true,List.all_eq_true,Nat.blt_eq,Nat.ble_eq] at h
 exact⟨h.1,by omega⟩
def meetF (c:Circ) (v:List Nat) (n:Nat):Option (List Nat):=meetO (closeF c (knownA v++[⟨n,0⟩])) (closeF c (knownA v++[⟨n,1⟩]))
def meetB (c:Circ) (v:List Nat) (n:Nat):Bool:=givB c (knownA v++[⟨n,0⟩])&&givB c (knownA v++[⟨n,1⟩])&&okE c (knownA v++[⟨n,0⟩])&&okE c (knownA v++[⟨n,1⟩])
theorem meetB_ok {c:Circ} (C:CC c) {v:List Nat}{n:Nat} (h:meetB c v n=true):meetO (satO c 0 (knownA v++[⟨n,0⟩])) (satO c 0 (knownA v++[⟨n,1⟩]))=meetF c v n:=by
 unfold meetB at h
 simp only[Bool.and_eq_true] at h
 obtain⟨⟨⟨h1,h2⟩,h3⟩,h4⟩:=h
 rw[sat0 C (givB_ok h1),sat0 C (givB_ok h2),okE_ok C (givB_ok h1) h3,okE_ok C (givB_ok h2) h4]
 rfl
def leOB (o:Option (List Nat)) (t:List Nat):Bool:=match o with
 |some v=>leB v t
 |none=>false
theorem leOB_ok {n:Nat}{o:Option (List Nat)}{t:List Nat} (h:leOB o t=true) (ht:t.length=n):leO n o t:=by
 cases o with
 |none=>cases h
 |some v=>exact⟨v,rfl,leB_ok h ht⟩
def clsB (c:Circ) (v:List Nat):Bool:=givB c (knownA v)&&closeC c (knownA v) v
theorem clsB_ok {c:Circ} (C:CC c) {v:List Nat} (h:clsB c v=true):CW c [] v:=by
 unfold clsB at h
 simp only[Bool.and_eq_true] at h
 exact (cw_split.1 (clo_some (closeC_ok C.p C.f3 (givB_ok h.1) h.2)).cw).1
def sat1B (c:Circ) (v:List Nat):Bool:=clsB c v&&(List.range c.nodes.length).all fun n => !Nat.beq (v.getD n 0) 2||(meetB c v n&&leOB (meetF c v n) v)
theorem sat1B_ok {c:Circ} (C:CC c) {v:List Nat} (h:sat1B c v=true):satP c 1 v:=by
 unfold sat1B at h
 simp only[Bool.and_eq_true,List.all_eq_true,Bool.or_eq_true,Bool.not_eq_true',List.mem_range] at h
 have W:=clsB_ok C h.1
 refine⟨W,fun n hn h2=>?_⟩
 rcases h.2 n hn with q|q
 ·rw[h2] at q;cases q
 ·show leO _ (meetO (satO c 0 _) (satO c 0 _)) v
  rw[meetB_ok C q.1]
  exact leOB_ok q.2 W.len
def extB (given:List Asg) (v:List Nat):Bool:=given.all fun a=>Nat.beq (v.getD a.net 0) a.value
theorem extB_ok {given:List Asg}{v:List Nat} (h:extB given v=true):Ext given v:=fun a m=>Nat.eq_of_beq_eq_true (List.all_eq_true.1 h a m)
def oneB (c:Circ) (given:List Asg) (v0:List Nat) (n:Nat) (w:List Nat):Bool:=givB c given&&closeC c given v0&&Nat.blt n c.nodes.length&&meetB c v0 n&&(match meetF c v0 n with|some z=>eqLs z w|none=>false)&&sat1B c w&&extB given w
theorem oneB_ok {c:Circ} (C:CC c) {given:List Asg}{v0 w:List Nat}{n:Nat} (h:oneB c given v0 n w=true):satO c 1 given=some w:=by
 unfold oneB at h
 simp only[Bool.and_eq_true,Nat.blt_eq] at h
 obtain⟨⟨⟨⟨⟨⟨h1,h2⟩,h3⟩,h4⟩,h5⟩,h6⟩,h7⟩:=h
 have W:=sat1B_ok C h6
 have wl:=satP_len w W
 have D:=clo_some (closeC_ok C.p C.f3 (givB_ok h1) h2)
 refine lstO_ok satP_len ⟨W,extB_ok h7,fun t T E=>?_⟩
 rw[wl]
 have lt:LeN c.nodes.length v0 t:=⟨D.len,D.snd t (cw_split.2 ⟨satP_cw T,E⟩)⟩
 have M:=sat_meet C.p.good.len (d:=0) (fun e he=>by
  have:e=0:=by omega
  subst this;exact satD C (by decide)) T lt D.le h3
 rw[meetB_ok C h4] at M
 obtain⟨z,e,hz⟩:=M
 rw[e] at h5
 rw[← eqLs_iff h5]
 exact hz
def keepF (c:Circ) (i:Nat) (a:Asg):Bool:=neN a.net (i/2)&&match closeF c [⟨a.net,1-a.value⟩] with
 |none=>false
 |some w=>neN (w.getD (i/2) 0) (1-i%2)
def rowF (c:Circ) (i:Nat):List Lawv:=match closeF c [⟨i/2,i%2⟩] with
 |none=>[⟨⟨i/2,i%2⟩,⟨i/2,1-i%2⟩⟩]
 |some v=>((knownA v).filter (keepF c i)).map (lawR i)
def outF (c:Circ):List Lawv:=(List.range (2*c.nodes.length)).flatMap (rowF c)
def onesB (c:Circ):Bool:=(List.range (2*c.nodes.length)).all fun i=>okE c [⟨i/2,i%2⟩]
theorem outF_ok {c:Circ} (C:CC c) (h:onesB c=true):outR c=outF c:=by
 have key:∀ m w,m<c.nodes.length→w≤1→clo c [⟨m,w⟩]=closeF c [⟨m,w⟩]:=fun m w hm hw=>by
  have:=List.all_eq_true.1 h (2*m+w) (List.mem_range.2 (by omega))
  rw[show (2*m+w)/2=m by omega,show (2*m+w)%2=w by omega] at this
  exact okE_ok C (one_giv hm hw) this
 unfold outR outF
 rw[List.flatMap_def,List.flatMap_def]
 congr 1
 refine List.map_congr_left fun i hi=>?_
 have hi:=List.mem_range.1 hi
 unfold rowR rowF
 rw[← key (i/2) (i%2) (by omega) (by omega)]
 cases e:clo c [⟨i/2,i%2⟩] with
 |none=>rfl
 |some v =>
  dsimp only
  congr 1
  refine List.filter_congr fun a m=>?_
  obtain⟨a1,a2,a3⟩:=mem_known.1 m
  have D:=clo_some e
  have:=D.le a.net
  have:=D.len
  unfold keepR keepF
  rw[key a.net (1-a.value) (by omega) (by omega)]
  all_goals (cases closeF c [⟨a.net,1-a.value⟩] <;> rfl)
def c25:Circ:=⟨[⟨0,[],0,0⟩,⟨0,[],0,0⟩,⟨5,[0,1],0,0⟩,⟨4,[0],0,0⟩,⟨5,[3,1],0,0⟩,⟨7,[2,4],0,0⟩],[⟨#[97]⟩,⟨#[98]⟩,⟨#[100]⟩,⟨#[101]⟩,⟨#[102]⟩,⟨#[103]⟩],[],[5]⟩
def h25:Circ:=⟨[⟨0,[],0,0⟩,⟨4,[0],0,0⟩,⟨5,[0,1],0,0⟩],[⟨#[97]⟩,⟨#[98]⟩,⟨#[99]⟩],[],[2]⟩
theorem cc_c25:CC c25:=cc25 (by decide +kernel) (by decide) (by decide) rfl (by decide +kernel) (by decide +kernel) rfl (by decide) (by decide)
theorem cc_h25:CC h25:=cc25 (by decide +kernel) (by decide) (by decide) rfl (by decide +kernel) (by decide +kernel) rfl (by decide) (by decide)
theorem e1:satO c25 0 [⟨5,1⟩]=some [2,2,2,2,2,1]:=by
 rw[sat0 cc_c25 (givB_ok (by decide +kernel))]
 exact closeC_ok cc_c25.p cc_c25.f3 (givB_ok (by decide +kernel)) (by decide +kernel)
theorem e2:satO c25 1 [⟨5,1⟩]=some [2,1,2,2,2,1]:=oneB_ok cc_c25 (v0:=[2,2,2,2,2,1]) (n:=1) (by decide +kernel)
theorem e3:outR c25=[⟨⟨5,1⟩,⟨1,1⟩⟩]:=by
 rw[outF_ok cc_c25 (by decide +kernel)];rfl
theorem e4:outR h25=[⟨⟨2,1⟩,⟨2,0⟩⟩]:=by
 rw[outF_ok cc_h25 (by decide +kernel)];rfl
theorem e5:satO h25 1 []=some [2,2,0]:=oneB_ok cc_h25 (v0:=[2,2,2]) (n:=0) (by decide +kernel)
theorem e6:lawO h25 [⟨⟨2,1⟩,⟨2,0⟩⟩] [⟨2,1⟩]=none:=lstO_none fun t T E=>by
 have h1:=E ⟨2,1⟩ (List.mem_singleton.2 rfl)
 have h2:=T.2 _ (List.mem_singleton.2 rfl) h1
 dsimp only at h1 h2
 omega
theorem e7:lawO c25 [⟨⟨0,1⟩,⟨1,1⟩⟩] [⟨0,1⟩]=some [1,1,1,0,0,1]:=by
 refine lstO_ok lawP_len ⟨⟨clsB_ok cc_c25 (by decide +kernel),fun l m _=>by rw[List.mem_singleton.1 m];rfl⟩,fun a m=>by rw[List.mem_singleton.1 m];rfl,fun t T E=>?_⟩
 have h1:=E ⟨0,1⟩ (List.mem_singleton.2 rfl)
 have h2:=T.2 _ (List.mem_singleton.2 rfl) h1
 have D:=clo_some (closeC_ok cc_c25.p cc_c25.f3 (given:=[⟨0,1⟩,⟨1,1⟩]) (v:=[1,1,1,0,0,1]) (givB_ok (by decide +kernel)) (by decide +kernel))
 refine⟨rfl,D.snd t (cw_split.2 ⟨T.1,fun a m=>?_⟩)⟩
 rcases List.mem_cons.1 m with rfl|m
 ·exact h1
 ·rw[List.mem_singleton.1 m];exact h2
theorem lives25_vc {K:Bool→Prop} (k:K true):probecardlaw25_lives_wp K:=by
 unfold probecardlaw25_lives_wp probecardlaw25_example_wp probecardlaw25_at_wp
 refine⟨rfl,lSaturate_vc cc_c25 (by decide) (givB_ok (by decide +kernel)) ?_⟩
 rw[e1]
 refine⟨rfl,lSaturate_vc cc_c25 (by decide) (givB_ok (by decide +kernel)) ?_⟩
 rw[e2]
 refine static_vc cc_c25 (by decide) fun l1 hp1 _=>?_
 obtain rfl:l1=[⟨⟨5,1⟩,⟨1,1⟩⟩]:=by rw[e3] at hp1;exact List.perm_singleton.1 hp1
 refine static_vc cc_h25 (by decide) fun l2 hp2 _=>?_
 obtain rfl:l2=[⟨⟨2,1⟩,⟨2,0⟩⟩]:=by rw[e4] at hp2;exact List.perm_singleton.1 hp2
 refine lSaturate_vc cc_h25 (by decide) (givB_ok (by decide +kernel)) ?_
 rw[e5]
 refine joinB (a:=false) (fun F=>⟨fun e=>absurd rfl (ne_t.1 e),fun _=>⟨fun e=>absurd rfl (ne_t.1 e),fun _=>⟨fun e=>absurd rfl (ne_t.1 e),fun _=>⟨fun e=>absurd rfl (ne_t.1 e),fun _=>⟨fun e=>absurd rfl (ne_t.1 e),fun _ =>
  equal_vc (a:=[2,2,2,2,2,1]) (x:=true) (by decide) ⟨(fun e=>by cases e),fun _=>equal_vc (a:=[2,1,2,2,2,1]) (x:=true) (by decide) ⟨(fun e=>by cases e),fun _=>equal_vc (a:=[2,2,0]) (x:=true) (by decide) F⟩⟩⟩⟩⟩⟩⟩) ⟨(fun e=>by cases e),fun _=>?_⟩
 refine joinB (a:=false) (fun F=>⟨fun e=>absurd rfl (ne_t.1 e),fun _=>⟨_,rfl,(fun e=>by cases e),fun _=>⟨fun e=>absurd rfl (ne_t.1 e),fun _=>⟨_,rfl,F⟩⟩⟩⟩) ⟨(fun e=>by cases e),fun _=>?_⟩
 refine⟨rfl,lClose_vc cc_h25 ⟨fun l m=>?_,by decide⟩ (givB_ok (by decide +kernel)) (by decide) ?_⟩
 ·rw[List.mem_singleton.1 m];decide
 rw[e6]
 refine⟨rfl,rfl,lClose_vc cc_c25 ⟨fun l m=>?_,by decide⟩ (givB_ok (by decide +kernel)) (by decide) ?_⟩
 ·rw[List.mem_singleton.1 m];decide
 rw[e7]
 exact⟨fun _=>⟨fun _=>⟨fun _=>equal_vc (a:=[1,1,1,0,0,1]) (x:=true) (by decide) k,fun e=>absurd rfl (eq_f.1 e)⟩,(fun e=>by cases e)⟩,fun e=>absurd rfl (eq_f.1 e)⟩
structure U4 where
 a:Nat
 b:Nat
 c:Nat
 d:Nat
structure Z2 where
 a:Int
 b:Int
theorem law25_livesF:FnV Tryz.prog NG vars 23 ⟨[]⟩ (.bool true):=FnV.of_walk (enc:=Value.bool) (r:=true) (PureV.flat rfl) fun _h hB=>probecardlaw25_lives_walk (K:=fun r=>r=true) (lives25_vc rfl) hB
def law25_lives_wp (K:Bool→Prop):Prop:=K true
theorem law25_lives_walk {K:Bool→Prop} (hm:law25_lives_wp K) {h0:Heap} (hB:HasB vars h0):∃ r,K r∧CallD Tryz.prog NG 23 ⟨[]⟩ h0 (Value.bool r) h0:=law25_livesF.walk (enc:=Value.bool) hm hB
end Go.Proofs.YteanlacbmiiloaaGreatDoor
