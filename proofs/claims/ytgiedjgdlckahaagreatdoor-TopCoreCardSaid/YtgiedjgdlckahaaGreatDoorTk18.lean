/-
  AbsQ: parts of the proof.
-/
import Derived.Test.YtgiedjgdlckahaaGreatDoorTk17
namespace Go.Abs
theorem C5 {P:Program}{h h':Heap}{t:TypeId}{g off:Nat}{v:Value} (hx:Ext h h') (e:kT P h t g off=some v):kT P h' t g off=some v:=by
 unfold kT at e ⊢;split at e
 ·rename_i cs ro hg;rw[hx.2 _ (Heap.ag hg),hg];exact e
 ·cases e
theorem DE {h h':Heap}{x v:Value} (hx:Ext h h') (e:jO h x=some v):jO h' x=some v:=by
 unfold jO at e ⊢;split at e
 ·exact e
 ·exact e
 ·split at e
  ·rename_i cs ro hg;rw[hx.2 _ (Heap.ag hg),hg];exact e
  ·cases e
 ·cases e
theorem vu {h h':Heap}{x:Value}{es:List (Value×Value)} (hx:Ext h h') (e:entriesOf h x=some es):entriesOf h' x=some es:=by
 unfold entriesOf at e ⊢;split at e
 ·exact e
 ·split at e
  ·rename_i hg;rw[hx.2 _ (Heap.ag hg),hg];exact e
  ·cases e
 ·cases e
theorem wW {P:Program}{kt:TypeId}{kd:TypeDesc}{k:Value}:∀ (es:List (Value×Value)) (i j:Nat) (v:Value),nm P kt kd k es i=some (some (j,v))->∃ (n:Nat) (k':Value),es[n]?=some (k',v)
 |[],_,_,_,h=>by simp[nm] at h
 |(k',u)::es,i,j,v,h=>by
  simp only[nm] at h;split at h
  ·simp only[Option.some.injEq,Prod.mk.injEq] at h;obtain⟨_,rfl⟩:=h;exact⟨0,k',rfl⟩
  ·obtain⟨n,k2,q⟩:=wW es (i+1) j v h;exact⟨n+1,k2,by simpa using q⟩
  ·cases h
theorem vO {P:Program}{ρ:Operand->Value}{o:Oper}{h h':Heap}{v:Value} (hx:Ext h h') (e:aT P ρ o h=some v):aT P ρ o h'=some v:=by
 obtain⟨dst,op,type,pos,after,guard⟩:=o
 cases op <;> try (simp[aT] at e;done)
 ·rename_i t a;simp only[aT] at e ⊢;split at e
  ·exact C5 hx e
  ·exact e
  ·cases e
 ·rename_i s t x;simp only[aT] at e ⊢;split at e
  ·split at e
   ·exact DE hx e
   ·cases e
  ·exact e
 ·rename_i t x i commaOk;simp only[aT] at e ⊢;split at e
  ·split at e
   ·rename_i he;rw[vu hx he];simp_all
   ·cases e
  ·cases e
theorem Av {h:Heap}{x v:Value} (e:jO h x=some v):plain v=true:=by
 unfold jO at e;split at e
 ·split at e
  ·cases e;rfl
  ·cases e
 ·cases e;rfl
 ·split at e
  ·split at e
   ·split at e
    ·cases e;rfl
    ·cases e
   ·cases e
  ·cases e
 ·cases e
theorem xA {N:Nat}{P:Program}{κ:Inj}{ρ ρ':Operand->Value}{o:Oper}{h:Heap}{w:World}{v:Value}{ι:Inj} (H:HRel N κ h w) (e:aT P ρ o h=some v) (hρ:∀ x∈o.op.operands,VRel ι (ρ x) (ρ' x))
  (hk:∀ g l,ι g=some l->g<h.size->∃ l',κ g=some l') (hnf:cA ρ o=false):∃ u,VRel κ v u:=by
 obtain⟨dst,op,type,pos,after,guard⟩:=o
 cases op <;> try (simp[aT] at e;done)
 ·rename_i t a;have ha:=hρ a (by simp[Op.operands]);simp only[aT] at e;simp only[cA] at hnf;generalize ρ a=y0 at ha e hnf;generalize ρ' a=y at ha
  cases ha <;> try (first | (simp at e;done) | (simp at hnf;done))
  rename_i g off l hl;simp only at e
  have hg:g<h.size:=by
   unfold kT at e;split at e
   ·rename_i hg;exact Heap.ag hg
   ·cases e
  obtain⟨l',hl'⟩:=hk g l hl hg;obtain⟨u,_,q⟩:=nB (P:=P) H hl' e;exact⟨u,q⟩
 ·rename_i s t x;simp only[aT] at e;split at e
  ·split at e
   ·exact⟨v,VRel.aN (Av e)⟩
   ·cases e
  ·exact⟨v,VRel.aN (uT e)⟩
 ·rename_i t x i commaOk;have hx:=hρ x (by simp[Op.operands]);simp only[aT] at e;split at e
  ·split at e
   ·rename_i kd z es _ hz he;split at e
    ·rename_i hc;split at e
     ·rename_i n v0 hf
      have hv:∃ u,VRel κ v0 u:=by
       obtain⟨n,k',hn⟩:=wW _ _ _ _ hf;generalize ρ x=y0 at hx he;generalize ρ' x=y1 at hx
       cases hx <;> try (simp[entriesOf] at he;done)
       ·simp only[entriesOf,Option.some.injEq] at he;subst he;simp at hn
       ·rename_i g l hl;simp only[entriesOf] at he;split at he
        ·rename_i es' hg;simp only[Option.some.injEq] at he;subst he;obtain⟨l',hl'⟩:=hk g l hl (Heap.ag hg);obtain⟨E,c,k1,k2,k3,k4,_⟩:=H.obj g l' _ hl' hg;obtain⟨m,q1,q2,q3⟩:=k4 n k' v0 hn;exact⟨_,q3⟩
        ·cases he
      obtain⟨u,hu⟩:=hv;simp only[Option.some.injEq] at e;subst e
      cases commaOk
      ·exact⟨u,hu⟩
      ·have:=aS.cons hu (aS.cons (VRel.bool true) (aS.nil κ));exact⟨_,.tuple _ _ this.array.1 this.array.2⟩
     ·simp only[Option.some.injEq] at e;subst e
      cases commaOk
      ·exact⟨_,VRel.aN hc.2⟩
      ·exact⟨_,VRel.uP hc.2⟩
     ·cases e
    ·cases e
   ·cases e
  ·cases e
section
variable {P:Program} {N:Nat} {ops:Array Oper} {F:Bool} {E:Nat->Env} {H:Nat->Heap} {V:Nat->Value}
variable {ι0:Inj} {w0:World}
def um (P:Program) (ops:Array Oper) (Q:Exit->Act->World->Prop) (i:Nat) (K:Act->World->Prop) (a:Act) (w:World):Prop :=
 match ops[i]? with
 |none=>K a w
 |some o=>if Region.wanted o (yielded ops a.tmps) then o.wp P a w K Q else K (a.put o.dst undef) w
def IJ (P:Program) (ops:Array Oper) (Q:Exit->Act->World->Prop):Nat->Array Bool->Act->World->Prop
 |0,listed,a,w=>Region.ready .any ops listed=[]/\Q .normal a w
 |fuel+1,listed,a,w=>(Region.ready .any ops listed=[]->Q .normal a w)/\∀ i∈Region.ready .any ops listed,um P ops Q i (IJ P ops Q fuel (listed.setIfInBounds i true)) a w
theorem CO {Q:Exit->Act->World->Prop}{i:Nat}{K K':Act->World->Prop} (hK:∀ a w,K a w->K' a w) {a:Act}{w:World} (h:um P ops Q i K a w):wpOp P ops Q i K' a w:=by
 refine wpOp_mono hK ?_;unfold um at h;unfold wpOp
 cases e:ops[i]? with
 |none=>rw[e] at h;exact h
 |some o =>
  rw[e] at h;simp only at h ⊢;split
  ·rename_i hw;rw[if_pos hw] at h;exact .inl h
  ·rename_i hw;rw[if_neg hw] at h;exact h
theorem B1 {Q:Exit->Act->World->Prop}:∀ {fuel:Nat}{L:Array Bool}{a:Act}{w:World},IJ P ops Q fuel L a w->wpAny P .any ops Q fuel L a w
 |0,_,_,_,h=>h
 |_+1,_,_,_,h=>⟨h.1,fun i hi=>CO (fun _ _=>B1) (h.2 i hi)⟩
theorem CK (T:Txt P N ops (H 0) F E H V) (hd:eE ops=true) (hok:jN N (E 0).n ops=true) (H0:HRel N ι0 (H 0) w0) {L:Array Bool}{a:Act}{w:World}{ι:Inj}{m:Nat} (I:Inv N ops E H V ι0 w0 L a w ι m)
  {i:Nat} (hr:i∈Region.ready .any ops L) {Q:Exit->Act->World->Prop} {K:Act->World->Prop} (hK:∀ a' w' ι' m',Inv N ops E H V ι0 w0 (L.setIfInBounds i true) a' w' ι' m'->K a' w'):um P ops Q i K a w:=by
 obtain⟨_,o,ho,_⟩:=mem_ready.1 hr;have hi:i<ops.size:=(Array.getElem?_eq_some_iff.1 ho).1;have hoko:kK N (E 0).n o=true:=(List.all_eq_true.1 hok) o (Array.mem_toList_iff.2 (Array.mem_of_getElem? ho));have hρ:=I.operands T hd hok H0 ho hr;obtain⟨hnl,hil⟩:=dY hr
 have order:isChain o=true->m<=i/\∀ c o',m<=c->c<i->ops[c]?=some o'->isChain o'=true->False:=by
  intro hc;refine⟨?_,fun c o' h1 h2 h3 h4=>?_⟩
  ·rcases Nat.lt_or_ge i m with c|c
   · exact absurd ((I.chain i o ho hc).2 c) hnl
   · exact c
  ·rcases lU hd h2 h3 ho with hb|⟨_,_,q⟩
   · have:=(I.chain c o' h3 h4).1 (jB I.closed hb hr);omega
   · exact q ⟨h4,hc⟩
 have loose:cG o=true->cA (E i).eval o=false->Region.wanted o (ayielded ops (E i))=true->∀ c o',ops[c]?=some o'->isChain o'=true->Region.wanted o' (ayielded ops (E c))=true->m<=c->c<i->Ext (H c) (H (c+1)):=by
  intro hread hfr hwi c o' h1 h2 h3 k1 k2
  rcases (T.yes c o' h1 h3).2.1 h2 with hF|hs|hx|⟨J,hb,_⟩
  ·exfalso;have:=((T.yes i o ho hwi).2.2 hread).1 hF;rw[hfr] at this;cases this
  ·exfalso
   rcases se hs ho hread with⟨q1,q2⟩|⟨q1,q2⟩
   · omega
   · have:=(I.chain c o' h1 h2).1 (jB I.closed q2 hr);omega
  ·exact hx
  ·exfalso
   rcases ug hb ho hread with⟨q1,_⟩|⟨q1,q2⟩|⟨q1,_⟩
   · omega
   · have:=(I.chain c o' h1 h2).1 (jB I.closed q2 hr);omega
   · omega
 have after:cG o=true->cA (E i).eval o=false->Region.wanted o (ayielded ops (E i))=true->∀ v,∀ c o',ops[c]?=some o'->isChain o'=true->Region.wanted o' (ayielded ops (E c))=true->i<c->c<m->aT P (E i).eval o (H c)=some v->aT P (E i).eval o (H (c+1))=some v:=by
  intro hread hfr hwi v c o' h1 h2 h3 k1 k2 hv
  rcases (T.yes c o' h1 h3).2.1 h2 with hF|hs|hx|⟨J,hb,hJ⟩
  ·exfalso;have:=((T.yes i o ho hwi).2.2 hread).1 hF;rw[hfr] at this;cases this
  ·exfalso
   rcases se hs ho hread with⟨q1,q2⟩|⟨q1,q2⟩
   · exact hnl (I.before q2 ((I.chain c o' h1 h2).2 k2))
   · omega
  ·exact vO hx hv
  ·rcases ug hb ho hread with⟨q1,q2⟩|⟨q1,q2⟩|⟨q1,q2,t,a,q3,q4⟩
   · exact absurd (I.before q2 ((I.chain c o' h1 h2).2 k2)) hnl
   · omega
   · have hcs:c<ops.size:=(Array.getElem?_eq_some_iff.1 h1).1;have hst:=T.still (Nat.le_of_lt hcs) (Nat.le_of_lt q1) q4;have hJ2:=hJ i q2 o t a ho q3;unfold aT at hv ⊢;rw[q3] at hv ⊢;dsimp only at hv ⊢;have he:(E i).eval (.tmp a)=(E i).get a:=rfl;rw[he] at hv ⊢;rw[hst] at hJ2;split at hv
     ·rename_i g off hg;have:=hJ2 g off hg;unfold kT at hv ⊢;rw[this];exact hv
     ·exact hv
     ·cases hv
 unfold um;simp only[ho];rw[I.wanted T hd hok ho hr]
 cases hw:Region.wanted o (ayielded ops (E i)) with
 |false =>
  rw[if_neg (by simp)];obtain⟨hv,hh⟩:=T.no i o ho hw
  have hvr:∀ κ,VRel κ (V i) undef:=fun κ=>by rw[hv];exact VRel.nothing κ
  cases hc:isChain o with
  |false=>exact hK _ _ ι m (I.quiet hd ho hr hc (fun f=>by rw[f.2.2] at hw;cases hw) (hvr _))
  |true =>
   obtain⟨hmi,hno⟩:=order hc;have hview:=I.view T (Nat.le_of_lt hi) hmi (fun c o' c1 c2 c3 c4 _=>(hno c o' c1 c2 c3 c4).elim);exact hK _ _ _ (i+1) (I.oM T hd ho hr H0.dom hc hmi hno (ι1:=cut ι (H i).size) (by rw[hh];exact hview) (by rw[hh];exact Step.refl w hview.dom) (hvr _))
 |true =>
  rw[if_pos rfl];obtain⟨hop,hch,hrd⟩:=T.yes i o ho hw
  cases hcl:cls o.op with
  |pure =>
   unfold OpD at hop;simp only[hcl] at hop;obtain⟨v',q1,q2⟩:=sk hρ hop.1;unfold Oper.wp;rw[q1 w];refine hK _ _ ι m (I.quiet hd ho hr (by simp[isChain,hcl]) (fun f=>?_) (by rw[hop.2];exact q2));have:=f.2.1;simp[wM,hcl] at this
  |read =>
   have hread:cG o=true:=by simp[cG,hcl]
   have hop':=hop;unfold OpD at hop';simp only[hcl] at hop';obtain⟨hop1,hop2⟩:=hop'
   have fin:∀ v',(execOp a.eval o).run P w=.ok (.value v') w->VRel (cut ι (H (i+1)).size) (V i) v'->o.wp P a w K Q:=by
     intro v' q1 q2;unfold Oper.wp;rw[q1];refine hK _ _ ι m (I.quiet hd ho hr (by simp[isChain,hcl]) (fun f=>?_) q2);have:=f.2.1;simp[wM,hcl] at this
   cases hfr:cA (E i).eval o with
   | true =>
     obtain⟨v',q1,q2⟩:=qG (ι:=cut ι (H i).size) (h:=H i) (fun b C e=>I.rel.frz b C e) hρ hfr hop1;exact fin v' q1 (by rw[hop2];exact q2)
   | false =>
   rcases Nat.lt_or_ge i m with c|c
   ·
     have hrm:aT P (E i).eval o (H m)=some (V i):=T.keep I.m_le (Nat.le_of_lt c) (Q:=fun h=>aT P (E i).eval o h=some (V i)) (fun _ _ hx q=>vO hx q) (fun c' o' c1 c2 c3 c4 c5=>by
      by_cases e:c'=i
      ·subst e;rw[ho] at c3;cases c3;simp[isChain,hcl] at c4
      ·exact after hread hfr hw _ c' o' c3 c4 c5 (by omega) c2) hop1
     obtain⟨v',q1,q2⟩:=nv I.rel (fun x hx'=>(hρ x hx').mono (df (T.size_le (Nat.le_of_lt c) I.m_le) (Inj.Le.refl ι))) hrm
     refine fin v' q1 ?_
     rcases (hrd hread).2 with hF|hp|hp|hp
     ·exfalso
      have:=(hrd hread).1 hF
      rw[hfr] at this;cases this
     ·exfalso
      have:∃ c' o',i<c'/\c'<m/\ops[c']?=some o'/\isChain o'=true:=by
       rcases I.mtop with q|⟨k,o',q,k1,k2⟩
       ·omega
       ·refine⟨k,o',?_,by omega,k1,k2⟩
        have:k≠i:=by rintro rfl;rw[ho] at k1;cases k1;simp[isChain,hcl] at k2
        omega
      obtain⟨c',o',c1,c2,c3,c4⟩:=this
      exact hnl (I.before (yV hp c3 c4 c1) ((I.chain c' o' c3 c4).2 c2))
     ·rw[q2.bS hp];exact VRel.aN hp
     ·obtain⟨u,hu⟩:=xA H0 hp hρ (fun g l e hg=>by
       cases e0:ι0 g with
       |some l0=>exact⟨l0,rfl⟩
       |none=>have:=I.fresh g l (fJ _ _ e) e0;omega) hfr
      refine VRel.Hw (ι:=cut ι (H m).size) (ι':=cut ι (H (i+1)).size) (fun g hg l e=>?_) (fun _ _ e=>e) hu q2
      cases e0:ι0 g with
      |none=>exact absurd e0 hg
      |some l0 =>
       have:=H0.dom g l0 e0;have h1:=T.size_le (Nat.zero_le i) (Nat.le_of_lt hi);exact aG.2 ⟨by rw[hop2];omega,fJ _ _ e⟩
   · have hview:=I.view T (Nat.le_of_lt hi) c (fun c' o' c1 c2 c3 c4 c5=>loose hread hfr hw c' o' c3 c4 c5 c1 c2);obtain⟨v',q1,q2⟩:=nv hview hρ hop1;exact fin v' q1 (by rw[hop2];exact q2)
  |new =>
   have hf:Fl ops E i o:=⟨ho,by simp[wM,hcl],hw⟩;obtain⟨ob,f,h1,h2,h3⟩:=T.new hf;obtain⟨o',tot,v',q1,q2⟩:=vj hρ h1 w;unfold Oper.wp;rw[q1];exact hK _ _ _ m (I.fl T hd hr hf h3 (fun ι1 g e1 e2=>⟨(q2 ι1 g e1 e2).1,fun e=>by rw[h2,<- e];exact (q2 ι1 g e1 e2).2⟩))
  |eff =>
   have hc:isChain o=true:=by simp[isChain,hcl]
   obtain⟨hmi,hno⟩:=order hc;have hview:=I.view T (Nat.le_of_lt hi) hmi (fun c o' c1 c2 c3 c4 _=>(hno c o' c1 c2 c3 c4).elim);exact tw hview hρ hop (fun ι' v' w' q1 q2 q3=>hK _ _ _ (i+1) (I.oM T hd ho hr H0.dom hc hmi hno q2 q3 q1))
  |call =>
   have hc:isChain o=true:=by simp[isChain,hcl]
   obtain⟨hmi,hno⟩:=order hc;have hview:=I.view T (Nat.le_of_lt hi) hmi (fun c o' c1 c2 c3 c4 _=>(hno c o' c1 c2 c3 c4).elim);exact tw hview hρ hop (fun ι' v' w' q1 q2 q3=>hK _ _ _ (i+1) (I.oM T hd ho hr H0.dom hc hmi hno q2 q3 q1))
theorem zW (T:Txt P N ops (H 0) F E H V) (H0:HRel N ι0 (H 0) w0) {L:Array Bool}{a:Act}{w:World}{ι:Inj}{m:Nat} (I:Inv N ops E H V ι0 w0 L a w ι m) (hall:∀ j,j<ops.size->Listed L j) :
  ∃ ι',ERel ι' (E ops.size) a/\HRel N ι' (H ops.size) w/\Step ι0 (H 0) w0 ι' (H ops.size) w:=by
 have hno:∀ c o',m<=c->c<ops.size->ops[c]?=some o'->isChain o'=true->False:=by
  intro c o' h1 h2 h3 h4;have:=(I.chain c o' h3 h4).1 (hall c h2);omega
 have hx:Ext (H m) (H ops.size):=T.ext (Nat.le_refl _) I.m_le (fun c o' c1 c2 c3 c4 _=>(hno c o' c1 c2 c3 c4).elim);have hview:=I.view T (Nat.le_refl _) I.m_le (fun c o' c1 c2 c3 c4 _=>(hno c o' c1 c2 c3 c4).elim);have hsz0:=T.size_le (Nat.zero_le ops.size) (Nat.le_refl _);have back:∀ g,g<(H 0).size->(H ops.size).get g=(H m).get g:=fun g hg=>hx.2 g (Nat.lt_of_lt_of_le hg (T.size_le (Nat.zero_le m) I.m_le));refine⟨cut ι (H ops.size).size,⟨I.defers,by rw[I.tsize,T.D1 (Nat.le_refl _)],fun t ht=>?_⟩,hview,?_⟩
 ·rw[T.D1 (Nat.le_refl _)] at ht;obtain⟨v,s,h1,h2⟩:=I.temps t ht;obtain⟨s0,k1,k2⟩:=T.val t (i:=ops.size) (Nat.le_refl _)
  have k3:TVal ops E H V (Listed L) t ((E ops.size).get t) s0:=k2.congr fun j hj=>by
   obtain⟨o',ho',_⟩:=hj;have hj':=(Array.getElem?_eq_some_iff.1 ho').1;exact⟨fun _=>hall j hj',fun _=>hj'⟩
  obtain⟨rfl,rfl⟩:=h1.unique k3;exact h2.mono (df k1 (Inj.Le.refl ι))
 ·refine⟨H0.dom,hsz0,⟨fun g l e=>aG.2 ⟨Nat.lt_of_lt_of_le (H0.dom g l e) hsz0,I.ext.at_ g l e⟩,I.ext.fz⟩,fun g l e e0=>I.fresh g l (fJ _ _ e) e0,fun g l e e0=>I.own g l (fJ _ _ e) e0,
   fun g hg hm=>?_,fun g hg hl=>?_,I.wsize,I.frame,fun g hg e=>?_,I.out,I.fzown⟩
  ·obtain⟨ob,q1,q2⟩:=hm;rw[back g hg] at q1;exact I.keep g hg ⟨ob,q1,q2⟩
  ·obtain⟨ob,q1,q2⟩:=hl;rw[back g hg] at q1;exact I.keepl g hg ⟨ob,q1,q2⟩
  ·rw[back g hg];exact I.others g hg e
def qJ (L:Array Bool):Nat:=L.toList.countP (fun b => !b)
theorem uU {L:Array Bool}{i:Nat} (hi:i<L.size) (hn:¬ Listed L i):qJ (L.setIfInBounds i true)+1=qJ L:=by
 have hf:L[i]=false:=by
  unfold Listed at hn;rw[Array.getD_eq_getD_getElem?,Array.getElem?_eq_getElem hi] at hn;simpa using hn
 unfold qJ;rw[Array.toList_setIfInBounds]
 have hlen:i<L.toList.length:=by simpa using hi
 have hf':L.toList[i]=false:=by simpa using hf
 rw[List.countP_set hlen];have hpos:0<L.toList.countP (fun b => !b):=List.countP_pos_iff.2 ⟨false,by rw[<- hf'];exact List.getElem_mem hlen,rfl⟩;simp only[hf',Bool.not_false,if_true,Bool.not_true,Bool.false_eq_true,if_false];omega
theorem Dk {L:Array Bool} (he:sY ops=true) (hL:L.size=ops.size) (hr:Region.ready .any ops L=[]):∀ j,j<ops.size->Listed L j:=by
 intro j
 induction j using Nat.strongRecOn with
 |_ j ih =>
  intro hj
  cases hl:L.getD j false with
  |true=>exact hl
  |false =>
   exfalso;obtain⟨o,ho⟩:∃ o,ops[j]?=some o:=⟨_,Array.getElem?_eq_getElem hj⟩
   have:j∈Region.ready .any ops L:=by
    refine mem_ready.2 ⟨?_,o,ho,fun ed hm hb=>?_⟩
    ·rw[Array.getD_eq_getD_getElem?] at hl ⊢;have:L[j]?=some L[j]:=Array.getElem?_eq_getElem (by omega);rw[this] at hl ⊢;exact hl
    ·have hlt:ed.on<j:=(Before.edge ho hm hb).lt he;exact ih ed.on hlt (by omega)
   rw[hr] at this
   cases this
theorem CF (T:Txt P N ops (H 0) F E H V) (hd:eE ops=true) (hok:jN N (E 0).n ops=true) (H0:HRel N ι0 (H 0) w0) {Q:Exit->Act->World->Prop}
  (hQ:∀ a w ι',ERel ι' (E ops.size) a->HRel N ι' (H ops.size) w->Step ι0 (H 0) w0 ι' (H ops.size) w->Q .normal a w) :
  ∀ (fuel:Nat) (L:Array Bool) (a:Act) (w:World) (ι:Inj) (m:Nat),qJ L<=fuel->Inv N ops E H V ι0 w0 L a w ι m->IJ P ops Q fuel L a w:=by
 have he:sY ops=true:=by
  simp only[eE,Bool.and_eq_true] at hd;exact hd.1
 intro fuel
 induction fuel with
 |zero =>
  intro L a w ι m hf I
  have hall:∀ j,j<ops.size->Listed L j:=by
   intro j hj
   cases hl:L.getD j false with
   |true=>exact hl
   |false =>
    have:=uU (L:=L) (i:=j) (by rw[I.lsize];exact hj) (by unfold Listed;rw[hl];simp);omega
  refine⟨?_,?_⟩
  ·cases hr:Region.ready .any ops L with
   |nil=>rfl
   |cons i r =>
    have hmem:i∈Region.ready .any ops L:=by rw[hr];simp
    obtain⟨hnl,hil⟩:=dY hmem;exact absurd (hall i (by rw[<- I.lsize];exact hil)) hnl
  ·obtain⟨ι',q1,q2,q3⟩:=zW T H0 I hall;exact hQ a w ι' q1 q2 q3
 |succ fuel ih =>
  intro L a w ι m hf I;refine⟨fun hr=>?_,fun i hr=>?_⟩
  ·obtain⟨ι',q1,q2,q3⟩:=zW T H0 I (Dk he I.lsize hr);exact hQ a w ι' q1 q2 q3
  ·obtain⟨hnl,hil⟩:=dY hr;refine CK T hd hok H0 I hr fun a' w' ι' m' I'=>ih _ a' w' ι' m' ?_ I';have:=uU hil hnl;omega
theorem Ev (T:Txt P N ops (H 0) F E H V) (hd:eE ops=true) (hok:jN N (E 0).n ops=true) (H0:HRel N ι0 (H 0) w0) {Q:Exit->Act->World->Prop}
  (hQ:∀ a w ι',ERel ι' (E ops.size) a->HRel N ι' (H ops.size) w->Step ι0 (H 0) w0 ι' (H ops.size) w->Q .normal a w) :
  ∀ (fuel:Nat) (L:Array Bool) (a:Act) (w:World) (ι:Inj) (m:Nat),qJ L<=fuel->Inv N ops E H V ι0 w0 L a w ι m->wpAny P .any ops Q fuel L a w :=
 fun fuel L a w ι m h1 h2=>B1 (CF T hd hok H0 hQ fuel L a w ι m h1 h2)
theorem Dm (H0:HRel N ι0 (H 0) w0) {a:Act} (r:ERel ι0 (E 0) a):Inv N ops E H V ι0 w0 (Array.replicate ops.size false) a w0 ι0 0:=by
 have hn:∀ j,¬ Listed (Array.replicate ops.size false) j:=by
  intro j;unfold Listed;rw[Array.getD_eq_getD_getElem?,Array.getElem?_replicate]
  split <;> simp
 have hcut:cut ι0 (H 0).size=ι0:=by
  have:(fun g=>if g<(H 0).size then ι0 g else none)=ι0.at_:=by
   funext g;by_cases c:g<(H 0).size
   ·rw[if_pos c]
   ·rw[if_neg c]
    cases e:ι0 g with
    |none=>rfl
    |some l=>exact absurd (H0.dom g l e) c
  unfold cut;rw[this]
 refine {
  lsize:=(by simp),closed:=fun j o hj=>absurd hj (hn j),m_le:=Nat.zero_le _,mtop:=.inl rfl,chain:=fun j o _ _=>⟨fun h=>absurd h (hn j),fun h=>absurd h (Nat.not_lt_zero j)⟩,defers:=r.defers,tsize:=r.size,
  temps:=fun t ht=>⟨_,_,.inr ⟨fun j hj=>absurd hj (hn j),rfl,rfl⟩,(by rw[hcut];exact r.get t ht)⟩,
  dom:=fun g l e=>.inl (H0.dom g l e),rel:=(by rw[hcut];exact H0),early:=fun j o ob hj=>absurd hj (hn j),late:=fun j o ob _ hj=>absurd hj (Nat.not_lt_zero j),
  ext:=Inj.Le.refl ι0,fresh:=fun g l e e0=>(by rw[e0] at e;cases e),own:=fun g l e e0=>(by rw[e0] at e;cases e),wsize:=Nat.le_refl _,frame:=fun _ _ _=>rfl,out:=⟨rfl,rfl,rfl,Nat.le_refl _⟩,
  keep:=fun _ _ h=>h,keepl:=fun _ _ h=>h,others:=fun _ _ _=>rfl,fzown:=fun b C e e0=>(by rw[e0] at e;cases e) }
theorem RegF.n {h0:Heap}{F:Bool}:∀ {l:List Oper}{k:Nat}{e e':Env}{h h':Heap},RegF P N ops h0 F l k e h e' h'->h.size<=h'.size/\e'.n=e.n
 |[],_,_,_,_,_,hr=>by obtain⟨rfl,rfl⟩:=hr;exact⟨Nat.le_refl _,rfl⟩
 |o::l,k,e,e',h,h',hr=>by
  unfold RegF at hr;split at hr
  ·obtain⟨v,h1,hd,hr⟩:=hr;have:=hr.n;exact⟨Nat.le_trans hd.1.size this.1,by rw[this.2,Env.gJ]⟩
  ·have:=hr.n;exact⟨this.1,by rw[this.2,Env.gJ]⟩
theorem CodeD.rH {F:Bool}{id:Nat}{e e1:Env}{h h1:Heap} (hM:P.follows .mixedOrders=true) (hd:eE ops=true) (hok:jN N e.n ops=true) (hr:RegF P N ops h F ops.toList 0 e h e1 h1):CodeD P N (.region id ops true) e h .normal e1 h1:=by
 refine⟨hr.n,?_⟩;intro ι w a H0 r;obtain⟨E,H,V,T,rfl,rfl,rfl,rfl⟩:=hr.txt;refine wp_region_any hM ?_;have H0':HRel N ι (H 0) { w with drawn:=w.drawn+1 }:=H0.same rfl;refine Ev T hd hok H0' (fun a' w' ι' q1 q2 q3=>⟨rfl,ι',q1,q2,(Step.same H0 (w':={ w with drawn:=w.drawn+1 }) rfl ⟨rfl,rfl,rfl,Nat.le_succ _⟩).trans q3⟩) ops.size _ a _ ι 0 ?_ (Dm H0' r);unfold qJ;refine Nat.le_trans List.countP_le_length ?_;simp
theorem CodeD.draw {id:Nat}{e e1:Env}{h h1:Heap} (hM:P.follows .mixedOrders=true) (hd:eE ops=true) (hok:jN N e.n ops=true) (hr:RegX P N ops h ops.toList 0 e h e1 h1):CodeD P N (.region id ops true) e h .normal e1 h1:=CodeD.rH hM hd hok hr.toF
end
end Go.Abs
