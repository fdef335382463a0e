/- Parts of the proof. -/
import Derived.Test.YtglgdkineobbeaaGreatDoorTn17
open Array renaming replicate->Nh
open Go.Op renaming operands->Mi
open Go.Oper renaming wp->PY
open Go.Region renaming ready->MQ,wanted->Mz
namespace Go.Abs
theorem Eb{P:Program}{h h':Heap}{t:TypeId}{g off:Nat}{v:Value}(hx:Ext h h')(e:mJ P h t g off=some v):mJ P h' t g off=some v:=by
 unfold mJ at e ⊢;split at e
 .rename_i cs ro hg;rw[hx.2 _ (Heap.ai hg),hg];exact e
 .cases e
theorem EI{h h':Heap}{x v:Value}(hx:Ext h h')(e:lJ h x=some v):lJ h' x=some v:=by
 unfold lJ at e ⊢;split at e
 .exact e
 .exact e
 .split at e
  .rename_i cs ro hg;rw[hx.2 _ (Heap.ai hg),hg];exact e
  .cases e
 .cases e
theorem xC{h h':Heap}{x:Value}{es:List (Value×Value)}(hx:Ext h h')(e:entriesOf h x=some es):entriesOf h' x=some es:=by
 unfold entriesOf at e ⊢;split at e
 .exact e
 .split at e
  .rename_i hg;rw[hx.2 _ (Heap.ai hg),hg];exact e
  .cases e
 .cases e
theorem ye{P:Program}{kt:TypeId}{kd:TypeDesc}{k:Value}:∀(es:List (Value×Value)) (i j:Nat) (v:Value),mQ P kt kd k es i=some (some (j,v))->∃(n:Nat) (k':Value),es[n]?=some (k',v)
 |[],_,_,_,h=>by simp[mQ] at h
 |(k',u)::es,i,j,v,h=>by
  simp only[mQ] at h;split at h
  .simp only[LR,Mn] at h;obtain⟨_,rfl⟩:=h;exact⟨0,k',rfl⟩
  .obtain⟨n,k2,q⟩:=ye es (i+1) j v h;exact⟨n+1,k2,by simpa using q⟩
  .cases h
theorem yq{P:Program}{ρ:Operand->Value}{o:Oper}{h h':Heap}{v:Value}(hx:Ext h h')(e:bp P ρ o h=some v):bp P ρ o h'=some v:=by
 obtain⟨dst,op,type,pos,after,guard⟩:=o
 cases op <;> try (simp[bp] at e;done)
 .rename_i t a;simp only[bp] at e ⊢;split at e
  .exact Eb hx e
  .exact e
  .cases e
 .rename_i s t x;simp only[bp] at e ⊢;split at e
  .split at e
   .exact EI hx e
   .cases e
  .exact e
 .rename_i t x i commaOk;simp only[bp] at e ⊢;split at e
  .split at e
   .rename_i he;rw[xC hx he];simp_all
   .cases e
  .cases e
theorem BO{h:Heap}{x v:Value}(e:lJ h x=some v):plain v=true:=by
 unfold lJ at e;split at e
 .split at e
  .cases e;rfl
  .cases e
 .cases e;rfl
 .split at e
  .split at e
   .split at e
    .cases e;rfl
    .cases e
   .cases e
  .cases e
 .cases e
theorem zS{N:Nat}{P:Program}{κ:Inj}{ρ ρ':Operand->Value}{o:Oper}{h:Heap}{w:World}{v:Value}{ι:Inj}(H:HRel N κ h w)(e:bp P ρ o h=some v)(hρ:∀x∈o.op.operands,VRel ι (ρ x) (ρ' x))
  (hk:∀g l,ι g=some l->g<h.size->∃l',κ g=some l') (hnf:dj ρ o=false):∃u,VRel κ v u:=by
 obtain⟨dst,op,type,pos,after,guard⟩:=o
 cases op <;> try (simp[bp] at e;done)
 .rename_i t a;have ha:=hρ a (by simp[Mi]);simp only[bp] at e;simp only[dj] at hnf;generalize ρ a=y0 at ha e hnf;generalize ρ' a=y at ha
  cases ha <;> try (first | (simp at e;done) | (simp at hnf;done))
  rename_i g off l hl;simp only at e
  have hg:g<h.size:=by
   unfold mJ at e;split at e
   .rename_i hg;exact Heap.ai hg
   .cases e
  obtain⟨l',hl'⟩:=hk g l hl hg;obtain⟨u,_,q⟩:=oE (P:=P) H hl' e;exact⟨u,q⟩
 .rename_i s t x;simp only[bp] at e;split at e
  .split at e
   .exact⟨v,VRel.aU (BO e)⟩
   .cases e
  .exact⟨v,VRel.aU (wu e)⟩
 .rename_i t x i commaOk;have hx:=hρ x (by simp[Mi]);simp only[bp] at e;split at e
  .split at e
   .rename_i kd z es _ hz he;split at e
    .rename_i hc;split at e
     .rename_i n v0 hf
      have hv:∃u,VRel κ v0 u:=by
       obtain⟨n,k',hn⟩:=ye _ _ _ _ hf;generalize ρ x=y0 at hx he;generalize ρ' x=y1 at hx
       cases hx <;> try (simp[entriesOf] at he;done)
       .simp only[entriesOf,LR] at he;subst he;simp at hn
       .rename_i g l hl;simp only[entriesOf] at he;split at he
        .rename_i es' hg;simp only[LR] at he;subst he;obtain⟨l',hl'⟩:=hk g l hl (Heap.ai hg);obtain⟨E,c,k1,k2,k3,k4,_⟩:=H.obj g l' _ hl' hg;obtain⟨m,q1,q2,q3⟩:=k4 n k' v0 hn;exact⟨_,q3⟩
        .cases he
      obtain⟨u,hu⟩:=hv;simp only[LR] at e;subst e
      cases commaOk
      .exact⟨u,hu⟩
      .have:=ba.cons hu (ba.cons (VRel.bool true) (ba.nil κ));exact⟨_,.tuple _ _ this.array.1 this.array.2⟩
     .simp only[LR] at e;subst e
      cases commaOk
      .exact⟨_,VRel.aU hc.2⟩
      .exact⟨_,VRel.wy hc.2⟩
     .cases e
    .cases e
   .cases e
  .cases e
section
variable {P:Program} {N:Nat} {ops:Array Oper} {F:Bool} {E:Nat->Env} {H:Nat->Heap} {V:Nat->Value}
variable {ι0:Inj} {w0:World}
def iG(P:Program)(ops:Array Oper)(Q:Exit->Act->World->Prop)(i:Nat)(K:Act->World->Prop)(a:Act)(w:World):Prop :=
 match ops[i]? with
 |none=>K a w
 |some o=>if Mz o (yielded ops a.tmps) then o.wp P a w K Q else K (a.put o.dst undef) w
def Cn(P:Program)(ops:Array Oper)(Q:Exit->Act->World->Prop):Nat->Array Bool->Act->World->Prop
 |0,listed,a,w=>MQ .any ops listed=[]/\Q .normal a w
 |fuel+1,listed,a,w=>(MQ .any ops listed=[]->Q .normal a w)/\∀i∈MQ .any ops listed,iG P ops Q i (Cn P ops Q fuel (listed.setIfInBounds i true)) a w
theorem EZ{Q:Exit->Act->World->Prop}{i:Nat}{K K':Act->World->Prop}(hK:∀a w,K a w->K' a w){a:Act}{w:World}(h:iG P ops Q i K a w):wpOp P ops Q i K' a w:=by
 refine wpOp_mono hK ?_;unfold iG at h;unfold wpOp
 cases e:ops[i]? with
 |none=>rw[e] at h;exact h
 |some o =>
  rw[e] at h;simp only at h ⊢;split
  .rename_i hw;rw[if_pos hw] at h;exact .inl h
  .rename_i hw;rw[if_neg hw] at h;exact h
theorem zY{Q:Exit->Act->World->Prop}:∀{fuel:Nat}{L:Array Bool}{a:Act}{w:World},Cn P ops Q fuel L a w->wpAny P .any ops Q fuel L a w
 |0,_,_,_,h=>h
 |_+1,_,_,_,h=>⟨h.1,λi hi=>EZ (λ_ _=>zY) (h.2 i hi)⟩
theorem EW(T:Txt P N ops (H 0) F E H V)(hd:fS ops=true)(hok:jI N (E 0).n ops=true)(H0:HRel N ι0 (H 0) w0){L:Array Bool}{a:Act}{w:World}{ι:Inj}{m:Nat}(I:Inv N ops E H V ι0 w0 L a w ι m)
  {i:Nat} (hr:i∈MQ .any ops L) {Q:Exit->Act->World->Prop} {K:Act->World->Prop} (hK:∀a' w' ι' m',Inv N ops E H V ι0 w0 (L.setIfInBounds i true) a' w' ι' m'->K a' w'):iG P ops Q i K a w:=by
 obtain⟨_,o,ho,_⟩:=mem_ready.1 hr;have hi:i<ops.size:=(L3.1 ho).1;have hoko:ig N (E 0).n o=true:=(Md.1 hok) o (Nl.2 (M5 ho));have hρ:=I.operands T hd hok H0 ho hr;obtain⟨hnl,hil⟩:=dB hr
 have order:aW o=true->m<=i/\∀c o',m<=c->c<i->ops[c]?=some o'->aW o'=true->False:=by
  intro hc;refine⟨?_,λc o' h1 h2 h3 h4=>?_⟩
  .rcases Oe i m with c|c
   · exact absurd ((I.chain i o ho hc).2 c) hnl
   · exact c
  .rcases nj hd h2 h3 ho with hb|⟨_,_,q⟩
   · have:=(I.chain c o' h3 h4).1 (hT I.closed hb hr);omega
   · exact q ⟨h4,hc⟩
 have loose:dp o=true->dj (E i).eval o=false->Mz o (aQ ops (E i))=true->∀c o',ops[c]?=some o'->aW o'=true->Mz o' (aQ ops (E c))=true->m<=c->c<i->Ext (H c) (H (c+1)):=by
  intro hread hfr hwi c o' h1 h2 h3 k1 k2
  rcases (T.yes c o' h1 h3).2.1 h2 with hF|hs|hx|⟨J,hb,_⟩
  .exfalso;have:=((T.yes i o ho hwi).2.2 hread).1 hF;rw[hfr] at this;cases this
  .exfalso
   rcases uj hs ho hread with⟨q1,q2⟩|⟨q1,q2⟩
   · omega
   · have:=(I.chain c o' h1 h2).1 (hT I.closed q2 hr);omega
  .exact hx
  .exfalso
   rcases wq hb ho hread with⟨q1,_⟩|⟨q1,q2⟩|⟨q1,_⟩
   · omega
   · have:=(I.chain c o' h1 h2).1 (hT I.closed q2 hr);omega
   · omega
 have after:dp o=true->dj (E i).eval o=false->Mz o (aQ ops (E i))=true->∀v,∀c o',ops[c]?=some o'->aW o'=true->Mz o' (aQ ops (E c))=true->i<c->c<m->bp P (E i).eval o (H c)=some v->bp P (E i).eval o (H (c+1))=some v:=by
  intro hread hfr hwi v c o' h1 h2 h3 k1 k2 hv
  rcases (T.yes c o' h1 h3).2.1 h2 with hF|hs|hx|⟨J,hb,hJ⟩
  .exfalso;have:=((T.yes i o ho hwi).2.2 hread).1 hF;rw[hfr] at this;cases this
  .exfalso
   rcases uj hs ho hread with⟨q1,q2⟩|⟨q1,q2⟩
   · exact hnl (I.before q2 ((I.chain c o' h1 h2).2 k2))
   · omega
  .exact yq hx hv
  .rcases wq hb ho hread with⟨q1,q2⟩|⟨q1,q2⟩|⟨q1,q2,t,a,q3,q4⟩
   · exact absurd (I.before q2 ((I.chain c o' h1 h2).2 k2)) hnl
   · omega
   · have hcs:c<ops.size:=(L3.1 h1).1;have hst:=T.still (MG hcs) (MG q1) q4;have hJ2:=hJ i q2 o t a ho q3;unfold bp at hv ⊢;rw[q3] at hv ⊢;dsimp only at hv ⊢;have he:(E i).eval (.tmp a)=(E i).get a:=rfl;rw[he] at hv ⊢;rw[hst] at hJ2;split at hv
     .rename_i g off hg;have:=hJ2 g off hg;unfold mJ at hv ⊢;rw[this];exact hv
     .exact hv
     .cases hv
 unfold iG;simp only[ho];rw[I.wanted T hd hok ho hr]
 cases hw:Mz o (aQ ops (E i)) with
 |false =>
  rw[if_neg (by simp)];obtain⟨hv,hh⟩:=T.no i o ho hw
  have hvr:∀κ,VRel κ (V i) undef:=λκ=>by rw[hv];exact VRel.nothing κ
  cases hc:aW o with
  |false=>exact hK _ _ ι m (I.quiet hd ho hr hc (λf=>by rw[f.2.2] at hw;cases hw) (hvr _))
  |true =>
   obtain⟨hmi,hno⟩:=order hc;have hview:=I.view T (MG hi) hmi (λc o' c1 c2 c3 c4 _=>(hno c o' c1 c2 c3 c4).elim);exact hK _ _ _ (i+1) (I.qQ T hd ho hr H0.dom hc hmi hno (ι1:=cut ι (H i).size) (by rw[hh];exact hview) (by rw[hh];exact Step.refl w hview.dom) (hvr _))
 |true =>
  rw[if_pos rfl];obtain⟨hop,hch,hrd⟩:=T.yes i o ho hw
  cases hcl:cls o.op with
  |pure =>
   unfold OpD at hop;simp only[hcl] at hop;obtain⟨v',q1,q2⟩:=pd hρ hop.1;unfold PY;rw[q1 w];refine hK _ _ ι m (I.quiet hd ho hr (by simp[aW,hcl]) (λf=>?_) (by rw[hop.2];exact q2));have:=f.2.1;simp[yR,hcl] at this
  |read =>
   have hread:dp o=true:=by simp[dp,hcl]
   have hop':=hop;unfold OpD at hop';simp only[hcl] at hop';obtain⟨hop1,hop2⟩:=hop'
   have fin:∀v',(execOp a.eval o).run P w=.ok (.value v') w->VRel (cut ι (H (i+1)).size) (V i) v'->o.wp P a w K Q:=by
     intro v' q1 q2;unfold PY;rw[q1];refine hK _ _ ι m (I.quiet hd ho hr (by simp[aW,hcl]) (λf=>?_) q2);have:=f.2.1;simp[yR,hcl] at this
   cases hfr:dj (E i).eval o with
   | true =>
     obtain⟨v',q1,q2⟩:=tU (ι:=cut ι (H i).size) (h:=H i) (λb C e=>I.rel.frz b C e) hρ hfr hop1;exact fin v' q1 (by rw[hop2];exact q2)
   | false =>
   rcases Oe i m with c|c
   ·
     have hrm:bp P (E i).eval o (H m)=some (V i):=T.keep I.m_le (MG c) (Q:=λh=>bp P (E i).eval o h=some (V i)) (λ_ _ hx q=>yq hx q) (λc' o' c1 c2 c3 c4 c5=>by
      by_cases e:c'=i
      .subst e;rw[ho] at c3;cases c3;simp[aW,hcl] at c4
      .exact after hread hfr hw _ c' o' c3 c4 c5 (by omega) c2) hop1
     obtain⟨v',q1,q2⟩:=lU I.rel (λx hx'=>(hρ x hx').mono (dS (T.size_le (MG c) I.m_le) (Inj.Le.refl ι))) hrm
     refine fin v' q1 ?_
     rcases (hrd hread).2 with hF|hp|hp|hp
     .exfalso
      have:=(hrd hread).1 hF
      rw[hfr] at this;cases this
     .exfalso
      have:∃c' o',i<c'/\c'<m/\ops[c']?=some o'/\aW o'=true:=by
       rcases I.mtop with q|⟨k,o',q,k1,k2⟩
       .omega
       .refine⟨k,o',?_,by omega,k1,k2⟩
        have:k≠i:=by rintro rfl;rw[ho] at k1;cases k1;simp[aW,hcl] at k2
        omega
      obtain⟨c',o',c1,c2,c3,c4⟩:=this
      exact hnl (I.before (BE hp c3 c4 c1) ((I.chain c' o' c3 c4).2 c2))
     .rw[q2.cv hp];exact VRel.aU hp
     .obtain⟨u,hu⟩:=zS H0 hp hρ (λg l e hg=>by
       cases e0:ι0 g with
       |some l0=>exact⟨l0,rfl⟩
       |none=>have:=I.fresh g l (iM _ _ e) e0;omega) hfr
      refine VRel.IB (ι:=cut ι (H m).size) (ι':=cut ι (H (i+1)).size) (λg hg l e=>?_) (λ_ _ e=>e) hu q2
      cases e0:ι0 g with
      |none=>exact absurd e0 hg
      |some l0 =>
       have:=H0.dom g l0 e0;have h1:=T.size_le (L1 i) (MG hi);exact aO.2 ⟨by rw[hop2];omega,iM _ _ e⟩
   · have hview:=I.view T (MG hi) c (λc' o' c1 c2 c3 c4 c5=>loose hread hfr hw c' o' c3 c4 c5 c1 c2);obtain⟨v',q1,q2⟩:=lU hview hρ hop1;exact fin v' q1 (by rw[hop2];exact q2)
  |new =>
   have hf:Fl ops E i o:=⟨ho,by simp[yR,hcl],hw⟩;obtain⟨ob,f,h1,h2,h3⟩:=T.new hf;obtain⟨o',tot,v',q1,q2⟩:=vv hρ h1 w;unfold PY;rw[q1];exact hK _ _ _ m (I.fl T hd hr hf h3 (λι1 g e1 e2=>⟨(q2 ι1 g e1 e2).1,λe=>by rw[h2,<- e];exact (q2 ι1 g e1 e2).2⟩))
  |eff =>
   have hc:aW o=true:=by simp[aW,hcl]
   obtain⟨hmi,hno⟩:=order hc;have hview:=I.view T (MG hi) hmi (λc o' c1 c2 c3 c4 _=>(hno c o' c1 c2 c3 c4).elim);exact rG hview hρ hop (λι' v' w' q1 q2 q3=>hK _ _ _ (i+1) (I.qQ T hd ho hr H0.dom hc hmi hno q2 q3 q1))
  |call =>
   have hc:aW o=true:=by simp[aW,hcl]
   obtain⟨hmi,hno⟩:=order hc;have hview:=I.view T (MG hi) hmi (λc o' c1 c2 c3 c4 _=>(hno c o' c1 c2 c3 c4).elim);exact rG hview hρ hop (λι' v' w' q1 q2 q3=>hK _ _ _ (i+1) (I.qQ T hd ho hr H0.dom hc hmi hno q2 q3 q1))
theorem AH(T:Txt P N ops (H 0) F E H V)(H0:HRel N ι0 (H 0) w0){L:Array Bool}{a:Act}{w:World}{ι:Inj}{m:Nat}(I:Inv N ops E H V ι0 w0 L a w ι m)(hall:∀j,j<ops.size->aG L j) :
  ∃ι',ERel ι' (E ops.size) a/\HRel N ι' (H ops.size) w/\Step N ι0 (H 0) w0 ι' (H ops.size) w:=by
 have hno:∀c o',m<=c->c<ops.size->ops[c]?=some o'->aW o'=true->False:=by
  intro c o' h1 h2 h3 h4;have:=(I.chain c o' h3 h4).1 (hall c h2);omega
 have hx:Ext (H m) (H ops.size):=T.ext (LV _) I.m_le (λc o' c1 c2 c3 c4 _=>(hno c o' c1 c2 c3 c4).elim);have hview:=I.view T (LV _) I.m_le (λc o' c1 c2 c3 c4 _=>(hno c o' c1 c2 c3 c4).elim);have hsz0:=T.size_le (L1 ops.size) (LV _);have back:∀g,g<(H 0).size->(H ops.size).get g=(H m).get g:=λg hg=>hx.2 g (Mr hg (T.size_le (L1 m) I.m_le));refine⟨cut ι (H ops.size).size,⟨I.defers,by rw[I.tsize,T.Hp (LV _)],λt ht=>?_⟩,hview,?_⟩
 .rw[T.Hp (LV _)] at ht;obtain⟨v,s,h1,h2⟩:=I.temps t ht;obtain⟨s0,k1,k2⟩:=T.val t (i:=ops.size) (LV _)
  have k3:uP ops E H V (aG L) t ((E ops.size).get t) s0:=k2.congr λj hj=>by
   obtain⟨o',ho',_⟩:=hj;have hj':=(L3.1 ho').1;exact⟨λ_=>hall j hj',λ_=>hj'⟩
  obtain⟨rfl,rfl⟩:=h1.unique k3;exact h2.mono (dS k1 (Inj.Le.refl ι))
 .refine⟨H0.dom,hsz0,⟨λg l e=>aO.2 ⟨Mr (H0.dom g l e) hsz0,I.ext.at_ g l e⟩,I.ext.fz⟩,λg l e e0=>I.fresh g l (iM _ _ e) e0,λg l e e0=>I.own g l (iM _ _ e) e0,
   λg hg hm=>?_,λg hg hl=>?_,I.wsize,I.frame,λg hg e=>?_,I.out,I.fzown⟩
  .obtain⟨ob,q1,q2⟩:=hm;rw[back g hg] at q1;exact I.keep g hg ⟨ob,q1,q2⟩
  .obtain⟨ob,q1,q2⟩:=hl;rw[back g hg] at q1;exact I.keepl g hg ⟨ob,q1,q2⟩
  .rw[back g hg];exact I.others g hg e
def nG(L:Array Bool):Nat:=L.toList.countP (λb => !b)
theorem nC{L:Array Bool}{i:Nat}(hi:i<L.size)(hn:¬ aG L i):nG (L.setIfInBounds i true)+1=nG L:=by
 have hf:L[i]=false:=by
  unfold aG at hn;rw[LW,Me hi] at hn;simpa using hn
 unfold nG;rw[Array.toList_setIfInBounds]
 have hlen:i<L.toList.length:=by simpa using hi
 have hf':L.toList[i]=false:=by simpa using hf
 rw[List.countP_set hlen];have hpos:0<L.toList.countP (λb => !b):=RC.2 ⟨false,by rw[<- hf'];exact Nw hlen,rfl⟩;simp only[hf',QD,if_true,QT,Nr,if_false];omega
theorem pH{L:Array Bool}(he:mf ops=true)(hL:L.size=ops.size)(hr:MQ .any ops L=[]):∀j,j<ops.size->aG L j:=by
 intro j
 induction j using Nat.strongRecOn with
 |_ j ih =>
  intro hj
  cases hl:L.getD j false with
  |true=>exact hl
  |false =>
   exfalso;obtain⟨o,ho⟩:∃o,ops[j]?=some o:=⟨_,Me hj⟩
   have:j∈MQ .any ops L:=by
    refine mem_ready.2 ⟨?_,o,ho,λed hm hb=>?_⟩
    .rw[LW] at hl ⊢;have:L[j]?=some L[j]:=Me (by omega);rw[this] at hl ⊢;exact hl
    .have hlt:ed.on<j:=(Before.edge ho hm hb).lt he;exact ih ed.on hlt (by omega)
   rw[hr] at this
   cases this
theorem Ei(T:Txt P N ops (H 0) F E H V)(hd:fS ops=true)(hok:jI N (E 0).n ops=true)(H0:HRel N ι0 (H 0) w0){Q:Exit->Act->World->Prop}
  (hQ:∀a w ι',ERel ι' (E ops.size) a->HRel N ι' (H ops.size) w->Step N ι0 (H 0) w0 ι' (H ops.size) w->Q .normal a w) :
  ∀(fuel:Nat) (L:Array Bool) (a:Act) (w:World) (ι:Inj) (m:Nat),nG L<=fuel->Inv N ops E H V ι0 w0 L a w ι m->Cn P ops Q fuel L a w:=by
 have he:mf ops=true:=by
  simp only[fS,L9] at hd;exact hd.1
 intro fuel
 induction fuel with
 |zero =>
  intro L a w ι m hf I
  have hall:∀j,j<ops.size->aG L j:=by
   intro j hj
   cases hl:L.getD j false with
   |true=>exact hl
   |false =>
    have:=nC (L:=L) (i:=j) (by rw[I.lsize];exact hj) (by unfold aG;rw[hl];simp);omega
  refine⟨?_,?_⟩
  .cases hr:MQ .any ops L with
   |nil=>rfl
   |cons i r =>
    have hmem:i∈MQ .any ops L:=by rw[hr];simp
    obtain⟨hnl,hil⟩:=dB hmem;exact absurd (hall i (by rw[<- I.lsize];exact hil)) hnl
  .obtain⟨ι',q1,q2,q3⟩:=AH T H0 I hall;exact hQ a w ι' q1 q2 q3
 |succ fuel ih =>
  intro L a w ι m hf I;refine⟨λhr=>?_,λi hr=>?_⟩
  .obtain⟨ι',q1,q2,q3⟩:=AH T H0 I (pH he I.lsize hr);exact hQ a w ι' q1 q2 q3
  .obtain⟨hnl,hil⟩:=dB hr;refine EW T hd hok H0 I hr λa' w' ι' m' I'=>ih _ a' w' ι' m' ?_ I';have:=nC hil hnl;omega
theorem FF(T:Txt P N ops (H 0) F E H V)(hd:fS ops=true)(hok:jI N (E 0).n ops=true)(H0:HRel N ι0 (H 0) w0){Q:Exit->Act->World->Prop}
  (hQ:∀a w ι',ERel ι' (E ops.size) a->HRel N ι' (H ops.size) w->Step N ι0 (H 0) w0 ι' (H ops.size) w->Q .normal a w) :
  ∀(fuel:Nat) (L:Array Bool) (a:Act) (w:World) (ι:Inj) (m:Nat),nG L<=fuel->Inv N ops E H V ι0 w0 L a w ι m->wpAny P .any ops Q fuel L a w :=
 λfuel L a w ι m h1 h2=>zY (Ei T hd hok H0 hQ fuel L a w ι m h1 h2)
theorem En(H0:HRel N ι0 (H 0) w0){a:Act}(r:ERel ι0 (E 0) a):Inv N ops E H V ι0 w0 (Nh ops.size false) a w0 ι0 0:=by
 have hn:∀j,¬ aG (Nh ops.size false) j:=by
  intro j;unfold aG;rw[LW,NR]
  split <;> simp
 have hcut:cut ι0 (H 0).size=ι0:=by
  have:(λg=>if g<(H 0).size then ι0 g else none)=ι0.at_:=by
   funext g;by_cases c:g<(H 0).size
   .rw[if_pos c]
   .rw[if_neg c]
    cases e:ι0 g with
    |none=>rfl
    |some l=>exact absurd (H0.dom g l e) c
  unfold cut;rw[this]
 refine {
  lsize:=(by simp),closed:=λj o hj=>absurd hj (hn j),m_le:=L1 _,mtop:=.inl rfl,chain:=λj o _ _=>⟨λh=>absurd h (hn j),λh=>absurd h (Mu j)⟩,defers:=r.defers,tsize:=r.size,
  temps:=λt ht=>⟨_,_,.inr ⟨λj hj=>absurd hj (hn j),rfl,rfl⟩,(by rw[hcut];exact r.get t ht)⟩,
  dom:=λg l e=>.inl (H0.dom g l e),rel:=(by rw[hcut];exact H0),early:=λj o ob hj=>absurd hj (hn j),late:=λj o ob _ hj=>absurd hj (Mu j),
  ext:=Inj.Le.refl ι0,fresh:=λg l e e0=>(by rw[e0] at e;cases e),own:=λg l e e0=>(by rw[e0] at e;cases e),wsize:=LV _,frame:=λ_ _ _=>rfl,out:=⟨rfl,rfl,rfl,λ_=>LV _⟩,
  keep:=λ_ _ h=>h,keepl:=λ_ _ h=>h,others:=λ_ _ _=>rfl,fzown:=λb C e e0=>(by rw[e0] at e;cases e) }
theorem jR.n{h0:Heap}{F:Bool}:∀{l:List Oper}{k:Nat}{e e':Env}{h h':Heap},jR P N ops h0 F l k e h e' h'->h.size<=h'.size/\e'.n=e.n
 |[],_,_,_,_,_,hr=>by obtain⟨rfl,rfl⟩:=hr;exact⟨LV _,rfl⟩
 |o::l,k,e,e',h,h',hr=>by
  unfold jR at hr;split at hr
  .obtain⟨v,h1,hd,hr⟩:=hr;have:=hr.n;exact⟨Mf hd.1.size this.1,by rw[this.2,Env.er]⟩
  .have:=hr.n;exact⟨this.1,by rw[this.2,Env.er]⟩
theorem aN.mV{F:Bool}{id:Nat}{e e1:Env}{h h1:Heap}(hM:P.follows .mixedOrders=true)(hd:fS ops=true)(hok:jI N e.n ops=true)(hr:jR P N ops h F ops.toList 0 e h e1 h1):aN P N (.region id ops true) e h .normal e1 h1:=by
 refine⟨hr.n,?_⟩;intro ι w a H0 r;obtain⟨E,H,V,T,rfl,rfl,rfl,rfl⟩:=hr.txt;refine wp_region_any hM ?_;have H0':HRel N ι (H 0) { w with drawn:=w.drawn+1 }:=H0.same rfl;refine FF T hd hok H0' (λa' w' ι' q1 q2 q3=>⟨rfl,ι',q1,q2,(Step.same H0 (w':={ w with drawn:=w.drawn+1 }) rfl ⟨rfl,rfl,rfl,λ_=>NB _⟩).trans q3⟩) ops.size _ a _ ι 0 ?_ (En H0' r);unfold nG;refine Mf Pm ?_;simp
theorem aN.draw{id:Nat}{e e1:Env}{h h1:Heap}(hM:P.follows .mixedOrders=true)(hd:fS ops=true)(hok:jI N e.n ops=true)(hr:xN P N ops h ops.toList 0 e h e1 h1):aN P N (.region id ops true) e h .normal e1 h1:=aN.mV hM hd hok hr.toF
end
end Go.Abs
