/- Parts of the proof. -/
import Derived.Test.YtglgdkineobbeaaGreatDoorTn16
open Go.Oper renaming looksAt->Sv
open Go.Region renaming ready->MQ,wanted->Mz
namespace Go.Abs
theorem aV{L:Array Bool}{i:Nat}(hi:i<L.size)(j:Nat):aG (L.setIfInBounds i true) j↔j=i\/aG L j:=by
 unfold aG;rw[LW,LW,NP];by_cases c:i=j
 .subst c;simp[hi]
 .rw[if_neg c];constructor
  .exact .inr
  .rintro (h|h)
   .exact absurd h.symm c
   .exact h
section
variable {P:Program} {N:Nat} {ops:Array Oper} {F:Bool} {E:Nat->Env} {H:Nat->Heap} {V:Nat->Value}
variable {ι0 ι:Inj} {w0 w:World} {L:Array Bool} {a:Act} {m:Nat}
theorem Inv.named(T:Txt P N ops (H 0) F E H V)(hd:fS ops=true)(I:Inv N ops E H V ι0 w0 L a w ι m){i:Nat}{o:Oper}(ho:ops[i]?=some o)(hr:i∈MQ .any ops L){t:Tmp}(ht:t∈nms ops o){v:Value}{s:Nat}
  (tv:uP ops E H V (aG L) t v s):v=(E i).get t/\s<=(H i).size:=by
 have hi:i<ops.size:=(L3.1 ho).1
 have hnl:¬ aG L i:=by
  have:=(mem_ready.1 hr).1;unfold aG;intro c;rw[LW] at this c
  cases q:L[i]? <;> simp[q] at this c
  rw[this] at c;cases c
 obtain⟨s0,h1,h2⟩:=T.val t (i:=i) (MG hi)
 have h3:uP ops E H V (aG L) t ((E i).get t) s0:=h2.congr λj hj=>by
  obtain⟨o',ho',hd'⟩:=hj
  rcases OT j i with c|c|c
  .refine⟨λ_=>?_,λ_=>c⟩
   rcases nj hd c ho' ho with hb|⟨q,_,_⟩
   .exact hT I.closed hb hr
   .exact absurd ht (q t hd')
  .subst c;exact⟨λc=>absurd c (Ot j),λc=>absurd c hnl⟩
  .refine⟨λc'=>by omega,λhl=>?_⟩
   rcases nj hd c ho ho' with hb|⟨_,q,_⟩
   .exact absurd (I.before hb hl) hnl
   .exact absurd ht (q t hd')
 obtain⟨rfl,rfl⟩:=tv.unique h3;exact⟨rfl,h1⟩
theorem dB{i:Nat}(hr:i∈MQ .any ops L):¬ aG L i/\i<L.size:=by
 have:=(mem_ready.1 hr).1;rw[LW] at this;refine⟨?_,?_⟩
 .unfold aG;intro c;rw[LW] at c
  cases q:L[i]? <;> simp[q] at this c
  rw[this] at c;cases c
 .rcases Oe i L.size with c|c
  .exact c
  .rw[Ny c] at this;simp at this
theorem Inv.yi(T:Txt P N ops (H 0) F E H V)(hd:fS ops=true)(I:Inv N ops E H V ι0 w0 L a w ι m){i:Nat}{o:Oper}(ho:ops[i]?=some o)(hr:i∈MQ .any ops L){t:Tmp}(ht:t∈nms ops o)(hn:t<(E 0).n) :
  VRel (cut ι (H i).size) ((E i).get t) (a.tmps.getD t undef):=by
 obtain⟨v,s,h1,h2⟩:=I.temps t hn;obtain⟨rfl,hs⟩:=I.named T hd ho hr ht h1;exact h2.mono (dS hs (Inj.Le.refl ι))
theorem Inv.operands(T:Txt P N ops (H 0) F E H V)(hd:fS ops=true)(hok:jI N (E 0).n ops=true)(H0:HRel N ι0 (H 0) w0)(I:Inv N ops E H V ι0 w0 L a w ι m){i:Nat}{o:Oper}(ho:ops[i]?=some o)
  (hr:i∈MQ .any ops L):∀x∈o.op.operands,VRel (cut ι (H i).size) ((E i).eval x) (a.eval x):=by
 intro x hx;have hi:i<ops.size:=(L3.1 ho).1;have hoko:ig N (E 0).n o=true:=(Md.1 hok) o (Nl.2 (M5 ho));simp only[ig,L9] at hoko;have hox:=(MJ.1 hoko.1) x hx
 cases x with
 |tmp t =>
  have ht:t<(E 0).n:=by simpa[lY] using hox
  refine I.yi T hd ho hr (t:=t) ?_ ht;unfold nms Sv;refine MA _ (MA _ ?_);rw[List.mem_filterMap];exact⟨.tmp t,by simpa using hx,rfl⟩
 |const v=>exact VRel.aU hox
 |global g =>
  obtain⟨l,h1,h2,h3⟩:=H0.glob g (by simpa[lY] using hox);have hlt:g<(H i).size:=Mr (H0.dom g l h1) (T.size_le (L1 i) (MG hi));have:=VRel.ptr (ι:=cut ι (H i).size) g 0 l (aO.2 ⟨hlt,I.ext.at_ _ _ h1⟩);rw[h2,h3] at this;exact this
 |func f=>exact .func _ _ _ _ _ rfl rfl (λi=>by simpa using VRel.nothing _) (λi=>by simpa using VRel.nothing _)
theorem Inv.wanted(T:Txt P N ops (H 0) F E H V)(hd:fS ops=true)(hok:jI N (E 0).n ops=true)(I:Inv N ops E H V ι0 w0 L a w ι m){i:Nat}{o:Oper}(ho:ops[i]?=some o)(hr:i∈MQ .any ops L) :
  Mz o (yielded ops a.tmps)=Mz o (aQ ops (E i)):=by
 unfold Mz
 cases hg:o.guard with
 |none=>rfl
 |some gw =>
  obtain⟨g,want⟩:=gw;simp only
  have:yielded ops a.tmps g=aQ ops (E i) g:=by
   unfold yielded aQ
   cases hq:ops[g]? with
   |none=>rfl
   |some o' =>
    cases hdst:o'.dst with
    |none=>simp[hdst]
    |some d =>
     have hok':ig N (E 0).n o'=true:=(Md.1 hok) o' (Nl.2 (M5 hq));have hlt:d<(E 0).n:=jU hok' d hdst
     have hm:d∈nms ops o:=by
      unfold nms Sv;refine MA _ (Nd _ ?_);simp[hg,hq,hdst]
     have r:=I.yi T hd ho hr hm hlt;obtain⟨u',hsome⟩:∃u',a.tmps[d]?=some u':=⟨_,Me (by rw[I.tsize];exact hlt)⟩;rw[LW,hsome,NI] at r;simp only[Oo,hdst,hsome];generalize (E i).get d=u at r ⊢
     cases r <;> rfl
  rw[this]
theorem Inv.tO(hd:fS ops=true)(I:Inv N ops E H V ι0 w0 L a w ι m){i:Nat}{o:Oper}(ho:ops[i]?=some o)(hr:i∈MQ .any ops L){ι':Inj}
  (hext:Inj.Le ι ι') {v':Value} (hv:VRel (cut ι' (H (i+1)).size) (V i) v') :
  ∀t,t<(E 0).n->∃v s,uP ops E H V (aG (L.setIfInBounds i true)) t v s/\VRel (cut ι' s) v ((a.put o.dst v').tmps.getD t undef):=by
 obtain⟨hnl,hil⟩:=dB hr;intro t ht;by_cases c:o.dst=some t
 .refine⟨V i,(H (i+1)).size,.inl ⟨i,(aV hil i).2 (.inl rfl),⟨o,ho,c⟩,λj' hj' hw'=>?_,rfl,rfl⟩,?_⟩
  .rcases (aV hil j').1 hj' with rfl|hl
   .exact LV _
   .rcases Oe i j' with hlt|hge
    .obtain⟨o',ho',hd'⟩:=hw'
     rcases nj hd hlt ho ho' with hb|⟨q,_,_⟩
     .exact absurd (I.before hb hl) hnl
     .exact absurd (by unfold nms;simp[hd']) (q t c)
    .exact hge
  .have:(a.put o.dst v').tmps.getD t undef=v':=by
    rw[c]
    show (a.tmps.setIfInBounds t v').getD t undef=v'
    rw[LW,NP];simp[I.tsize,ht]
   rw[this];exact hv
 .obtain⟨v,s,h1,h2⟩:=I.temps t ht;refine⟨v,s,h1.congr λj hj=>?_,?_⟩
  .rw[aV hil j]
   have:j≠i:=by
    rintro rfl;obtain⟨o',ho',hd'⟩:=hj;rw[ho] at ho';cases ho';exact c hd'
   exact⟨.inr,λh=>h.resolve_left this⟩
  .have:(a.put o.dst v').tmps.getD t undef=a.tmps.getD t undef:=by
    cases hq:o.dst with
    |none=>rfl
    |some d =>
     show (a.tmps.setIfInBounds d v').getD t undef=_
     rw[LW,NP,if_neg (λe=>c (by rw[hq,e])),<- LW]
   rw[this];exact h2.mono (dS (LV s) hext)
theorem put_defers(a:Act)(d:Option Tmp)(v:Value):(a.put d v).defers=a.defers:=by cases d <;> rfl
theorem wH(a:Act)(d:Option Tmp)(v:Value):(a.put d v).tmps.size=a.tmps.size:=by cases d <;> simp[Act.put]
theorem Inv.qA(I:Inv N ops E H V ι0 w0 L a w ι m){i:Nat}(hr:i∈MQ .any ops L):∀j o,aG (L.setIfInBounds i true) j->ops[j]?=some o->∀ed∈o.after,Region.binds .any ed=true->aG (L.setIfInBounds i true) ed.on:=by
 obtain⟨_,hil⟩:=dB hr;intro j o hj ho ed hm hb;rw[aV hil]
 rcases (aV hil j).1 hj with rfl|hl
 .obtain⟨_,o',ho',he'⟩:=mem_ready.1 hr;rw[ho] at ho';cases ho';exact .inr (he' ed hm hb)
 .exact .inr (I.closed j o hl ho ed hm hb)
theorem Inv.quiet(hd:fS ops=true)(I:Inv N ops E H V ι0 w0 L a w ι m){i:Nat}{o:Oper}(ho:ops[i]?=some o)(hr:i∈MQ .any ops L)
  (hc:aW o=false) (hn:¬ Fl ops E i o) {v':Value} (hv:VRel (cut ι (H (i+1)).size) (V i) v'):Inv N ops E H V ι0 w0 (L.setIfInBounds i true) (a.put o.dst v') w ι m:=by
 obtain⟨hnl,hil⟩:=dB hr
 refine {
  lsize:=(by simp[I.lsize]),closed:=I.qA hr,m_le:=I.m_le,mtop:=I.mtop,chain:=λj o' ho' hc'=>?_,defers:=(by rw[put_defers,I.defers]),tsize:=(by rw[wH,I.tsize]),temps:=(I.tO hd ho hr (Inj.Le.refl ι) hv),
  dom:=λg l e=>?_,rel:=I.rel,early:=λj o' ob hj hm hf hp=>?_,late:=λj o' ob hj hm hf hp=>I.late j o' ob (λh=>hj ((aV hil j).2 (.inr h))) hm hf hp,
  ext:=I.ext,fresh:=I.fresh,own:=I.own,wsize:=I.wsize,frame:=I.frame,out:=I.out,keep:=I.keep,keepl:=I.keepl,others:=I.others,fzown:=I.fzown }
 .rw[aV hil]
  have:j≠i:=by rintro rfl;rw[ho] at ho';cases ho';rw[hc] at hc';cases hc'
  rw[<- I.chain j o' ho' hc'];exact⟨λh=>h.resolve_left this,.inr⟩
 .rcases I.dom g l e with h|⟨j,o',h1,h2,h3,h4⟩
  .exact .inl h
  .exact .inr ⟨j,o',(aV hil j).2 (.inr h1),h2,h3,h4⟩
 .rcases (aV hil j).1 hj with rfl|hl
  .have:o'=o:=by have:=hf.1;rw[ho] at this;cases this;rfl
   subst this;exact absurd hf hn
  .exact I.early j o' ob hl hm hf hp
theorem pM{w:World}{o':Obj}{b:Nat}(hb:b<w.heap.size):(w.alloc o').heap[b]?=w.heap[b]?:=by
 show (w.heap.push _)[b]?=w.heap[b]?
 rw[ME]
 have:¬ b=w.heap.size:=by omega
 simp[this]
theorem yc{w:World}{o':Obj}:(w.alloc o').heap[w.heap.size]?=some o':=by
 show (w.heap.push _)[w.heap.size]?=_
 rw[ME];simp
theorem nF{w:World}{o':Obj}:(w.alloc o').heap.size=w.heap.size+1:=ON ..
theorem Inv.fl(T:Txt P N ops (H 0) F E H V)(hd:fS ops=true)(I:Inv N ops E H V ι0 w0 L a w ι m){i:Nat}{o:Oper}(hr:i∈MQ .any ops L)
  (hf:Fl ops E i o) {ob:AObj} (hp:H (i+1)=(H i).push ob) {o':Obj} {tot:Nat} {v':Value}
  (hs:∀ι1 g,Inj.Le (cut ι (H i).size) ι1->ι1 g=some ⟨w.heap.size,0,tot⟩->iL ι1 ⟨w.heap.size,0,tot⟩ ob (some o')/\(g=(H i).size->VRel ι1 (V i) v')) :
  Inv N ops E H V ι0 w0 (L.setIfInBounds i true) (a.put o.dst v') (w.alloc o') (ι.add (H i).size ⟨w.heap.size,0,tot⟩) m:=by
 obtain⟨hnl,hil⟩:=dB hr;have ho:=hf.1;have hi:i<ops.size:=(L3.1 ho).1;have hsz:(H (i+1)).size=(H i).size+1:=T.ow hf
 have hnone:ι (H i).size=none:=by
  rcases Oe i m with c|c
  .exact (I.late i o ob hnl c hf hp).2
  .cases q:ι (H i).size with
   | none=>rfl
   | some l =>
     rcases I.dom _ l q with h|⟨j,o2,h1,h2,h3,h4⟩
     .have:=T.size_le c (MG hi);omega
     .have:=T.Cj hf h3 h4;subst this;exact absurd h1 hnl
 have hext:=Inj.ml (l:=⟨w.heap.size,0,tot⟩) hnone
 have hat:(ι.add (H i).size ⟨w.heap.size,0,tot⟩) (H i).size=some ⟨w.heap.size,0,tot⟩:=by simp[Inj.add]
 have hbl:∀g l,ι g=some l->l.blk<w.heap.size:=by
  intro g l e
  rcases I.dom g l e with h|⟨j,o2,h1,h2,h3,rfl⟩
  .exact I.rel.blk g l (aO.2 ⟨h,e⟩)
  .obtain⟨ob2,_,_,_,hp2⟩:=T.new h3;obtain⟨l2,q1,q2,_⟩:=I.early j o2 ob2 h1 h2 h3 hp2;rw[e] at q1;cases q1;exact q2
 have hfz:∀b C,ι.fz b=some C->b<w.heap.size:=by
  intro b C e;obtain⟨ty,fr,e⟩:=I.rel.frz b C e;exact (L3.1 e).1
 have hcase:∀g l,(ι.add (H i).size ⟨w.heap.size,0,tot⟩) g=some l->(g=(H i).size/\l=⟨w.heap.size,0,tot⟩)\/(g≠(H i).size/\ι g=some l):=by
  intro g l e;rw[Inj.add_get] at e;by_cases q:g=(H i).size
  .rw[if_pos q] at e;cases e;exact .inl ⟨q,rfl⟩
  .rw[if_neg q] at e;exact .inr ⟨q,e⟩
 have hv:VRel (cut (ι.add (H i).size ⟨w.heap.size,0,tot⟩) (H (i+1)).size) (V i) v' :=
  (hs _ (H i).size (dS (by omega) hext) (aO.2 ⟨by omega,hat⟩)).2 rfl
 refine {
  lsize:=(by simp[I.lsize]),closed:=I.qA hr,m_le:=I.m_le,mtop:=I.mtop,chain:=λj o2 ho2 hc2=>?_,defers:=(by rw[put_defers,I.defers]),tsize:=(by rw[wH,I.tsize]),temps:=(I.tO hd ho hr hext hv),
  dom:=λg l e=>?_,rel:=?_,early:=λj o2 ob2 hj hm hf2 hp2=>?_,late:=λj o2 ob2 hj hm hf2 hp2=>?_,
  ext:=I.ext.trans hext,fresh:=λg l e e0=>?_,own:=λg l e e0=>?_,wsize:=(by rw[nF];exact QQ I.wsize),
  frame:=λb hb hn=>(by rw[pM (Mr hb I.wsize)];exact I.frame b hb hn),out:=I.out,keep:=I.keep,keepl:=I.keepl,others:=I.others,fzown:=I.fzown }
 .rw[aV hil]
  have:j≠i:=by
   rintro rfl;rw[ho] at ho2;cases ho2;have:=hf.2.1;unfold yR at this;unfold aW at hc2
   cases q:cls o.op <;> simp[q] at this hc2
  rw[<- I.chain j o2 ho2 hc2];exact⟨λh=>h.resolve_left this,.inr⟩
 .rcases hcase g l e with⟨rfl,rfl⟩|⟨_,e⟩
  .rcases Oe i m with c|c
   · left;have:=T.size_le (i:=i+1) c I.m_le;omega
   · exact .inr ⟨i,o,(aV hil i).2 (.inl rfl),c,hf,rfl⟩
  .rcases I.dom g l e with h|⟨j,o2,h1,h2,h3,h4⟩
   · exact .inl h
   · exact .inr ⟨j,o2,(aV hil j).2 (.inr h1),h2,h3,h4⟩
 .refine⟨λg l e=>(aO.1 e).1,λg l e=>?_,λg hg=>?_,λg l ob2 e1 e2=>?_,λg g' l l' e1 e2 hne hm hl=>?_,λb C e=>?_,λb C g l e0 e1 hm=>?_,λg l cs e1 e2=>?_⟩;rotate_left 4
  .rw[pM (hfz b C e)];exact I.rel.frz b C e
  .obtain⟨hg,e1'⟩:=aO.1 e1
   rcases hcase g l e1' with⟨rfl,rfl⟩|⟨n1,e1''⟩
   · have:=hfz b C e0
     show w.heap.size≠b
     omega
   · exact I.rel.fzap b C g l e0 (aO.2 ⟨hg,e1''⟩) hm
  .obtain⟨hg,e1'⟩:=aO.1 e1
   rcases hcase g l e1' with⟨rfl,rfl⟩|⟨n1,e1''⟩
   · have him:i<m:=by
      rcases Oe i m with c|c
      .exact c
      .have:=T.size_le c (MG hi);omega
     have hl:=(I.late i o ob hnl him hf hp).1;rw[hl] at e2;cases e2;obtain⟨ob',f,hnew,_,hp'⟩:=T.new hf
     have h1:(H (i+1)).get (H i).size=some (.cells cs true):=by rw[hp,Heap.bq,if_pos rfl]
     rw[hp',Heap.bq,if_pos rfl] at h1
     cases h1
     exact absurd rfl (vr hnew cs)
   · exact I.rel.rofz g l cs (aO.2 ⟨hg,e1''⟩) e2
  rotate_right 4
  .rw[nF]
   rcases hcase g l (aO.1 e).2 with⟨_,rfl⟩|⟨_,e⟩
   · exact ML _
   · exact Nat.lt_succ_of_lt (hbl g l e)
  .obtain⟨l,e1,e2,e3⟩:=I.rel.glob g hg;exact⟨l,(dS (LV _) hext).at_ _ _ e1,e2,e3⟩
  .obtain⟨hg,e1'⟩:=aO.1 e1
   rcases hcase g l e1' with⟨rfl,rfl⟩|⟨_,e⟩
   ·
     have him:i<m:=by
      rcases Oe i m with c|c
      .exact c
      .have:=T.size_le c (MG hi);omega
     have hl:=(I.late i o ob hnl him hf hp).1
     rw[hl] at e2;cases e2
     rw[yc]
     have:=T.size_le (i:=i) (MG him) I.m_le
     exact (hs _ (H i).size (dS this hext) (aO.2 ⟨hg,hat⟩)).1
   · rw[pM (hbl g l e)];exact (I.rel.obj g l ob2 (aO.2 ⟨hg,e⟩) e2).mono (dS (LV _) hext)
  .obtain⟨hg,e1'⟩:=aO.1 e1;obtain⟨hg',e2'⟩:=aO.1 e2
   rcases hcase g l e1' with⟨rfl,rfl⟩|⟨n1,e1''⟩
   · rcases hcase g' l' e2' with⟨rfl,rfl⟩|⟨n2,e2''⟩
     .exact absurd rfl hne
     .have:=hbl g' l' e2''
      show w.heap.size≠l'.blk
      omega
   · rcases hcase g' l' e2' with⟨rfl,rfl⟩|⟨n2,e2''⟩
     .have:=hbl g l e1''
      show l.blk≠w.heap.size
      omega
     .exact I.rel.apart g g' l l' (aO.2 ⟨hg,e1''⟩) (aO.2 ⟨hg',e2''⟩) hne hm hl
 .rcases (aV hil j).1 hj with rfl|hl
  .have:o2=o:=by have:=hf2.1;rw[ho] at this;cases this;rfl
   subst this
   have:ob2=ob:=by
     have h1:(H (j+1)).get (H j).size=some ob:=by rw[hp,Heap.bq,if_pos rfl]
     have h2:(H (j+1)).get (H j).size=some ob2:=by rw[hp2,Heap.bq,if_pos rfl]
     rw[h1] at h2;cases h2;rfl
   subst this;refine⟨_,hat,by rw[nF];exact ML _,?_,λg' l' e' hne=>?_,λC e=>by have:=hfz _ C e;simp at this⟩
   · show iL _ _ _ (w.alloc o').heap[w.heap.size]?
     rw[yc];exact (hs _ (H j).size (dS (by omega) hext) (aO.2 ⟨by omega,hat⟩)).1
   · rcases hcase g' l' e' with⟨q,_⟩|⟨_,e''⟩
     .exact absurd q hne
     .have:=hbl g' l' e''
      show l'.blk≠w.heap.size
      omega
  .obtain⟨l,q1,q2,q3,q4,q5⟩:=I.early j o2 ob2 hl hm hf2 hp2;refine⟨l,hext.at_ _ _ q1,by rw[nF];omega,?_,λg' l' e' hne=>?_,q5⟩
   · rw[pM q2];exact q3.mono (dS (LV _) hext)
   · rcases hcase g' l' e' with⟨_,rfl⟩|⟨_,e''⟩
     .show w.heap.size≠l.blk
      omega
     .exact q4 g' l' e'' hne
 .have hj':¬ aG L j:=λh=>hj ((aV hil j).2 (.inr h));have hji:j≠i:=λh=>hj ((aV hil j).2 (.inl h));obtain⟨q1,q2⟩:=I.late j o2 ob2 hj' hm hf2 hp2;refine⟨q1,?_⟩;rw[Inj.add_get,if_neg (λe=>hji (T.Cj hf2 hf e))];exact q2
 .rcases hcase g l e with⟨rfl,_⟩|⟨_,e'⟩
  .exact T.size_le (L1 i) (MG hi)
  .exact I.fresh g l e' e0
 .rcases hcase g l e with⟨_,rfl⟩|⟨_,e'⟩
  .exact .inl I.wsize
  .exact I.own g l e' e0
theorem Inv.qQ(T:Txt P N ops (H 0) F E H V)(hd:fS ops=true)(I:Inv N ops E H V ι0 w0 L a w ι m){i:Nat}{o:Oper}(ho:ops[i]?=some o)(hr:i∈MQ .any ops L)
  (D0:∀g l,ι0 g=some l->g<(H 0).size) (hc:aW o=true) (hmi:m<=i) (hno:∀c o',m<=c->c<i->ops[c]?=some o'->aW o'=true->False) {ι1:Inj} {w':World} {v':Value}
  (hrel:HRel N ι1 (H (i+1)) w') (hst:Step N (cut ι (H i).size) (H i) w ι1 (H (i+1)) w') (hv:VRel ι1 (V i) v') :
  Inv N ops E H V ι0 w0 (L.setIfInBounds i true) (a.put o.dst v') w' ⟨λg=>if g<(H (i+1)).size then ι1 g else ι g,ι1.fz⟩ (i+1):=by
 obtain⟨hnl,hil⟩:=dB hr;have hi:i<ops.size:=(L3.1 ho).1;have hx:Ext (H m) (H i):=T.ext (MG hi) hmi (λc o' c1 c2 c3 c4=>(hno c o' c1 c2 c3 c4).elim);have hs1:(H i).size<=(H (i+1)).size:=T.tE hi;generalize hι:(⟨λg=>if g<(H (i+1)).size then ι1 g else ι g,ι1.fz⟩:Inj)=ι'
 have ιfz:ι'.fz=ι1.fz:=by rw[<- hι]
 have ιlt:∀g,g<(H (i+1)).size->ι' g=ι1 g:=λg hg=>by rw[<- hι];simp[hg]
 have ιge:∀g,¬ g<(H (i+1)).size->ι' g=ι g:=λg hg=>by rw[<- hι];simp[hg]
 have cutι:cut ι' (H (i+1)).size=ι1:=by
  have:(λg=>if g<(H (i+1)).size then ι' g else none)=ι1.at_:=by
   funext g;by_cases q:g<(H (i+1)).size
   .rw[if_pos q,ιlt g q]
   .rw[if_neg q]
    cases e:ι1 g with
    |none=>rfl
    |some l=>exact absurd (hrel.dom g l e) q
  unfold cut;rw[this,ιfz]
 have hdom:∀g l,ι g=some l->g<(H i).size\/(¬ g<(H (i+1)).size/\∃j o',aG L j/\i+1<=j/\Fl ops E j o'/\g=(H j).size):=by
  intro g l e
  rcases I.dom g l e with h|⟨j,o',h1,h2,h3,h4⟩
  .exact .inl (Mr h hx.1)
  .have hjn:=(L3.1 h3.1).1
   rcases OT j i with c|c|c
   .left;have:=T.size_le (i:=j+1) (j:=i) c (MG hi);have:=T.ow h3;omega
   .subst c;exact absurd h1 hnl
   .right;have:=T.size_le (i:=i+1) (j:=j) c (MG hjn);exact⟨by omega,j,o',h1,c,h3,h4⟩
 have hext:Inj.Le ι ι':=by
  refine⟨λg l e=>?_,λb C e=>by rw[ιfz];exact hst.ext.fz b C e⟩
  rcases hdom g l e with h|⟨h,_⟩
  .rw[ιlt g (by omega)];exact hst.ext.at_ g l (aO.2 ⟨h,e⟩)
  .rw[ιge g h];exact e
 have hbl:∀g l,ι g=some l->l.blk<w.heap.size:=by
  intro g l e
  rcases I.dom g l e with h|⟨j,o2,h1,h2,h3,rfl⟩
  .exact I.rel.blk g l (aO.2 ⟨h,e⟩)
  .obtain⟨ob2,_,_,_,hp2⟩:=T.new h3;obtain⟨l2,q1,q2,_⟩:=I.early j o2 ob2 h1 h2 h3 hp2;rw[e] at q1;cases q1;exact q2
 have hv':VRel (cut ι' (H (i+1)).size) (V i) v':=by rw[cutι];exact hv
 refine {
  lsize:=(by simp[I.lsize]),closed:=I.qA hr,m_le:=hi,mtop:=.inr ⟨i,o,rfl,ho,hc⟩,chain:=λj o2 ho2 hc2=>?_,defers:=(by rw[put_defers,I.defers]),tsize:=(by rw[wH,I.tsize]),temps:=(I.tO hd ho hr hext hv'),
  dom:=λg l e=>?_,rel:=(by rw[cutι];exact hrel),early:=λj o2 ob2 hj hm hf2 hp2=>?_,late:=λj o2 ob2 hj hm hf2 hp2=>?_,
  ext:=I.ext.trans hext,fresh:=λg l e e0=>?_,own:=λg l e e0=>?_,wsize:=Mf I.wsize hst.wsize,
  frame:=λb hb hn=>?_,out:=⟨hst.out.1.trans I.out.1,hst.out.2.1.trans I.out.2.1,hst.out.2.2.1.trans I.out.2.2.1,λz=>Mf (I.out.2.2.2 z) (hst.out.2.2.2 z)⟩,keep:=λg hg hm=>?_,keepl:=λg hg hl=>?_,others:=λg hg e=>?_,fzown:=λb C e e0=>?_ }
 .rw[aV hil];by_cases q:j=i
  .subst q;exact⟨λ_=>ML j,λ_=>.inl rfl⟩
  .have h1:=I.chain j o2 ho2 hc2;refine⟨λh=>?_,λh=>.inr (h1.2 ?_)⟩
   .have:=h1.1 (h.resolve_left q);omega
   .rcases Oe j m with c|c
    .exact c
    .exact (hno j o2 c (by omega) ho2 hc2).elim
 .by_cases q:g<(H (i+1)).size
  .exact .inl q
  .rw[ιge g q] at e
   rcases hdom g l e with h|⟨_,j,o',h1,h2,h3,h4⟩
   .omega
   .exact .inr ⟨j,o',(aV hil j).2 (.inr h1),h2,h3,h4⟩
 .have hl:aG L j:=by
   rcases (aV hil j).1 hj with rfl|hl
   .omega
   .exact hl
  obtain⟨l,q1,q2,q3,q4,q5⟩:=I.early j o2 ob2 hl (by omega) hf2 hp2;have hjn:=(L3.1 hf2.1).1
  have hge:¬ (H j).size<(H (i+1)).size:=by
   have:=T.size_le (i:=i+1) (j:=j) hm (MG hjn);omega
  have hw:w'.heap[l.blk]?=w.heap[l.blk]?:=hst.frame l.blk q2 (λg' l' e' _=>q4 g' l' (iM _ _ e') (λe=>by
   have:=(aO.1 e').1
   rw[e] at this;omega))
  refine⟨l,hext.at_ _ _ q1,Mr q2 hst.wsize,by rw[hw];exact q3.mono (dS (LV _) hext),λg' l' e' hne=>?_,λC e=>?_⟩;rotate_left 1
  .rw[ιfz] at e
   cases e0:ι.fz l.blk with
   |some C0=>exact q5 C0 e0
   |none =>
    rcases hst.fzown l.blk C e e0 with h|⟨g0,l0,h1,h2⟩
    .omega
    .exact q4 g0 l0 (iM _ _ h1) (λe=>by have:=(aO.1 h1).1;rw[e] at this;omega) h2
  by_cases q:g'<(H (i+1)).size
  .rw[ιlt g' q] at e'
   cases e0:cut ι (H i).size g' with
   |some l0 =>
    have:=hst.ext.at_ g' l0 e0;rw[e'] at this;cases this;exact q4 g' l' (iM _ _ e0) hne
   |none =>
    rcases hst.own g' l' e' e0 with h|⟨g0,l0,h1,h2,h3⟩
    .omega
    .rw[<- h3];exact q4 g0 l0 (iM _ _ h1) (λe=>by have:=(aO.1 h1).1;rw[e] at this;omega)
  .rw[ιge g' q] at e';exact q4 g' l' e' hne
 .have hj':¬ aG L j:=λh=>hj ((aV hil j).2 (.inr h));have hji:j≠i:=λh=>hj ((aV hil j).2 (.inl h))
  have hjlt:j<i:=by omega
  have hsj:(H j).size<(H i).size:=by
   have:=T.size_le (i:=j+1) (j:=i) hjlt (MG hi);have:=T.ow hf2;omega
  have hboth:(H i).get (H j).size=some ob2/\ι (H j).size=none:=by
   rcases Oe j m with c|c
   .obtain⟨q1,q2⟩:=I.late j o2 ob2 hj' c hf2 hp2;refine⟨?_,q2⟩;rw[hx.2 _ (Heap.ai q1)];exact q1
   .refine⟨?_,?_⟩
    .have hx2:=T.ext (m:=j+1) (MG hi) hjlt (λc' o' c1 c2 c3 c4=>(hno c' o' (by omega) c2 c3 c4).elim);rw[hx2.2 _ (by rw[hp2];exact ML _),hp2,Heap.bq,if_pos rfl]
    .cases q:ι (H j).size with
     |none=>rfl
     |some l =>
      rcases I.dom _ l q with h|⟨k,o3,h1,h2,h3,h4⟩
      .have:=T.size_le c (MG (RX hjlt hi));omega
      .have:=T.Cj hf2 h3 h4;subst this;exact absurd h1 hj'
  have hcn:cut ι (H i).size (H j).size=none:=by
   show (if (H j).size<(H i).size then ι (H j).size else none)=none
   rw[if_pos hsj];exact hboth.2
  refine⟨?_,?_⟩
  .rw[hst.others _ hsj hcn];exact hboth.1
  .rw[ιlt _ (by omega)]
   cases q:ι1 (H j).size with
   |none=>rfl
   |some l=>have:=hst.fresh _ l q hcn;omega
 .by_cases q:g<(H (i+1)).size
  .rw[ιlt g q] at e
   cases e1:cut ι (H i).size g with
   |some l0=>exact I.fresh g l0 (iM _ _ e1) e0
   |none=>exact Mf (T.size_le (L1 i) (MG hi)) (hst.fresh g l e e1)
  .rw[ιge g q] at e;exact I.fresh g l e e0
 .by_cases q:g<(H (i+1)).size
  .rw[ιlt g q] at e
   cases e1:cut ι (H i).size g with
   |some l0 =>
    have:=hst.ext.at_ g l0 e1;rw[e] at this;cases this;exact I.own g l (iM _ _ e1) e0
   |none =>
    rcases hst.own g l e e1 with h|⟨g1,l1,h1,h2,h3⟩
    .exact .inl (Mf I.wsize h)
    .cases e2:ι0 g1 with
     |none =>
      rcases I.own g1 l1 (iM _ _ h1) e2 with h4|⟨g2,l2,h4,h5,h6⟩
      .exact .inl (h3 ▸ h4)
      .exact .inr ⟨g2,l2,h4,h5,h6.trans h3⟩
     |some l2 =>
      have:=I.ext.at_ g1 l2 e2;rw[iM _ _ h1] at this;cases this;have c:=D0 g1 l1 e2;refine .inr ⟨g1,l1,e2,I.keep g1 c ?_,h3⟩;have hgm:g1<(H m).size:=Mr c (T.size_le (L1 m) (Mf hmi (MG hi)));obtain⟨ob,k1,k2⟩:=h2;rw[hx.2 g1 hgm] at k1;exact⟨ob,k1,k2⟩
  .rw[ιge g q] at e;exact I.own g l e e0
 .have:∀g l,cut ι (H i).size g=some l->(H i).mut g->l.blk≠b:=by
   intro g l e hm
   cases e0:ι0 g with
   |some l0 =>
    have h1:=I.ext.at_ g l0 e0;rw[iM _ _ e] at h1;cases h1;have c:=D0 g l e0;refine hn g l e0 (I.keep g c ?_);have hgm:g<(H m).size:=Mr c (T.size_le (L1 m) (Mf hmi (MG hi)));obtain⟨ob,k1,k2⟩:=hm;rw[hx.2 g hgm] at k1;exact⟨ob,k1,k2⟩
   |none =>
    rcases I.own g l (iM _ _ e) e0 with h1|⟨g0,l0,h1,h2,h3⟩
    .omega
    .rw[<- h3];exact hn g0 l0 h1 h2
  rw[hst.frame b (Mr hb I.wsize) this];exact I.frame b hb hn
 .have h1:=hst.keep g (Mr hg (T.size_le (L1 i) (MG hi))) hm;obtain⟨ob,k1,k2⟩:=h1;rw[hx.2 g (Mr hg (T.size_le (L1 m) (Mf hmi (MG hi))))] at k1;exact I.keep g hg ⟨ob,k1,k2⟩
 .have h1:=hst.keepl g (Mr hg (T.size_le (L1 i) (MG hi))) hl;obtain⟨ob,k1,k2⟩:=h1;rw[hx.2 g (Mr hg (T.size_le (L1 m) (Mf hmi (MG hi))))] at k1;exact I.keepl g hg ⟨ob,k1,k2⟩
 .have hgi:g<(H i).size:=Mr hg (T.size_le (L1 i) (MG hi))
  have hcn:cut ι (H i).size g=none:=by
   show (if g<(H i).size then ι g else none)=none
   rw[if_pos hgi]
   cases q:ι g with
   |none=>rfl
   |some l=>have:=I.fresh g l q e;omega
  rw[hst.others g hgi hcn,hx.2 g (Mr hg (T.size_le (L1 m) (Mf hmi (MG hi))))];exact I.others g hg e
 .rw[ιfz] at e
  cases e1:ι.fz b with
  |some C1=>exact I.fzown b C1 e1 e0
  |none =>
   rcases hst.fzown b C e e1 with h|⟨g0,l0,h1,h2⟩
   .exact .inl (Mf I.wsize h)
   .have h1':=iM _ _ h1
    cases e2:ι0 g0 with
    |some l1 =>
     have:=I.ext.at_ g0 l1 e2;rw[h1'] at this;cases this;exact .inr ⟨g0,l0,e2,h2⟩
    |none =>
     rcases I.own g0 l0 h1' e2 with h3|⟨g1,l1,h3,_,h4⟩
     .exact .inl (h2 ▸ h3)
     .exact .inr ⟨g1,l1,h3,h4.trans h2⟩
end
end Go.Abs
