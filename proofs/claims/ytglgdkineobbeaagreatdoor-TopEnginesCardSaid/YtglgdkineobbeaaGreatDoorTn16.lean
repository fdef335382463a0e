/- Parts of the proof. -/
import Derived.Test.YtglgdkineobbeaaGreatDoorTn15
open Go.Region renaming binds->NS,wanted->Mz
namespace Go.Abs
def cut(ι:Inj)(s:Nat):Inj:=⟨λg=>if g<s then ι g else none,ι.fz⟩
theorem aO{ι:Inj}{s g:Nat}{l:Loc}:cut ι s g=some l↔g<s/\ι g=some l:=by
 unfold cut
 by_cases c:g<s <;> simp[c]
theorem dS{ι ι':Inj}{s s':Nat}(hs:s<=s')(h:Inj.Le ι ι'):Inj.Le (cut ι s) (cut ι' s'):=by
 refine⟨λg l e=>?_,h.fz⟩;rw[aO] at e ⊢;exact⟨by omega,h.at_ _ _ e.2⟩
theorem iM{ι:Inj}{s:Nat}:∀g l,cut ι s g=some l->ι g=some l:=λ_ _ e=>(aO.1 e).2
theorem VRel.IB{κ ι ι':Inj}(hk:∀g,κ g≠none->∀l,ι g=some l->ι' g=some l)(hf:∀b C,ι.fz b=some C->ι'.fz b=some C){v u:Value}(r:VRel κ v u):∀{v':Value},VRel ι v v'->VRel ι' v v':=by
 induction r with
 |bool b=>intro v' q;cases q;exact .bool b
 |int k n=>intro v' q;cases q;exact .int k n
 |str s=>intro v' q;cases q;exact .str s
 |ptrNil=>intro v' q;cases q;exact .ptrNil
 |ptr g off l hl=>intro v' q;cases q with|ptr _ _ l' hl'=>exact .ptr g off l' (hk g (by simp[hl]) l' hl')
 |sliceNil=>intro v' q;cases q;exact .sliceNil
 |slice g off len cap o l hl h1 h2=>intro v' q;cases q with|slice _ _ _ _ o' l' hl' h1' h2'=>exact .slice g off len cap o' l' (hk g (by simp[hl]) l' hl') h1' h2'
 |sliceOpen g off s len cap cap' o l hl h1 h2 h3 h4=>intro v' q;cases q with|sliceOpen _ _ _ _ _ c' o' l' hl' h1' h2' h3' h4'=>exact .sliceOpen g off s len cap c' o' l' (hk g (by simp[hl]) l' hl') h1' h2' h3' h4'
 |mapNil=>intro v' q;cases q;exact .mapNil
 |map g l hl=>intro v' q;cases q with|map _ l' hl'=>exact .map g l' (hk g (by simp[hl]) l' hl')
 |func f a b a' b' h1 h2 h3 h4 i3 i4=>intro v' q;cases q with|func _ _ _ a'' b'' g1 g2 g3 g4=>exact .func f a b a'' b'' g1 g2 (λi=>i3 i (g3 i)) (λi=>i4 i (g4 i))
 |nilFunc=>intro v' q;cases q;exact .nilFunc
 |nilIface=>intro v' q;cases q;exact .nilIface
 |fnNil s=>intro v' q;cases q with
  |fnNil _=>exact .fnNil s
  |fn _ _ b o cap hne _=>exact absurd rfl hne
 |fn s es b o cap hne _ ih=>intro v' q;cases q with
  |fnNil _=>exact absurd rfl hne
  |fn _ _ b' o' cap' _ h'=>exact .fn s es b' o' cap' hne (ih h')
 |fcNil s=>intro v' q;cases q with
  |fcNil _=>exact .fcNil s
  |fcEmpty _ a=>exact .fcEmpty s a
  |fc _ _ b o hne _=>exact absurd rfl hne
 |fcEmpty s a=>intro v' q;cases q with
  |fcNil _=>exact .fcNil s
  |fcEmpty _ a=>exact .fcEmpty s a
  |fc _ _ b o hne _=>exact absurd rfl hne
 |fc s es b o hne _ ih=>intro v' q;cases q with
  |fcNil _=>exact absurd rfl hne
  |fcEmpty _ a=>exact absurd rfl hne
  |fc _ _ b' o' _ h'=>exact .fc s es b' o' hne (ih h')
 |flNil s=>intro v' q;cases q with
  |flNil _=>exact .flNil s
  |flEmpty _ a cap=>exact .flEmpty s a cap
  |fl _ _ b o cap C h0 h1=>exact absurd rfl h1
 |flEmpty s a cap=>intro v' q;cases q with
  |flNil _=>exact .flNil s
  |flEmpty _ a cap=>exact .flEmpty s a cap
  |fl _ _ b o cap C h0 h1=>exact absurd rfl h1
 |fl s es b o cap C h0 h1 h2 h3 h4 h5 ih=>intro v' q;cases q with
  |flNil _=>exact .flNil s
  |flEmpty _ a cap=>exact .flEmpty s a cap
  |fl _ _ b' o' cap' C' k0 k1 k2 k3 k4 k5=>exact .fl s es b' o' cap' C' (hf _ _ k0) k1 k2 k3 k4 (λi hi=>ih i hi (k5 i hi))
 |fp v b o C h0 h1 h2 ih=>intro v' q;cases q with
  |fp _ b' o' C' k0 k1 k2=>exact .fp v b' o' C' (hf _ _ k0) k1 (λi hi=>ih i hi (k2 i hi))
 |fe a=>intro v' q;cases q with
  |fe a'=>exact .fe a'
 |agg a a' h1 h2 i2=>intro v' q;cases q with|agg _ a'' g1 g2=>exact .agg a a'' g1 (λi=>i2 i (g2 i))
 |unit=>intro v' q;cases q with
  |unit=>exact .unit
  |tuple _ a'' g1 g2=>exact .tuple _ a'' g1 (λi=>by simpa[LW,Ny (show a''.size<=i by have:=g1;simp at this;omega)] using VRel.nothing ι')
 |tuple a a' h1 h2 i2=>intro v' q;cases q with
  |unit=>exact .unit
  |tuple _ a'' g1 g2=>exact .tuple a a'' g1 (λi=>i2 i (g2 i))
section
variable {P:Program} {N:Nat} {ops:Array Oper} {h0:Heap} {F:Bool} {E:Nat->Env} {H:Nat->Heap} {V:Nat->Value}
def Fl(ops:Array Oper)(E:Nat->Env)(i:Nat)(o:Oper):Prop:=ops[i]?=some o/\yR o=true/\Mz o (aQ ops (E i))=true
theorem Txt.tE(T:Txt P N ops h0 F E H V){i:Nat}(hi:i<ops.size):(H i).size<=(H (i+1)).size:=by
 obtain⟨o,ho⟩:∃o,ops[i]?=some o:=⟨_,Me hi⟩
 cases hw:Mz o (aQ ops (E i)) with
 |true=>exact (T.yes i o ho hw).1.size
 |false=>rw[(T.no i o ho hw).2];exact LV _
theorem Txt.size_le(T:Txt P N ops h0 F E H V){i j:Nat}(hij:i<=j)(hj:j<=ops.size):(H i).size<=(H j).size:=by
 induction j with
 |zero =>
    have:i=0:=by omega
    subst this;exact LV _
 |succ j ih =>
  by_cases c:i<=j
  .exact Mf (ih c (by omega)) (T.tE (by omega))
  .have:i=j+1:=by omega
   subst this;exact LV _
theorem Txt.new(T:Txt P N ops h0 F E H V){i:Nat}{o:Oper}(hf:Fl ops E i o):∃ob f,ew P (E i).eval o=some (ob,f)/\V i=f (H i).size/\H (i+1)=(H i).push ob:=by
 obtain⟨ho,hn,hw⟩:=hf;have:=(T.yes i o ho hw).1;unfold OpD at this;unfold yR at hn
 cases hc:cls o.op <;> simp[hc] at hn
 simpa only[hc] using this
theorem Txt.ow(T:Txt P N ops h0 F E H V){i:Nat}{o:Oper}(hf:Fl ops E i o):(H (i+1)).size=(H i).size+1:=by
 obtain⟨ob,f,_,_,h3⟩:=T.new hf;rw[h3];rfl
theorem Txt.Cj(T:Txt P N ops h0 F E H V){i j:Nat}{o o':Oper}(hi:Fl ops E i o)(hj:Fl ops E j o')(e:(H i).size=(H j).size):i=j:=by
 have hi':=(L3.1 hi.1).1;have hj':=(L3.1 hj.1).1
 rcases OT i j with c|c|c
 .have h1:=T.size_le (i:=i+1) (j:=j) c (by omega);have h2:=T.ow hi;omega
 .exact c
 .have h1:=T.size_le (i:=j+1) (j:=i) c (by omega);have h2:=T.ow hj;omega
theorem Txt.ext(T:Txt P N ops h0 F E H V){m i:Nat}(hi:i<=ops.size)(hmi:m<=i)(hc:∀c o,m<=c->c<i->ops[c]?=some o->aW o=true->Mz o (aQ ops (E c))=true->Ext (H c) (H (c+1))):Ext (H m) (H i):=by
 induction i with
 |zero =>
      have:m=0:=by omega
      subst this;exact Ext.refl _
 |succ i ih =>
  by_cases c:m<=i
  .refine (ih (by omega) c (λc' o h1 h2=>hc c' o h1 (by omega))).trans ?_;obtain⟨o,ho⟩:∃o,ops[i]?=some o:=⟨_,Me (by omega)⟩
   cases hw:Mz o (aQ ops (E i)) with
   |false=>rw[(T.no i o ho hw).2];exact Ext.refl _
   |true =>
    have hd:=(T.yes i o ho hw).1;unfold OpD at hd
    cases hcl:cls o.op with
    |pure=>simp only[hcl] at hd;rw[hd.2];exact Ext.refl _
    |read=>simp only[hcl] at hd;rw[hd.2];exact Ext.refl _
    |new =>
     simp only[hcl] at hd;obtain⟨ob,f,_,_,h3⟩:=hd;rw[h3];exact⟨NB _,λg hg=>by rw[Heap.bq,if_neg (by omega)]⟩
    |eff=>exact hc i o c (by omega) ho (by simp[aW,hcl]) hw
    |call=>exact hc i o c (by omega) ho (by simp[aW,hcl]) hw
  .have:m=i+1:=by omega
   subst this;exact Ext.refl _
theorem Txt.keep(T:Txt P N ops h0 F E H V){i m:Nat}(hm:m<=ops.size)(him:i<=m){Q:Heap->Prop}(hx:∀h h',Ext h h'->Q h->Q h')(hc:∀c o,i<=c->c<m->ops[c]?=some o->aW o=true->Mz o (aQ ops (E c))=true->Q (H c)->Q (H (c+1)))(hq:Q (H i)):Q (H m):=by
 induction m with
 |zero =>
  have:i=0:=by omega
  subst this;exact hq
 |succ m ih =>
  by_cases c:i<=m
  .have q:=ih (by omega) c (λc' o h1 h2=>hc c' o h1 (by omega));obtain⟨o,ho⟩:∃o,ops[m]?=some o:=⟨_,Me (by omega)⟩;by_cases hch:aW o=true/\Mz o (aQ ops (E m))=true
   .exact hc m o c (ML _) ho hch.1 hch.2 q
   .exact hx _ _ (T.ext hm (NB m) λc' o' k1 k2 k3 k4 k5=>by
     have:c'=m:=by omega
     subst this;rw[ho] at k3;cases k3
     exact absurd ⟨k4,k5⟩ hch) q
  .have:i=m+1:=by omega
   subst this;exact hq
theorem Txt.still(T:Txt P N ops h0 F E H V){i k:Nat}{a:Tmp}(hk:k<=ops.size)(hik:i<=k)(h:∀j y,i<=j->j<k->ops[j]?=some y->y.dst≠some a):(E k).get a=(E i).get a:=by
 induction k with
 |zero =>
  have:i=0:=by omega
  subst this;rfl
 |succ k ih =>
  by_cases c:i<=k
  .rw[<- ih (by omega) c (λj y h1 h2=>h j y h1 (by omega))];obtain⟨o,ho⟩:∃o,ops[k]?=some o:=⟨_,Me (by omega)⟩;rw[T.put k o ho];have hd:=h k o c (ML _) ho
   cases e:o.dst with
   |none=>rfl
   |some d =>
    show ((E k).set d _).get a=_
    rw[Env.dq,if_neg];rintro rfl;exact hd e
  .have:i=k+1:=by omega
   subst this;rfl
theorem Txt.Hp(T:Txt P N ops h0 F E H V):∀{i:Nat},i<=ops.size->(E i).n=(E 0).n
 |0,_=>rfl
 |i+1,hi=>by
  obtain⟨o,ho⟩:∃o,ops[i]?=some o:=⟨_,Me (by omega)⟩;rw[T.put i o ho,Env.er,Txt.Hp T (by omega)]
def eS(ops:Array Oper)(t:Tmp)(j:Nat):Prop:=∃o,ops[j]?=some o/\o.dst=some t
def uP(ops:Array Oper)(E:Nat->Env)(H:Nat->Heap)(V:Nat->Value)(S:Nat->Prop)(t:Tmp)(v:Value)(s:Nat):Prop :=
 (∃j,S j/\eS ops t j/\(∀j',S j'->eS ops t j'->j'<=j)/\v=V j/\s=(H (j+1)).size) \/
 ((∀j,S j->¬ eS ops t j)/\v=(E 0).get t/\s=(H 0).size)
theorem uP.unique{S:Nat->Prop}{t:Tmp}{v v':Value}{s s':Nat}(a:uP ops E H V S t v s)(b:uP ops E H V S t v' s'):v=v'/\s=s':=by
 rcases a with⟨j,a1,a2,a3,rfl,rfl⟩|⟨a1,rfl,rfl⟩ <;> rcases b with⟨k,b1,b2,b3,rfl,rfl⟩|⟨b1,rfl,rfl⟩
 .have:=a3 k b1 b2;have:=b3 j a1 a2
  have:j=k:=by omega
  subst this;exact⟨rfl,rfl⟩
 .exact absurd a2 (b1 j a1)
 .exact absurd b2 (a1 k b1)
 .exact⟨rfl,rfl⟩
theorem uP.congr{S S':Nat->Prop}{t:Tmp}{v:Value}{s:Nat}(hS:∀j,eS ops t j->(S j↔S' j))(a:uP ops E H V S t v s):uP ops E H V S' t v s:=by
 rcases a with⟨j,a1,a2,a3,rfl,rfl⟩|⟨a1,rfl,rfl⟩
 .exact .inl ⟨j,(hS j a2).1 a1,a2,λk b1 b2=>a3 k ((hS k b2).2 b1) b2,rfl,rfl⟩
 .exact .inr ⟨λj b1 b2=>a1 j ((hS j b2).2 b1) b2,rfl,rfl⟩
theorem Txt.val(T:Txt P N ops h0 F E H V)(t:Tmp):∀{i:Nat},i<=ops.size->∃s,s<=(H i).size/\uP ops E H V (· < i) t ((E i).get t) s
 |0,_=>⟨_,LV _,.inr ⟨λj hj=>absurd hj (Mu j),rfl,rfl⟩⟩
 |i+1,hi=>by
  obtain⟨o,ho⟩:∃o,ops[i]?=some o:=⟨_,Me (by omega)⟩;obtain⟨s,h1,h2⟩:=Txt.val T t (i:=i) (by omega);rw[T.put i o ho];by_cases c:o.dst=some t
  .refine⟨_,LV _,.inl ⟨i,ML i,⟨o,ho,c⟩,λj' hj' _=>by omega,?_,rfl⟩⟩;simp only[Env.put,c,Env.dq,if_true]
  .have:((E i).put o.dst (V i)).get t=(E i).get t:=by
    cases hd:o.dst with
    |none=>rfl
    |some d=>simp only[Env.put,Env.dq];rw[if_neg (λe=>c (by rw[hd,e]))]
   rw[this];refine⟨s,Mf h1 (T.tE (by omega)),h2.congr λj hj=>?_⟩
   have:j≠i:=by
    rintro rfl;obtain⟨o',ho',hd'⟩:=hj;rw[ho] at ho';cases ho';exact c hd'
   show j<i↔j<i+1
   omega
def aG(L:Array Bool)(j:Nat):Prop:=L.getD j false=true
structure Inv (N:Nat) (ops:Array Oper) (E:Nat->Env) (H:Nat->Heap) (V:Nat->Value) (ι0:Inj) (w0:World) (L:Array Bool) (a:Act) (w:World) (ι:Inj) (m:Nat):Prop where
 lsize:L.size=ops.size
 closed:∀j o,aG L j->ops[j]?=some o->∀ed∈o.after,NS .any ed=true->aG L ed.on
 m_le:m<=ops.size
 mtop:m=0\/∃k o,m=k+1/\ops[k]?=some o/\aW o=true
 chain:∀j o,ops[j]?=some o->aW o=true->(aG L j↔j<m)
 defers:a.defers=[]
 tsize:a.tmps.size=(E 0).n
 temps:∀t,t<(E 0).n->∃v s,uP ops E H V (aG L) t v s/\VRel (cut ι s) v (a.tmps.getD t undef)
 dom:∀g l,ι g=some l->g<(H m).size\/∃j o,aG L j/\m<=j/\Fl ops E j o/\g=(H j).size
 rel:HRel N (cut ι (H m).size) (H m) w
 early:∀j o ob,aG L j->m<=j->Fl ops E j o->H (j+1)=(H j).push ob->∃l,ι (H j).size=some l/\l.blk<w.heap.size/\iL (cut ι (H (j+1)).size) l ob w.heap[l.blk]? /\
  (∀g' l',ι g'=some l'->g'≠(H j).size->l'.blk≠l.blk)/\∀C,ι.fz l.blk≠some C
 late:∀j o ob,¬ aG L j->j<m->Fl ops E j o->H (j+1)=(H j).push ob->(H m).get (H j).size=some ob/\ι (H j).size=none
 ext:Inj.Le ι0 ι
 fresh:∀g l,ι g=some l->ι0 g=none->(H 0).size<=g
 own:∀g l,ι g=some l->ι0 g=none->w0.heap.size<=l.blk\/∃g0 l0,ι0 g0=some l0/\(H 0).mut g0/\l0.blk=l.blk
 wsize:w0.heap.size<=w.heap.size
 frame:∀b,b<w0.heap.size->(∀g l,ι0 g=some l->(H 0).mut g->l.blk≠b)->w.heap[b]?=w0.heap[b]?
 out:w.output=w0.output/\w.os=w0.os/\w.tape=w0.tape/\(N=0->w0.drawn<=w.drawn)
 keep:∀g,g<(H 0).size->(H m).mut g->(H 0).mut g
 keepl:∀g,g<(H 0).size->(H m).live g->(H 0).live g
 others:∀g,g<(H 0).size->ι0 g=none->(H m).get g=(H 0).get g
 fzown:∀b C,ι.fz b=some C->ι0.fz b=none->w0.heap.size<=b\/∃g0 l0,ι0 g0=some l0/\l0.blk=b
variable {ι0 ι:Inj} {w0 w:World} {L:Array Bool} {a:Act} {m:Nat}
theorem Inv.view(T:Txt P N ops h0 F E H V)(I:Inv N ops E H V ι0 w0 L a w ι m){i:Nat}(hi:i<=ops.size)(hmi:m<=i)
  (hc:∀c o,m<=c->c<i->ops[c]?=some o->aW o=true->Mz o (aQ ops (E c))=true->Ext (H c) (H (c+1))):HRel N (cut ι (H i).size) (H i) w:=by
 have hx:=T.ext hi hmi hc;have hsz:=hx.1
 have obj:∀g l ob,g<(H i).size->ι g=some l->(H i).get g=some ob->iL (cut ι (H i).size) l ob w.heap[l.blk]?/\l.blk<w.heap.size:=by
  intro g l ob hg e1 e2
  rcases I.dom g l e1 with hlt|⟨j,o,h1,h2,h3,rfl⟩
  .rw[hx.2 g hlt] at e2;exact⟨(I.rel.obj g l ob (aO.2 ⟨hlt,e1⟩) e2).mono (dS hsz (Inj.Le.refl ι)),I.rel.blk g l (aO.2 ⟨hlt,e1⟩)⟩
  .obtain⟨ob',f,_,_,hp⟩:=T.new h3;obtain⟨l',q1,q2,q3,_⟩:=I.early j o ob' h1 h2 h3 hp;rw[e1] at q1;cases q1
   have hji:j<i:=by
    rcases Oe j i with c|c
    .exact c
    .have:=T.size_le (i:=i) (j:=j) c (MG (L3.1 h3.1).1);omega
   have hx2:=T.ext (m:=j+1) hi hji (λc o' c1 c2=>hc c o' (by omega) c2)
   have:(H i).get (H j).size=some ob':=by
    rw[hx2.2 _ (by rw[hp];exact ML _),hp,Heap.bq,if_pos rfl]
   rw[this] at e2;cases e2;exact⟨q3.mono (dS hx2.1 (Inj.Le.refl ι)),q2⟩
 refine⟨λg l e=>(aO.1 e).1,λg l e=>?_,λg hg=>?_,λg l ob e1 e2=>?_,λg g' l l' e1 e2 hne hm hl=>?_,I.rel.frz,λb C g l e0 e1 hm=>?_,λg l cs e1 e2=>?_⟩;rotate_left 4
 .obtain⟨hg,e1⟩:=aO.1 e1
  rcases I.dom g l e1 with hlt|⟨j,o,h1,h2,h3,rfl⟩
  .refine I.rel.fzap b C g l e0 (aO.2 ⟨hlt,e1⟩) ?_;obtain⟨ob,q1,q2⟩:=hm;rw[hx.2 g hlt] at q1;exact⟨ob,q1,q2⟩
  .obtain⟨ob',f,_,_,hp⟩:=T.new h3;obtain⟨l',q1,_,_,_,q5⟩:=I.early j o ob' h1 h2 h3 hp;rw[e1] at q1;cases q1;rintro rfl;exact q5 C e0
 .obtain⟨hg,e1⟩:=aO.1 e1
  rcases I.dom g l e1 with hlt|⟨j,o,h1,h2,h3,rfl⟩
  .rw[hx.2 g hlt] at e2;exact I.rel.rofz g l cs (aO.2 ⟨hlt,e1⟩) e2
  .obtain⟨ob',f,hnew,_,hp⟩:=T.new h3
   have hji:j<i:=by
    rcases Oe j i with c|c
    .exact c
    .have:=T.size_le (i:=i) (j:=j) c (MG (L3.1 h3.1).1);omega
   have hx2:=T.ext (m:=j+1) hi hji (λc o' c1 c2=>hc c o' (by omega) c2)
   have:(H i).get (H j).size=some ob':=by
    rw[hx2.2 _ (by rw[hp];exact ML _),hp,Heap.bq,if_pos rfl]
   rw[this] at e2;cases e2;exact absurd rfl (vr hnew cs)
 rotate_right 4
 .obtain⟨hg,e'⟩:=aO.1 e
  rcases I.dom g l e' with hlt|⟨j,o,h1,h2,h3,rfl⟩
  .exact I.rel.blk g l (aO.2 ⟨hlt,e'⟩)
  .obtain⟨ob',f,_,_,hp⟩:=T.new h3;obtain⟨l',q1,q2,_⟩:=I.early j o ob' h1 h2 h3 hp;rw[e'] at q1;cases q1;exact q2
 .obtain⟨l,e1,e2,e3⟩:=I.rel.glob g hg;exact⟨l,(dS hsz (Inj.Le.refl ι)).at_ _ _ e1,e2,e3⟩
 .obtain⟨hg,e'⟩:=aO.1 e1;exact (obj g l ob hg e' e2).1
 .obtain⟨hg,e1⟩:=aO.1 e1;obtain⟨hg',e2⟩:=aO.1 e2
  rcases I.dom g l e1 with hlt|⟨j,o,h1,h2,h3,rfl⟩
  .rcases I.dom g' l' e2 with hlt' | ⟨j',o',h1',h2',h3',rfl⟩
   .refine I.rel.apart g g' l l' (aO.2 ⟨hlt,e1⟩) (aO.2 ⟨hlt',e2⟩) hne ?_ ?_
    .obtain⟨ob,q1,q2⟩:=hm;rw[hx.2 g hlt] at q1;exact⟨ob,q1,q2⟩
    .obtain⟨ob,q1,q2⟩:=hl;rw[hx.2 g' hlt'] at q1;exact⟨ob,q1,q2⟩
   .obtain⟨ob',f,_,_,hp⟩:=T.new h3';obtain⟨l2,q1,_,_,q4,_⟩:=I.early j' o' ob' h1' h2' h3' hp;rw[e2] at q1;cases q1;exact q4 g l e1 hne
  .obtain⟨ob',f,_,_,hp⟩:=T.new h3;obtain⟨l2,q1,_,_,q4,_⟩:=I.early j o ob' h1 h2 h3 hp;rw[e1] at q1;cases q1;exact NU (q4 g' l' e2 (NU hne))
theorem Inv.before(I:Inv N ops E H V ι0 w0 L a w ι m){i j:Nat}(h:Before ops i j):aG L j->aG L i:=by
 induction h with
 |edge ho hm hb=>exact λhj=>I.closed _ _ hj ho _ hm hb
 |more _ ho hm hb ih=>exact λhj=>ih (I.closed _ _ hj ho _ hm hb)
theorem hT{i j:Nat}(hcl:∀j o,aG L j->ops[j]?=some o->∀ed∈o.after,NS .any ed=true->aG L ed.on)(h:Before ops i j)(hr:j∈Region.ready .any ops L):aG L i:=by
 obtain⟨_,o',ho',he'⟩:=mem_ready.1 hr
 cases h with
 |edge ho hm hb=>rw[ho] at ho';cases ho';exact he' _ hm hb
 |more hh ho hm hb =>
  rw[ho] at ho';cases ho';have:=he' _ hm hb;exact closed_before hcl hh this
where
 closed_before {i j:Nat} (hcl:∀j o,aG L j->ops[j]?=some o->∀ed∈o.after,NS .any ed=true->aG L ed.on) (h:Before ops i j) (hj:aG L j):aG L i:=by
  induction h with
  |edge ho hm hb=>exact hcl _ _ hj ho _ hm hb
  |more _ ho hm hb ih=>exact ih (hcl _ _ hj ho _ hm hb)
end
end Go.Abs
