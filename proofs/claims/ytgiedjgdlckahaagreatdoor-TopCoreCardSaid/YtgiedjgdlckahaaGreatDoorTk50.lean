/-
  Co7, Co8, Co9, Tc1, TopCore: parts of the proof.
-/
import Derived.Test.YtgiedjgdlckahaaGreatDoorTk49c
namespace Go.Proofs.YtgiedjgdlckahaaGreatDoor
open Go.Abs
set_option maxRecDepth 100000
theorem gu {c:Circ}{f:Flt}:f∈bl c ↔ ∃ s,VS c s/\f=fltS s:=by
 unfold bl mu oS iB;rw[List.mem_flatMap];constructor
 ·rintro⟨x,hx,m⟩;obtain⟨i,hi,hx⟩:=List.mem_flatMap.1 hx;unfold vx at hx;obtain⟨j,hj,rfl⟩:=List.mem_map.1 hx;have hi:=List.mem_range.1 hi;have hj:=List.mem_range.1 hj;simp only[List.mem_cons,List.not_mem_nil,or_false] at m
  rcases m with rfl|rfl
  ·exact⟨⟨i,j,0⟩,⟨hi,by dsimp only;omega,by dsimp only;omega⟩,rfl⟩
  ·exact⟨⟨i,j,1⟩,⟨hi,by dsimp only;omega,by dsimp only;omega⟩,rfl⟩
 ·rintro⟨⟨n,p,v⟩,V,rfl⟩;have h1:=V.node;have h2:=V.pin;have h3:=V.v;dsimp only at h1 h2 h3;refine⟨⟨n,Int.ofNat p-Int.ofNat 1⟩,List.mem_flatMap.2 ⟨n,List.mem_range.2 h1,?_⟩,?_⟩
  ·unfold vx;exact List.mem_map.2 ⟨p,List.mem_range.2 (by omega),rfl⟩
  ·have:v=0\/v=1:=by omega
   simp only[List.mem_cons,List.not_mem_nil,or_false]
   rcases this with rfl|rfl
   ·exact .inl rfl
   ·exact .inr rfl
theorem HS {c:Circ} (C:Cir c):ListOk c (bl c):=by
 refine⟨Nat.le_trans (zu C) (by decide),fun f m _=>?_,fun f m K h=>?_⟩
 ·obtain⟨s,V,rfl⟩:=gu.1 m;exact AF V
 ·obtain⟨s,V,rfl⟩:=gu.1 m;exact vV C (AF V) h
theorem Gb (x:CData):0<(fR x).nodes.length:=by
 have hn:(fR x).nodes.length=(cH x).length:=iU _;rw[hn];exact E5 _
theorem DF {c:Circ}{l:List Flt}{f g:Flt} (hf:f∈l) (hg:g∈l):dn c l f=dn c l g↔dX c f=dX c g:=by
 constructor
 ·intro e;have h1:=kx (iG.2 ⟨f,hf,rfl⟩:dX c f∈ksF c l);have h2:=kx (iG.2 ⟨g,hg,rfl⟩:dX c g∈ksF c l);unfold dn at e;rw[e,h2] at h1;exact (Option.some.inj h1).symm
 ·intro e;unfold dn;rw[e]
theorem IF {c:Circ}{l:List Flt}{i:Nat}{row:List Nat} (h:(RN c l)[i]?=some row):∃ k,(ksF c l)[i]?=some k/\row=mn c l k:=by
 unfold RN at h;rw[List.getElem?_map] at h;obtain⟨k,hk,e⟩:=Option.map_eq_some_iff.1 h;exact⟨k,hk,e.symm⟩
theorem Hj {c:Circ}{l:List Flt}{i:Nat}{row:List Nat} (h:(RN c l)[i]?=some row) {m:Nat} (hm:m∈row):∃ f,l[m]?=some f/\dn c l f=i:=by
 obtain⟨k,hk,rfl⟩:=IF h;obtain⟨f,hf,e⟩:=uR.1 hm;refine⟨f,hf,?_⟩;unfold dn;rw[e];exact Gs (vM c l) hk
theorem Ah {c:Circ} (h:0<c.nodes.length):0<(bl c).length :=
 List.length_pos_of_mem (gu.2 ⟨⟨0,0,0⟩,⟨h,Nat.zero_le _,by decide⟩,rfl⟩)
def iy (l:List Nat) (n most:Nat):List Nat:=(List.range n).map fun i=>if l.length=0 then 2 else l.getD (i%l.length) 0%most
theorem sr (l:List Nat) (n most:Nat):iy l (n+1) most=iy l n most++[if l.length=0 then 2 else l.getD (n%l.length) 0%most]:=by
 unfold iy;rw[List.range_succ,List.map_append];rfl
theorem wQ {l:List Nat}{n most:Nat} (h0:0<most) (h4:most<=4):∀ v∈iy l n most,v<=3:=by
 intro v m;obtain⟨i,_,rfl⟩:=List.mem_map.1 m;split
 ·decide
 ·have:=Nat.mod_lt (l.getD (i%l.length) 0) h0;omega
theorem wZ {l:List Nat}{n most:Nat} (hn:n<=16) (h0:0<most) {K:List Nat->Prop} (h:K (iy l n most)):bB l n most K:=by
 unfold bB;refine aA (fun s=>s.2<=n/\s.1=iy l s.2 most) (fun s=>n-s.2) (fun r=>r=iy l n most) ?_ ⟨Nat.zero_le _,rfl⟩ fun r q=>q ▸ h;rintro k ⟨r,i⟩ nx ⟨hi,hr⟩ hnx hk;dsimp only at hi hr
 have hrl:r.length=i:=by rw[hr];unfold iy;simp
 refine⟨fun q=>?_,fun q=>hk _ ?_⟩
 ·have q:i<n:=aO.1 q;refine dG (fun r2=>r2=iy l (i+1) most) (fun k2 hk2=>⟨fun e=>⟨by rw[List.length_singleton];omega,hk2 _ ?_⟩,fun e=>?_⟩) fun r2 h2=>⟨by omega,hnx _ ⟨q,h2⟩ (by dsimp only;omega)⟩
  ·rw[sr,if_pos (dA.1 e),hr]
  ·have hp:0<l.length:=Nat.pos_of_ne_zero (cY.1 e);obtain⟨x,hx⟩:=av (Nat.mod_lt i hp);refine⟨hp,x,hx,h0,by rw[List.length_singleton];omega,hk2 _ ?_⟩
   have:l.getD (i%l.length) 0=x:=by rw[List.getD,hx];rfl
   rw[sr,if_neg (cY.1 e),hr,this]
 ·have q:n<=i:=bk.1 q
  obtain rfl:i=n:=by omega
  exact hr
theorem vY {c:Circ} (hc:c.nodes.length<=16) {k:Nat}{K:Nat->Prop} (h:K (ofN c [k]).length):bA c k K:=by
 unfold bA;rw[G0] at h;refine aA (fun s=>s.2<=c.nodes.length/\s.1=((List.range s.2).filter fun i=>decide (kd c i=k)).length) (fun s=>c.nodes.length-s.2) (fun r=>r=((List.range c.nodes.length).filter fun i=>decide (kd c i=k)).length) ?_ ⟨Nat.zero_le _,rfl⟩ (fun _ e=>e ▸ h);rintro kk ⟨m,i⟩ nx ⟨hi,hm⟩ hnx hk;dsimp only at hi hm;refine⟨fun q=>?_,fun q=>hk _ ?_⟩
 ·have q:i<c.nodes.length:=aO.1 q;obtain⟨x,hx⟩:=av q
  have hle:m<=i:=by rw[hm];exact HM
  refine dM (a:=((List.range (i+1)).filter fun i=>decide (kd c i=k)).length) (fun g=>⟨x,hx,fun e=>⟨by omega,?_⟩,fun e=>?_⟩) ⟨by omega,hnx _ ⟨q,rfl⟩ (by dsimp only;omega)⟩
  ·rw[Ek,if_pos (by rw[ia hx];exact decide_eq_true (dA.1 e)),List.length_append,<- hm] at g;exact g
  ·rw[Ek,if_neg (by rw[ia hx,decide_eq_true_eq];exact cY.1 e),List.append_nil,<- hm] at g;exact g
 ·have q:c.nodes.length<=i:=bk.1 q
  have:i=c.nodes.length:=by omega
  subst this;exact hm
def zm (c:Circ) (z:PData):Pat:=⟨iy z.inp (ofN c [0]).length 4,iy z.state (ofN c [14]).length 3⟩
theorem GX (c:Circ) (z:PData):PatOk c (zm c z) :=
 ⟨by unfold zm iy;simp,by unfold zm iy;simp,wQ (by decide) (by decide),wQ (by decide) (by decide)⟩
theorem G7 {c:Circ} (C:Cir c) {z:PData}{K:Pat->Prop} (h:K (zm c z)):fu z c K:=by
 have hlen:=C.len;have l1:=gT c [0];have l2:=gT c [14];unfold fu;exact vY hlen (wZ (by omega) (by decide) (vY hlen (wZ (by omega) (by decide) h)))
theorem Dz {k n:Nat}{r:Rul} (h:steerR k=some r):eqR k n=[r]:=by
 have hk:=ph h
 have:k=5\/k=6\/k=7\/k=8:=by omega
 rcases this with rfl|rfl|rfl|rfl <;> (cases h;unfold eqR;simp)
theorem GL {c:Circ}{n j:Nat}{r:Rul} (hr:steerR (kd c n)=some r):down c (domPin n j r)=none:=by
 cases e:down c (domPin n j r) with
 |none=>rfl
 |some w =>
  obtain⟨_,_,r',h1,h2,_⟩:=kN.1 e;rw[Dz hr,List.mem_singleton] at h1;subst h1;have:=uI hr;omega
theorem GU {c:Circ} (C:Cir c) {s:Si} (h:VS c s):lvl c (clsN c s)<=lvl c s :=
 B6 (P:=fun a d=>lvl c d<=lvl c a) (fun _ _=>Nat.le_refl _) (fun a b d h q=>by have:=Az C a b h;omega) h
theorem HA {c:Circ} (C:Cir c) {n j:Nat}{r:Rul} (hn:n<c.nodes.length) (hr:steerR (kd c n)=some r):lvl c (clsN c (domOut n r))<lvl c (clsN c (domPin n j r)):=by
 rw[Bw (GL hr)];have h1:=GU C (pU (r:=r) hn);have hk:=ph hr
 have h2:lvl c (domOut n r)=2*(16-n)+1:=by unfold lvl domOut;rw[if_pos rfl]
 have h3:lvl c (domPin n j r)=2*(16-n)+2:=by
  unfold lvl domPin;rw[if_neg (by simp),if_neg (by dsimp only;omega)]
 omega
structure ClsP (c:Circ) (D:Flt->Prop):Prop where
 same:∀ s t,VS c s->VS c t->clsN c s=clsN c t->D (fltS s)->D (fltS t)
 dom:∀ n j r,n<c.nodes.length->j<(insOf c n).length->steerR (kd c n)=some r->D (fltS (domPin n j r))->D (fltS (domOut n r))
theorem zn {c:Circ} (C:Cir c) {p:Pat} (hp:PatOk c p):ClsP c fun f=>fb c p f=true :=
 ⟨fun _ _ hs ht e h=>(Ex C hp hs ht e).symm.trans h,fun _ _ _ hn hj hr h=>GJ C hp hn hj hr h⟩
theorem Cc {c:Circ}{f:Flt} (hf:f∈bl c) {i:Nat}{s:Si} (h:dn c (bl c) f=i) (hs:fltS (clsN c s)∈ksF c (bl c)) (hi:(ksF c (bl c)).idxOf (fltS (clsN c s))=i):∃ t,VS c t/\f=fltS t/\clsN c t=clsN c s:=by
 obtain⟨t,vt,rfl⟩:=gu.1 hf;have h1:=kx (iG.2 ⟨_,hf,rfl⟩:dX c (fltS t)∈ksF c (bl c));have h2:=kx hs;unfold dn at h;rw[h] at h1;rw[hi,h1] at h2;rw[ka] at h2;exact⟨t,vt,rfl,sS (Option.some.inj h2)⟩
theorem ClsP.go {c:Circ}{D:Flt->Prop} (P:ClsP c D) {r:List N2} (R:DomOk c (ksF c (bl c)) r) {x:N2} (h:x∈r) {f g:Flt} (hf:f∈bl c) (hg:g∈bl c) (h1:dn c (bl c) f=x.a) (h2:dn c (bl c) g=x.b) (hd:D f):D g:=by
 obtain⟨n,ru,j,hn,hr,hj,k1,k2,rfl⟩:=sE.1 ((R.mem x).1 h);obtain⟨s,vs,rfl,es⟩:=Cc hf h1 k1 rfl;obtain⟨t,vt,rfl,et⟩:=Cc hg h2 k2 rfl;have v1:=tG (r:=ru) hn hj;have v2:=pU (r:=ru) hn;exact P.same _ _ v2 vt et.symm (P.dom n j ru hn hj hr (P.same _ _ vs v1 es hd))
theorem ClsP.one {c:Circ}{D:Flt->Prop} (P:ClsP c D) {f g:Flt} (hf:f∈bl c) (hg:g∈bl c) (h:dn c (bl c) f=dn c (bl c) g) (hd:D f):D g:=by
 have e:=(DF hf hg).1 h;obtain⟨s,vs,rfl⟩:=gu.1 hf;obtain⟨t,vt,rfl⟩:=gu.1 hg;rw[ka,ka] at e;exact P.same s t vs vt (sS e) hd
theorem Ha {c:Circ}{l:List Flt}{i:Nat}{row:List Nat} (h:(RN c l)[i]?=some row) {k m:Nat} (hm:row[k]?=some m):∃ f,l[m]?=some f/\f∈l/\dn c l f=i:=by
 obtain⟨f,h1,h2⟩:=Hj h (List.mem_of_getElem? hm);exact⟨f,h1,List.mem_of_getElem? h1,h2⟩
theorem qC {c:Circ}{l:List Flt}{i:Nat} (h:i<(ksF c l).length):∃ row x f,(RN c l)[i]?=some row/\row[0]?=some x/\0<row.length/\l[x]?=some f/\f∈l/\dn c l f=i:=by
 obtain⟨k,x,t,_,hrow,_⟩:=Gu h;obtain⟨f,h1,h2,h3⟩:=Ha hrow (show (x::t)[0]?=some x from rfl);exact⟨_,x,f,hrow,rfl,by simp,h1,h2,h3⟩
theorem tz (c:Circ) (l:List Flt) (r:List N2) (i:Nat):∀ n,i<=n->∃ s,eG c l r n=eG c l r i++s
 |0,h=>by
  obtain rfl:i=0:=by omega
  exact⟨[],rfl⟩
 |n+1,h=>by
  by_cases q:i=n+1
  ·subst q;exact⟨[],by simp⟩
  ·obtain⟨s,e⟩:=tz c l r i n (by omega);exact⟨s++jz c l r n,by rw[jb,e,List.append_assoc]⟩
theorem F9 {r:List N2}{i:Nat}:jh r i=true ↔ ∃ x∈r,x.b=i:=by
 unfold jh;rw[List.any_eq_true];constructor
 ·rintro⟨x,m,e⟩;exact⟨x,m,by simpa using e⟩
 ·rintro⟨x,m,e⟩;exact⟨x,m,by simpa using e⟩
theorem Gh {c:Circ} (C:Cir c) {D:Flt->Prop} (P:ClsP c D) {r:List N2} (R:DomOk c (ksF c (bl c)) r)
  (h:∀ j∈eG c (bl c) r (ksF c (bl c)).length,∀ f,(bl c)[j]?=some f->D f):∀ f∈bl c,D f:=by
 have key:∀ n s,VS c s->34-lvl c (clsN c s)<n->D (fltS s):=by
  intro n
  induction n with
  |zero=>intro s _ h;omega
  |succ n ih =>
   intro s vs hn;have hf:fltS s∈bl c:=gu.2 ⟨s,vs,rfl⟩;have hk:fltS (clsN c s)∈ksF c (bl c):=iG.2 ⟨_,hf,ka c s⟩;obtain⟨i,hi⟩:∃ i,dn c (bl c) (fltS s)=i:=⟨_,rfl⟩
   have hil:i<(ksF c (bl c)).length:=by
    rw[<- hi];unfold dn;rw[ka];exact List.idxOf_lt_length_iff.2 hk
   by_cases q:jh r i=true
   ·obtain⟨x,hx,hxb⟩:=F9.1 q;obtain⟨m,ru,j,hm,hr,hj,k1,k2,rfl⟩:=sE.1 ((R.mem x).1 hx);dsimp only at hxb;have v1:=tG (r:=ru) hm hj;have v2:=pU (r:=ru) hm
    have e:clsN c (domOut m ru)=clsN c s:=by
     have g1:=kx k2;have g2:=kx hk;unfold dn at hi;rw[ka] at hi;rw[hxb] at g1;rw[hi,g1] at g2;exact sS (Option.some.inj g2)
    have hl:=HA (j:=j) C hm hr;rw[e] at hl;have h34:=Ed c (clsN c (domPin m j ru));exact P.same _ _ v2 vs e (P.dom m j ru hm hj hr (ih _ v1 (by omega)))
   ·have q:jh r i=false:=by simpa using q
    obtain⟨row,x,f,a1,a2,_,a4,a5,a6⟩:=qC (c:=c) hil
    have hc:x∈eG c (bl c) r (ksF c (bl c)).length:=by
     obtain⟨t,e⟩:=tz c (bl c) r (i+1) _ hil;rw[e,jb];refine List.mem_append_left _ (List.mem_append_right _ ?_);unfold jz;rw[if_neg (by rw[q];decide)]
     have e1:(RN c (bl c)).getD i []=row:=by rw[List.getD,a1];rfl
     have e2:row.getD 0 0=x:=by rw[List.getD,a2];rfl
     rw[e1,e2];exact List.mem_singleton.2 rfl
    exact P.one a5 hf (a6.trans hi.symm) (h x hc f a4)
 intro f hf;obtain⟨s,vs,rfl⟩:=gu.1 hf;exact key _ s vs (Nat.lt_succ_self _)
theorem zA {c:Circ} (C:Cir c) {zs:List PData}{K:List Pat->Prop} (h:K ((zs.take 20).map (zm c))):bL c zs K:=by
 unfold bL;refine aA (fun s=>s.2<=zs.length/\s.2<=20/\s.1=(zs.take s.2).map (zm c)) (fun s=>zs.length-s.2) (fun r=>r=(zs.take 20).map (zm c)) ?_ ⟨Nat.zero_le _,Nat.zero_le _,rfl⟩ fun _ e=>e ▸ h;rintro k ⟨l,i⟩ nx ⟨hi,hi2,hl⟩ hnx hk;dsimp only at hi hi2 hl;refine dM (a:=decide (i<zs.length/\i<20)) (fun G=>⟨fun q=>?_,fun q=>?_⟩) ⟨fun q=>?_,fun q=>hk _ ?_⟩
 ·have q:=aO.1 q
  have e:ltN i 20=decide (i<zs.length/\i<20):=by rw[aY];simp[q]
  rw[e];exact G
 ·have q:=bk.1 q
  have e:decide (i<zs.length/\i<20)=false:=by simp;omega
  rw[e] at G;exact G
 ·have q:=of_decide_eq_true q;obtain⟨z,hz⟩:=av q.1;refine⟨z,hz,G7 C ⟨?_,by omega,hnx _ ⟨q.1,q.2,?_⟩ (by dsimp only;omega)⟩⟩
  ·have:l.length<=20:=by rw[hl,List.length_map,List.length_take];omega
   rw[List.length_singleton];omega
  ·dsimp only;rw[eU hz,List.map_append,<- hl];rfl
 ·have q:=of_decide_eq_false q;(try dsimp only);rw[hl];by_cases c1:i<zs.length
  ·have:i=20:=by omega
   rw[this]
  ·rw[List.take_of_length_le (by omega),List.take_of_length_le (by omega)]
theorem AA {x:Ldg}{n:Nat} (hl:x.count.length<2 ^ 60) {K:Nat×Nat->Prop} (h:K ((x.count.filter fun k=>decide (n<=k)).length,x.count.length)):cD x n K:=by
 unfold cD;refine aA (fun s=>s.2<=x.count.length/\s.1=((x.count.take s.2).filter fun k=>decide (n<=k)).length) (fun s=>x.count.length-s.2) (fun r=>r=(x.count.filter fun k=>decide (n<=k)).length) ?_ ⟨Nat.zero_le _,rfl⟩ fun _ e=>e ▸ h;rintro k ⟨d,i⟩ nx ⟨hi,hd⟩ hnx hk;dsimp only at hi hd
 have hdl:d<=i:=by rw[hd];exact Nat.le_trans (List.length_filter_le ..) (by rw[List.length_take];omega)
 refine⟨fun q=>?_,fun q=>hk _ ?_⟩
 ·have q:=aO.1 q;obtain⟨y,hy⟩:=av q;refine dG (fun r=>r=((x.count.take (i+1)).filter fun k=>decide (n<=k)).length) (fun k2 hk2=>⟨y,hy,fun e=>⟨by omega,hk2 _ ?_⟩,fun e=>hk2 _ ?_⟩) fun r hr=>⟨by omega,hnx _ ⟨q,hr⟩ (by dsimp only;omega)⟩
  ·have e:n<=y:=by
    have:ltN y n=false:=by simpa using e
    exact bk.1 this
   rw[eU hy,List.filter_append,List.length_append,<- hd];simp[e]
  ·have e:¬ n<=y:=by
     have:ltN y n=true:=by simpa using e
     have:=aO.1 this;omega
   rw[eU hy,List.filter_append,List.length_append,<- hd];simp[e]
 ·have q:=bk.1 q;(try dsimp only);rw[hd,List.take_of_length_le q]
theorem HI {c:Circ}{D:Flt->Prop} (P:ClsP c D) {r:List N2} (R:DomOk c (ksF c (bl c)) r) {ds:List Nat} (hd:∀ i∈ds,∃ f,(bl c)[i]?=some f/\D f) {a:Nat} (h:Rch r (zX c (bl c) ds) a):∀ f∈bl c,dn c (bl c) f=a->D f:=by
 induction h with
 |base q =>
  obtain⟨i,m,e⟩:=q;obtain⟨g,hg,hgd⟩:=hd i m
  have:(osN c (bl c))[i]?=some (dn c (bl c) g):=by unfold osN;rw[List.getElem?_map,hg];rfl
  rw[this] at e;intro f hf hfa;exact P.one (List.mem_of_getElem? hg) hf ((Option.some.inj e).trans hfa.symm) hgd
 |@step a b _ m ih =>
  intro f hf hfb;have ha:=(R.lt m).1;obtain⟨row,x,g,_,_,_,_,g5,g6⟩:=qC (c:=c) (l:=bl c) (i:=a) ha;exact P.go R m g5 hf g6 hfb (ih g g5 g6)
theorem Co {c:Circ}{ts:List Pat}{f:Flt}{most:Nat} (hm:0<most):(recAt (oI c ts f) most ts.length).2≠0 ↔ ∃ p∈ts,fb c p f=true:=by
 rcases oD (hit:=oI c ts f) hm ts.length with⟨h1,_,h3⟩|⟨h1,j,h2,h3,_,_⟩
 ·constructor
  ·intro q;exact absurd h1 q
  ·rintro⟨p,m,hp⟩;obtain⟨i,hi⟩:=List.mem_iff_getElem?.1 m;have:=h3 i (ag hi);unfold oI at this;rw[List.getD,hi] at this;rw[show (some p).getD ⟨[],[]⟩=p from rfl,hp] at this
   cases this
 ·constructor
  ·intro _;obtain⟨p,hp⟩:=av h2;refine⟨p,List.mem_of_getElem? hp,?_⟩;unfold oI at h3;rw[List.getD,hp] at h3;exact h3
  ·intro _;omega
theorem DW {c:Circ}{ts:List Pat}{f:Flt}{most:Nat} (hm:0<most):((recAt (oI c ts f) most ts.length).1 = -1/\∀ p∈ts,fb c p f=false)\/∃ j p,ts[j]?=some p/\fb c p f=true/\(recAt (oI c ts f) most ts.length).1=Int.ofNat j:=by
 rcases oD (hit:=oI c ts f) hm ts.length with⟨h1,h2,h3⟩|⟨h1,j,h2,h3,h4,_⟩
 ·refine .inl ⟨h2,fun p m=>?_⟩;obtain⟨i,hi⟩:=List.mem_iff_getElem?.1 m;have:=h3 i (ag hi);unfold oI at this;rw[List.getD,hi] at this;exact this
 ·obtain⟨p,hp⟩:=av h2;refine .inr ⟨j,p,hp,?_,h4⟩;unfold oI at h3;rw[List.getD,hp] at h3;exact h3
theorem Fp {c:Circ}{r:List N2}{j:Nat} (m:j∈eG c (bl c) r (ksF c (bl c)).length):∃ f,(bl c)[j]?=some f/\f∈bl c:=by
 unfold eG at m;obtain⟨i,hi,m⟩:=List.mem_flatMap.1 m;have hi:=List.mem_range.1 hi;obtain⟨row,y,f,a1,a2,a3,a4,a5,a6⟩:=qC (c:=c) (l:=bl c) (i:=i) hi;unfold jz at m;split at m
 ·cases m
 ·have e1:(RN c (bl c)).getD i []=row:=by rw[List.getD,a1];rfl
  have e2:row.getD 0 0=y:=by rw[List.getD,a2];rfl
  rw[e1,e2] at m;have:=List.mem_singleton.1 m;subst this;exact⟨f,a4,a5⟩
theorem wF {c:Circ}{f:Flt} (h:f∈bl c):StuckOk c f:=by
 obtain⟨s,V,rfl⟩:=gu.1 h;exact AF V
theorem Bb {x:CData} (hx:CB x) {zs:List PData}{K:Bool->Prop} (h:K true):cy x zs K:=by
 unfold cy;refine Dg hx ?_;have C:Cir (fR (tr x)):=Fm rfl;have hpos:=Gb (tr x);obtain⟨c,hc⟩:∃ c,fR (tr x)=c:=⟨_,rfl⟩;rw[hc] at C hpos ⊢;refine zA C ?_;obtain⟨ts,hts⟩:∃ ts,(zs.take 20).map (zm c)=ts:=⟨_,rfl⟩
 have tl:ts.length<=20:=by rw[<- hts,List.length_map,List.length_take];omega
 have tok:∀ p∈ts,PatOk c p:=by
  rw[<- hts];intro p m;obtain⟨z,_,rfl⟩:=List.mem_map.1 m;exact GX c z
 rw[hts];clear hts hx hc;have hl:=HS C;have hll:=zu C;have n0:neN 0 0=false:=yC.2 rfl;refine Ct C (Hm C hl fun r R=>?_);dsimp only;have all:=fun (D:Flt->Prop) (P:ClsP c D)=>Gh C P R;have comem:∀ j∈eG c (bl c) r (ksF c (bl c)).length,∃ f,(bl c)[j]?=some f/\f∈bl c:=fun j=>Fp;have col:(eG c (bl c) r (ksF c (bl c)).length).length<=544:=Nat.le_trans (oL ..) (Nat.le_trans (sH _ _) hll);obtain⟨co,hco⟩:∃ co,eG c (bl c) r (ksF c (bl c)).length=co:=⟨_,rfl⟩;rw[hco] at all comem col ⊢;clear hco
 have cpos:0<co.length:=by
  rcases Nat.eq_zero_or_pos co.length with e|e
  ·have e:=List.length_eq_zero_iff.1 e;obtain⟨f,hf⟩:=av (Ah hpos);exact (all (fun _=>False) ⟨fun _ _ _ _ _ h=>h,fun _ _ _ _ _ _ h=>h⟩ (fun j m=>by rw[e] at m;cases m) f (List.mem_of_getElem? hf)).elim
  ·exact e
 refine dM (a:=false) (fun G=>⟨fun q=>absurd rfl (fx.1 q),fun _=>by rw[n0];exact G⟩) ⟨(fun q=>by cases q),fun _=>?_⟩;refine aA (fun s=>s.2<=co.length/\s.1=(co.take s.2).map fun j=>(bl c).getD j vJ) (fun s=>co.length-s.2) (fun s=>s=co.map fun j=>(bl c).getD j vJ) ?_ ⟨Nat.zero_le _,rfl⟩ ?_
 ·rintro k ⟨sm,i⟩ nx ⟨hi,hs⟩ hnx hk;dsimp only at hi hs;refine⟨fun q=>?_,fun q=>hk _ ?_⟩
  ·have q:i<co.length:=aO.1 q;obtain⟨j,hj⟩:=av q;obtain⟨f,hf,hfm⟩:=comem j (List.mem_of_getElem? hj);refine dM (a:=false) (fun G=>⟨j,hj,fun q=>absurd (aO.1 q) (Nat.not_lt_zero _),fun _=>⟨j,hj,?_⟩⟩) ⟨(fun q=>by cases q),fun _=>⟨j,hj,f,hf,?_,by omega,hnx _ ⟨q,?_⟩ (by dsimp only;omega)⟩⟩
   ·have:ltN j (bl c).length=true:=aO.2 (ag hf);rw[this];exact G
   ·have:sm.length<=i:=by rw[hs,List.length_map,List.length_take];omega
    (try dsimp only);rw[List.length_singleton];omega
   ·dsimp only;rw[eU hj,List.map_append,<- hs]
    have:(bl c).getD j vJ=f:=by rw[List.getD,hf];rfl
    simp only[List.map_cons,List.map_nil,this]
  ·have q:co.length<=i:=bk.1 q;dsimp only;rw[hs,List.take_of_length_le q]
 rintro _ rfl
 have sok:∀ f∈co.map fun j=>(bl c).getD j vJ,StuckOk c f:=by
  intro f m;obtain⟨j,mj,rfl⟩:=List.mem_map.1 m;obtain⟨f,hf,hfm⟩:=comem j mj
  have:(bl c).getD j vJ=f:=by rw[List.getD,hf];rfl
  rw[this];exact wF hfm
 refine yQ C sok tok (by rw[List.length_map];exact cpos) (by rw[List.length_map];omega) (by omega) (by decide) (by decide) ?_;dsimp only;obtain⟨Y,hY⟩:∃ Y,bQ c (co.map fun j=>(bl c).getD j vJ) ts 1=Y:=⟨_,rfl⟩
 have Yl:Y.first.length=co.length:=by rw[<- hY];unfold bQ;simp
 have Yt:Y.tests=ts.length:=by rw[<- hY];rfl
 have Yg:∀ (i j:Nat) (f:Flt),co[i]?=some j->(bl c)[j]?=some f->Y.first[i]?=some (recAt (oI c ts f) 1 ts.length).1:=by
  intro i j f h1 h2;rw[<- hY];unfold bQ;dsimp only;rw[List.map_map,List.getElem?_map,h1]
  have:(bl c).getD j vJ=f:=by rw[List.getD,h2];rfl
  simp only[Option.map_some,Function.comp,this]
 rw[hY];clear hY sok;refine dM (a:=false) (fun G=>⟨fun q=>absurd rfl (fx.1 q),fun _=>?_⟩) ⟨(fun q=>by cases q),fun _=>?_⟩
 ·have:neN Y.first.length co.length=false:=yC.2 Yl;rw[this];exact G
 refine aA (fun s=>s.2<=co.length/\s.1.length<=s.2/\(∀ d∈s.1,∃ f j p,(bl c)[d]?=some f/\Int.ofNat j∈Y.first/\ts[j]?=some p/\fb c p f=true)/\(s.1.length<s.2\/∀ d∈co.take s.2,d∈s.1)) (fun s=>co.length-s.2)
  (fun s=>s.length<=co.length/\(∀ d∈s,∃ f j p,(bl c)[d]?=some f/\Int.ofNat j∈Y.first/\ts[j]?=some p/\fb c p f=true)/\(s.length<co.length\/∀ d∈co,d∈s)) ?_ ⟨Nat.zero_le _,Nat.le_refl _,(fun d m=>by cases m),.inr fun d m=>by cases m⟩ ?_
 ·rintro k ⟨ht,i⟩ nx ⟨hi,h1,h2,h3⟩ hnx hk;dsimp only at hi h1 h2 h3;refine⟨fun q=>?_,fun q=>hk _ ?_⟩
  ·have q:i<co.length:=aO.1 q;obtain⟨j,hj⟩:=av q;obtain⟨f,hf,hfm⟩:=comem j (List.mem_of_getElem? hj);have hyi:=Yg i j f hj hf;refine dG (fun s=>s.length<=i+1/\(∀ d∈s,∃ f j p,(bl c)[d]?=some f/\Int.ofNat j∈Y.first/\ts[j]?=some p/\fb c p f=true)/\(s.length<i+1\/∀ d∈co.take (i+1),d∈s)) (fun k2 hk2=>⟨_,hyi,?_⟩) fun s hs=>⟨by omega,hnx _ ⟨q,hs⟩ (by dsimp only;omega)⟩;dsimp only
   rcases DW (c:=c) (ts:=ts) (f:=f) (most:=1) (by decide) with⟨e1,_⟩|⟨m,p,hp,hd,e1⟩
   ·rw[e1];refine⟨fun q2=>?_,fun _=>hk2 _ ⟨by omega,h2,.inl (by omega)⟩⟩
    have:ltI (-1) (Int.ofNat 0)=true:=by decide
    rw[this] at q2;cases q2
   ·rw[e1] at hyi ⊢;refine⟨fun _ m2 _=>⟨j,hj,by rw[List.length_singleton];omega,hk2 _ ⟨by rw[List.length_append,List.length_singleton];omega,fun d md=>?_,?_⟩⟩,fun q2=>?_⟩
    ·rcases List.mem_append.1 md with md|md
     ·exact h2 d md
     ·rw[List.mem_singleton.1 md];exact⟨f,m,p,hf,List.mem_of_getElem? hyi,hp,hd⟩
    ·rcases h3 with h3|h3
     ·refine .inl ?_;rw[List.length_append,List.length_singleton];omega
     ·refine .inr fun d md=>?_;rw[eU hj] at md
      rcases List.mem_append.1 md with md|md
      ·exact List.mem_append_left _ (h3 d md)
      ·exact List.mem_append_right _ md
    ·have:ltI (Int.ofNat m) (Int.ofNat 0)=false:=by rw[cX];simp
     rw[this] at q2;cases q2
  ·have q:co.length<=i:=bk.1 q
   have:i=co.length:=by omega
   subst this;rw[List.take_of_length_le (Nat.le_refl _)] at h3;exact⟨h1,h2,h3⟩
 rintro ht ⟨hh1,hh2,hh3⟩;refine⟨by omega,by omega,by omega,fun us hsort hus=>?_⟩
 have usl:us.length<=20:=by
  have:=rR ts.length us (hsort.imp fun h=>Nat.ne_of_lt h) fun i m=>by have:=((hus i).1 m).2;omega
  omega
 have uslt:∀ i∈us,i<ts.length:=fun i m=>by have:=((hus i).1 m).2;omega
 refine aA (fun s=>s.2<=us.length/\s.1=(us.take s.2).map fun j=>ts.getD j ⟨[],[]⟩) (fun s=>us.length-s.2) (fun s=>s=us.map fun j=>ts.getD j ⟨[],[]⟩) ?_ ⟨Nat.zero_le _,rfl⟩ ?_
 ·rintro k ⟨kp,i⟩ nx ⟨hi,hs⟩ hnx hk;dsimp only at hi hs;refine⟨fun q=>?_,fun q=>hk _ ?_⟩
  ·have q:i<us.length:=aO.1 q;obtain⟨j,hj⟩:=av q;obtain⟨p,hp⟩:=av (uslt j (List.mem_of_getElem? hj));refine dM (a:=false) (fun G=>⟨j,hj,fun q=>absurd (aO.1 q) (Nat.not_lt_zero _),fun _=>⟨j,hj,?_⟩⟩) ⟨(fun q=>by cases q),fun _=>⟨j,hj,p,hp,?_,by omega,hnx _ ⟨q,?_⟩ (by dsimp only;omega)⟩⟩
   ·have:ltN j ts.length=true:=aO.2 (ag hp);rw[this];exact G
   ·have:kp.length<=i:=by rw[hs,List.length_map,List.length_take];omega
    (try dsimp only);rw[List.length_singleton];omega
   ·dsimp only;rw[eU hj,List.map_append,<- hs]
    have:ts.getD j ⟨[],[]⟩=p:=by rw[List.getD,hp];rfl
    simp only[List.map_cons,List.map_nil,this]
  ·have q:us.length<=i:=bk.1 q;dsimp only;rw[hs,List.take_of_length_le q]
 rintro _ rfl;obtain⟨kp,hkp⟩:∃ kp,(us.map fun j=>ts.getD j ⟨[],[]⟩)=kp:=⟨_,rfl⟩
 have kl:kp.length<=20:=by rw[<- hkp,List.length_map];exact usl
 have kok:∀ p∈kp,PatOk c p:=by
  rw[<- hkp];intro p m;obtain⟨j,mj,rfl⟩:=List.mem_map.1 m;obtain⟨p,hp⟩:=av (uslt j mj)
  have:ts.getD j ⟨[],[]⟩=p:=by rw[List.getD,hp];rfl
  rw[this];exact tok p (List.mem_of_getElem? hp)
 have kmem:∀ (j:Nat) (p:Pat),Int.ofNat j∈Y.first->ts[j]?=some p->p∈kp:=by
  intro j p h1 h2;rw[<- hkp];refine List.mem_map.2 ⟨j,(hus j).2 ⟨h1,by rw[Yt];exact ag h2⟩,?_⟩;rw[List.getD,h2];rfl
 rw[hkp];clear hkp hus hsort usl uslt tok
 have P:ClsP c fun f=>∃ p∈kp,fb c p f=true :=
  ⟨fun s t hs ht e ⟨p,m,hd⟩=>⟨p,m,(zn C (kok p m)).same s t hs ht e hd⟩,fun n j r hn hj hr ⟨p,m,hd⟩=>⟨p,m,(zn C (kok p m)).dom n j r hn hj hr hd⟩⟩
 have hitD:∀ i∈ht,∃ f,(bl c)[i]?=some f/\∃ p∈kp,fb c p f=true:=by
  intro i m;obtain⟨f,j,p,h1,h2,h3,h4⟩:=hh2 i m;exact⟨f,h1,p,kmem j p h2 h3,h4⟩
 refine C4 C hl (fun i m=>by obtain⟨f,hf,_⟩:=hitD i m;exact ag hf) (by omega) fun r2 bs R2 hb=>?_;obtain rfl:=R.eq R2;have apos:=Ah hpos;refine Ds C (fun f m=>wF m) kok apos (by omega) (by omega) ?_;obtain⟨W,hW⟩:∃ W,bQ c (bl c) kp (kp.length+1)=W:=⟨_,rfl⟩
 have Wl:W.count.length=(bl c).length:=by rw[<- hW];unfold bQ;simp
 have Wg:∀ (j:Nat) (f:Flt),(bl c)[j]?=some f->W.count[j]?=some (recAt (oI c kp f) (kp.length+1) kp.length).2:=by
  intro j f h2;rw[<- hW];unfold bQ;dsimp only;rw[List.getElem?_map,h2];rfl
 rw[hW];clear hW;dsimp only;refine dM (a:=false) (fun G=>⟨fun q=>absurd rfl (fx.1 q),fun _=>⟨fun q=>absurd rfl (fx.1 q),fun _=>?_⟩⟩) ⟨(fun q=>by cases q),fun _=>?_⟩
 ·have:neN W.count.length (bl c).length=false:=yC.2 Wl;rw[this];exact G
 obtain⟨al,hal⟩:∃ al,ub c (bl c) bs (bl c).length=al:=⟨_,rfl⟩
 have alD:∀ j∈al,∃ f,(bl c)[j]?=some f/\∃ p∈kp,fb c p f=true:=by
  rw[<- hal];intro j m;obtain⟨m1,m2⟩:=List.mem_filter.1 m;have m1:=List.mem_range.1 m1;obtain⟨f,hf⟩:=av m1
  have e1:(osN c (bl c)).getD j 0=dn c (bl c) f:=by
   rw[List.getD];unfold osN;rw[List.getElem?_map,hf];rfl
  rw[e1] at m2;exact⟨f,hf,HI P R hitD ((hb _).1 m2) f (List.mem_of_getElem? hf) rfl⟩
 have A8:al.length<=544:=by
  rw[<- hal];unfold ub;exact Nat.le_trans (List.length_filter_le _ _) (by rw[List.length_range];exact hll)
 rw[hal];clear hal;refine aA (fun i=>i<=al.length) (fun i=>al.length-i) (fun _=>True) ?_ (Nat.zero_le _) ?_
 ·rintro k i nx hi hnx hk;refine⟨fun q=>?_,fun q=>hk _ trivial⟩;have q:i<al.length:=aO.1 q;obtain⟨j,hj⟩:=av q;obtain⟨f,hf,hp⟩:=alD j (List.mem_of_getElem? hj);refine dM (a:=false) (fun G=>⟨j,hj,fun q=>absurd (aO.1 q) (Nat.not_lt_zero _),fun _=>⟨j,hj,fun q=>?_,fun _=>⟨j,hj,_,Wg j f hf,?_⟩⟩⟩) ⟨(fun q=>by cases q),fun _=>⟨by omega,hnx _ q (by omega)⟩⟩
  ·have:=ag hf;have:=rN.1 q;omega
  ·have:eqN (recAt (oI c kp f) (kp.length+1) kp.length).2 0=false:=cY.2 ((Co (Nat.succ_pos _)).2 hp);rw[this];exact G
 rintro _ _;refine AA (by omega) ?_;dsimp only;refine⟨fun _=>⟨fun _=>vP h,fun q=>?_⟩,fun q=>absurd Wl (cY.1 q)⟩;have q:co.length<=ht.length:=bk.1 q;refine⟨fun _=>vP h,fun q2=>?_⟩;refine absurd ?_ (cY.1 q2)
 rcases hh3 with hh3|hh3
 ·omega
 have fin:=all _ P fun j m f hf=>by
  obtain⟨f2,hf2,hp⟩:=hitD j (hh3 j m);rw[hf] at hf2
  cases hf2
  exact hp
 have:(W.count.filter fun k=>decide (1<=k))=W.count:=by
  refine List.filter_eq_self.2 fun k m=>?_;obtain⟨j,hj⟩:=List.mem_iff_getElem?.1 m;have hjl:=ag hj;rw[Wl] at hjl;obtain⟨f,hf⟩:=av hjl;have:=Wg j f hf;rw[hj] at this
  cases this
  have:=(Co (c:=c) (ts:=kp) (f:=f) (most:=kp.length+1) (Nat.succ_pos _)).2 (fin f (List.mem_of_getElem? hf));simp;omega
 rw[this]
def jV:List (Sh×Bool):=[(shC,true),(.slice shP,false)]
theorem xH (x:CS jV) (w:wfL jV x):FnV Tryz.prog NG vars 5 ⟨F0 jV x⟩ (.bool true):=by
 obtain⟨c,z,u⟩:=x;obtain⟨wc,wz,_⟩:=w;obtain⟨y,hy,e1⟩:=J0 wc;obtain⟨q,_,e2⟩:=D6 wz
 have e:F0 jV (c,z,u)=[bO y,ah 2 CY q]:=by
  show [elV (!true) (shC.bh c),elV (!false) ((Sh.slice shP).bh z)]=_
  rw[e1,e2];rfl
 rw[e];exact FnV.sO (enc:=Value.bool) (r:=true) (PureV.flat rfl) fun h hB=>kf (K:=fun r=>r=true) (Bb hy rfl) hB
end Go.Proofs.YtgiedjgdlckahaaGreatDoor
