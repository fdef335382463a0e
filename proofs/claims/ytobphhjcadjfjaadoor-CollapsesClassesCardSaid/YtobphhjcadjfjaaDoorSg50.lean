/-
  Co2, Co3, Co4, Co5, Cir12, Co7, Cob, Coc, Cod, Coe, Cof, CollapsesClasses: parts of the proof.
-/
import Derived.Test.YtobphhjcadjfjaaDoorSg49
namespace Go.Proofs.YtobphhjcadjfjaaDoor
open Go.Abs
set_option maxRecDepth 100000
instance decVS (c:Circ) (s:Si):Decidable (VS c s):=decidable_of_iff (s.node<c.nodes.length/\s.pin<=(insOf c s.node).length/\s.v<=1) ⟨fun ⟨a,b,d⟩=>⟨a,b,d⟩,fun h=>⟨h.node,h.pin,h.v⟩⟩
def zZ (c:Circ) (n v:Nat):Option Rul:=(eqR (kd c n) (insOf c n).length).find? fun r=>r.pin==v
def ya (c:Circ) (s:Si):Option Si :=
 if s.pin=0 then (kP c s.node).map fun l=>⟨l.node,l.pin+1,s.v⟩ else (zZ c s.node s.v).map fun r=>⟨s.node,0,r.out⟩
def down (c:Circ) (s:Si):Option Si:=if VS c s then ya c s else none
theorem sT {k n v:Nat}{r:Rul}:(eqR k n).find? (fun r=>r.pin==v)=some r↔r∈eqR k n/\r.pin=v:=by
 constructor
 ·intro h
  exact⟨List.mem_of_find?_eq_some h,by simpa using List.find?_some h⟩
 ·rintro⟨m,rfl⟩
  unfold eqR at m ⊢
  split
  ·rename_i q
   rw[if_pos q] at m
   simp only[List.mem_cons,List.not_mem_nil,or_false] at m
   rcases m with rfl|rfl <;> rfl
  rename_i q
  rw[if_neg q] at m
  split
  ·rename_i q
   rw[if_pos q] at m
   simp only[List.mem_cons,List.not_mem_nil,or_false] at m
   rcases m with rfl|rfl <;> rfl
  rename_i q
  rw[if_neg q] at m
  split
  ·rename_i q
   rw[if_pos q,List.mem_singleton] at m
   subst m;rfl
  rename_i q
  rw[if_neg q] at m
  split
  ·rename_i q
   rw[if_pos q,List.mem_singleton] at m
   subst m;rfl
  rename_i q
  rw[if_neg q] at m
  split
  ·rename_i q
   rw[if_pos q,List.mem_singleton] at m
   subst m;rfl
  rename_i q
  rw[if_neg q] at m
  split
  ·rename_i q
   rw[if_pos q,List.mem_singleton] at m
   subst m;rfl
  rename_i q
  rw[if_neg q] at m
  cases m
theorem oQ {c:Circ}{n j v:Nat}{w:Si}:down c ⟨n,j+1,v⟩=some w↔n<c.nodes.length/\j<(insOf c n).length/\∃ r∈eqR (kd c n) (insOf c n).length,r.pin=v/\w=⟨n,0,r.out⟩:=by
 unfold down ya zZ
 by_cases V:VS c ⟨n,j+1,v⟩
 ·rw[if_pos V,if_neg (by simp)]
  constructor
  ·intro h
   obtain⟨r,hr,rfl⟩:=Option.map_eq_some_iff.1 h
   obtain⟨h1,h2⟩:=sT.1 hr
   exact⟨V.node,V.pin,r,h1,h2,rfl⟩
  ·rintro⟨_,_,r,h1,h2,rfl⟩
   exact Option.map_eq_some_iff.2 ⟨r,sT.2 ⟨h1,h2⟩,rfl⟩
 ·rw[if_neg V]
  constructor
  ·intro h;cases h
  ·rintro⟨h1,h2,r,h3,rfl,_⟩
   exact absurd ⟨h1,h2,(uE h3).1⟩ V
theorem lM {c:Circ}{n v:Nat}{w:Si}:down c ⟨n,0,v⟩=some w↔n<c.nodes.length/\v<=1/\∃ l,kP c n=some l/\w=⟨l.node,l.pin+1,v⟩:=by
 unfold down ya
 by_cases V:VS c ⟨n,0,v⟩
 ·rw[if_pos V,if_pos rfl]
  constructor
  ·intro h
   obtain⟨l,hl,rfl⟩:=Option.map_eq_some_iff.1 h
   exact⟨V.node,V.v,l,hl,rfl⟩
  ·rintro⟨_,_,l,hl,rfl⟩
   exact Option.map_eq_some_iff.2 ⟨l,hl,rfl⟩
 ·rw[if_neg V]
  constructor
  ·intro h;cases h
  ·rintro⟨h1,h2,_⟩
   exact absurd ⟨h1,Nat.zero_le _,h2⟩ V
theorem yD {c:Circ}{n:Nat}{l:Ln} (h:kP c n=some l):∃ x,c.nodes[l.node]?=some x/\x.ins[l.pin]?=some n :=
 vh (by rw[(qn h).1];exact List.mem_singleton.2 rfl)
theorem wR {c:Circ}{u w:Si}:(u,w)∈edgesN c↔down c u=some w:=by
 unfold edgesN
 rw[List.mem_append]
 constructor
 ·rintro (m|m)
  ·obtain⟨n,hn,m⟩:=List.mem_flatMap.1 m
   obtain⟨r,hr,m⟩:=List.mem_flatMap.1 m
   obtain⟨j,hj,e⟩:=List.mem_map.1 m
   obtain⟨rfl,rfl⟩:=Prod.mk.inj e
   exact oQ.2 ⟨List.mem_range.1 hn,List.mem_range.1 hj,r,hr,rfl,rfl⟩
  ·obtain⟨n,hn,m⟩:=List.mem_flatMap.1 m
   unfold vJ at m
   split at m
   ·rename_i l hl
    simp only[List.mem_cons,List.not_mem_nil,or_false,Prod.mk.injEq] at m
    rcases m with⟨rfl,rfl⟩|⟨rfl,rfl⟩
    ·exact lM.2 ⟨List.mem_range.1 hn,by decide,l,hl,rfl⟩
    ·exact lM.2 ⟨List.mem_range.1 hn,by decide,l,hl,rfl⟩
   ·cases m
 ·intro h
  obtain⟨n,p,v⟩:=u
  cases p with
  |zero =>
   obtain⟨h1,h2,l,hl,rfl⟩:=lM.1 h
   refine .inr (List.mem_flatMap.2 ⟨n,List.mem_range.2 h1,?_⟩)
   unfold vJ
   rw[hl]
   have:v=0\/v=1:=by omega
   rcases this with rfl|rfl <;> simp
  |succ j =>
   obtain⟨h1,h2,r,hr,rfl,rfl⟩:=oQ.1 h
   exact .inl (List.mem_flatMap.2 ⟨n,List.mem_range.2 h1,List.mem_flatMap.2 ⟨r,hr,List.mem_map.2 ⟨j,List.mem_range.2 h2,rfl⟩⟩⟩)
theorem vO {k n:Nat}{r:Rul} (h:r∈eqR k n):3<=k/\k<=13:=by
 unfold eqR at h
 split at h
 ·omega
 split at h
 ·omega
 split at h
 ·omega
 split at h
 ·omega
 split at h
 ·omega
 split at h
 ·omega
 ·cases h
theorem uK {n:Nat} (h:Arity 0 n):n=0:=by
 obtain⟨h1,h2⟩:=h
 have e2:hiZ 0=0:=by decide
 rw[e2] at h2
 have:(Int.ofNat n)=(n:Int):=rfl
 omega
def lvl (c:Circ) (s:Si):Nat:=if s.pin=0 then 2*(16-s.node)+1 else if kd c s.node=14 then 0 else 2*(16-s.node)+2
theorem Al (c:Circ) (s:Si):lvl c s<=34:=by
 unfold lvl
 split
 ·omega
 ·split <;> omega
theorem yh {c:Circ} (C:Cir c) (u w:Si) (h:down c u=some w):lvl c w<lvl c u:=by
 have hlen:=C.len
 obtain⟨n,p,v⟩:=u
 cases p with
 |zero =>
  obtain⟨h1,h2,l,hl,rfl⟩:=lM.1 h
  obtain⟨x,hx,hp⟩:=yD hl
  unfold lvl
  rw[if_pos rfl,if_neg (by simp)]
  dsimp only
  split
  ·omega
  ·rename_i q
   rw[jc hx] at q
   have hk:=C.kinds _ _ hx
   have g:=C.good.node _ _ hx
   have hk0:x.kind≠0:=fun e=>by
    have a:=g.arity
    rw[e] at a
    have:=uK a
    have:=ag hp
    omega
   have:=g.acyc (by omega) (by omega) n (List.mem_of_getElem? hp)
   have:=ag hx
   omega
 |succ j =>
  obtain⟨h1,h2,r,hr,rfl,rfl⟩:=oQ.1 h
  have:=vO hr
  unfold lvl
  rw[if_pos rfl,if_neg (by simp),if_neg (by dsimp only;omega)]
  dsimp only
  omega
def clsN (c:Circ) (s:Si):Si:=jS (down c) 34 s
theorem AM {c:Circ} (C:Cir c) {a b:Si}:Cn (fun u w=>(u,w)∈edgesN c) a b↔clsN c a=clsN c b:=by
 have:=AK (down:=down c) (yh C) (N:=34) (Al c) (a:=a) (b:=b)
 unfold clsN
 rw[<- this]
 have e:(fun u w=>(u,w)∈edgesN c)=fun u w=>down c u=some w:=by
  funext u w;exact propext wR
 rw[e]
def fltS (s:Si):Flt:=⟨0,⟨s.node,Int.ofNat s.pin-1⟩,s.v,0⟩
theorem xA {c:Circ}{s:Si} (h:VS c s):StuckOk c (fltS s):=by
 have:=h.pin
 refine⟨rfl,h.v,rfl,h.node,?_,?_⟩
 ·unfold fltS;simp only[Int.ofNat_eq_natCast];omega
 ·unfold fltS;simp only[Int.ofNat_eq_natCast];omega
theorem zp {s t:Si} (h:fltS s=fltS t):s=t:=by
 obtain⟨n,p,v⟩:=s
 obtain⟨n',p',v'⟩:=t
 unfold fltS at h
 simp only[Flt.mk.injEq,LnZ.mk.injEq,Int.ofNat_eq_natCast,and_true,true_and] at h
 obtain⟨⟨rfl,h2⟩,rfl⟩:=h
 obtain rfl:p=p':=by omega
 rfl
theorem AE {c:Circ}{f:Flt} (F:StuckOk c f):∃ s,VS c s/\f=fltS s:=by
 obtain⟨m,⟨n,p⟩,v,o⟩:=f
 have h1:=F.model
 have h2:=F.value
 have h3:=F.other
 have h4:=F.node
 have h5:=F.pin1
 have h6:=F.pin2
 dsimp only at h1 h2 h3 h4 h5 h6
 subst h1 h3
 refine⟨⟨n,(p+1).toNat,v⟩,⟨h4,?_,h2⟩,?_⟩
 ·simp only[Int.ofNat_eq_natCast] at h6
  dsimp only;omega
 ·unfold fltS
  simp only[Flt.mk.injEq,LnZ.mk.injEq,Int.ofNat_eq_natCast,and_true,true_and]
  omega
def zx (f:Flt):Si:=⟨f.line.node,(f.line.pin+1).toNat,f.value⟩
theorem xr (s:Si):zx (fltS s)=s:=by
 obtain⟨n,p,v⟩:=s
 unfold zx fltS
 have:(Int.ofNat p-1+1).toNat=p:=by simp only[Int.ofNat_eq_natCast];omega
 dsimp only
 rw[this]
def cd (c:Circ) (f:Flt):Flt:=if f.model=0 then fltS (clsN c (zx f)) else f
theorem xB (c:Circ) (s:Si):cd c (fltS s)=fltS (clsN c s):=by
 unfold cd
 rw[if_pos (by rfl),xr]
theorem kT {c:Circ}{f:Flt} (h:f.model≠0):cd c f=f:=if_neg h
theorem pH (c:Circ) (f:Flt):(cd c f).model=f.model:=by
 unfold cd
 split
 ·rename_i h;exact h.symm
 ·rfl
def jt (c:Circ) (acc:List Flt) (f:Flt):List Flt:=if cd c f∈acc then acc else acc++[cd c f]
def ksF (c:Circ) (l:List Flt):List Flt:=l.foldl (jt c) []
theorem fa (c:Circ) (l:List Flt) (f:Flt):ksF c (l++[f])=jt c (ksF c l) f:=by unfold ksF;rw[List.foldl_append];rfl
theorem iB {α:Type}{P:List α->Prop} (h0:P []) (h1:∀ p x,P p->P (p++[x])) (l:List α):P l:=by
 have key:∀ n (l:List α),l.length=n->P l:=by
  intro n
  induction n with
  |zero=>intro l h;rw[List.length_eq_zero_iff.1 h];exact h0
  |succ n ih =>
   intro l h
   rcases List.eq_nil_or_concat l with rfl|⟨p,x,rfl⟩
   ·exact h0
   ·rw[List.concat_eq_append] at h ⊢
    refine h1 p x (ih p ?_)
    rw[List.length_append,List.length_singleton] at h;omega
 exact key _ l rfl
theorem eI {c:Circ}{l:List Flt}{k:Flt}:k∈ksF c l ↔ ∃ f∈l,cd c f=k:=by
 refine iB (P:=fun l=>k∈ksF c l ↔ ∃ f∈l,cd c f=k) ?_ ?_ l
 ·unfold ksF;simp
 ·intro p x ih
  rw[fa]
  unfold jt
  split
  ·rename_i h
   rw[ih]
   constructor
   ·rintro⟨f,m,e⟩
    exact⟨f,List.mem_append_left _ m,e⟩
   ·rintro⟨f,m,e⟩
    rcases aD.1 m with m|rfl
    ·exact⟨f,m,e⟩
    ·rw[e] at h;exact ih.1 h
  ·rw[aD,ih]
   constructor
   ·rintro (⟨f,m,e⟩|rfl)
    ·exact⟨f,List.mem_append_left _ m,e⟩
    ·exact⟨x,aD.2 (.inr rfl),rfl⟩
   ·rintro⟨f,m,e⟩
    rcases aD.1 m with m|rfl
    ·exact .inl ⟨f,m,e⟩
    ·exact .inr e.symm
theorem qJ (c:Circ) (l:List Flt):(ksF c l).Nodup:=by
 refine iB (P:=fun l=>(ksF c l).Nodup) List.nodup_nil ?_ l
 intro p x ih
 rw[fa]
 unfold jt
 split
 ·exact ih
 ·rename_i h
  refine List.nodup_append.2 ⟨ih,by simp,?_⟩
  intro a ha b hb
  rw[List.mem_singleton] at hb
  rintro rfl
  subst hb
  exact h ha
theorem nY (c:Circ) (l:List Flt):(ksF c l).length<=l.length:=by
 refine iB (P:=fun l=>(ksF c l).length<=l.length) (Nat.le_refl _) ?_ l
 intro p x ih
 rw[fa,List.length_append,List.length_singleton]
 unfold jt
 split
 ·omega
 ·rw[List.length_append,List.length_singleton];omega
def clsOf (c:Circ) (l:List Flt) (f:Flt):Nat:=(ksF c l).idxOf (cd c f)
def osN (c:Circ) (l:List Flt):List Nat:=l.map (clsOf c l)
def fA (c:Circ) (l:List Flt) (k:Flt):List Nat:=(List.range l.length).filter fun m=>decide ((l[m]?).map (cd c)=some k)
def RN (c:Circ) (l:List Flt):List (List Nat):=(ksF c l).map (fA c l)
theorem mA (c:Circ) (l:List Flt):(RN c l).length=(ksF c l).length:=List.length_map ..
theorem kh (c:Circ) (p:List Flt) (x k:Flt):fA c (p++[x]) k=fA c p k++if cd c x=k then [p.length] else []:=by
 unfold fA
 rw[List.length_append,List.length_singleton,List.range_succ,List.filter_append]
 congr 1
 ·refine List.filter_congr fun m hm=>?_
  rw[List.getElem?_append_left (List.mem_range.1 hm)]
 ·have e:(p++[x])[p.length]?=some x:=by simp
  by_cases h:cd c x=k
  ·rw[if_pos h];simp[h]
  ·rw[if_neg h];simp[h]
theorem vN {c:Circ}{p:List Flt}{k:Flt} (h:k ∉ ksF c p):fA c p k=[]:=by
 unfold fA
 rw[List.filter_eq_nil_iff]
 intro m _ q
 rw[decide_eq_true_eq] at q
 obtain⟨f,hf,e⟩:=Option.map_eq_some_iff.1 q
 exact h (eI.2 ⟨f,List.mem_of_getElem? hf,e⟩)
theorem jP {c:Circ}{l:List Flt}{k:Flt}{m:Nat}:m∈fA c l k ↔ ∃ f,l[m]?=some f/\cd c f=k:=by
 unfold fA
 rw[List.mem_filter,List.mem_range,decide_eq_true_eq,Option.map_eq_some_iff]
 constructor
 ·rintro⟨_,f,h⟩;exact⟨f,h⟩
 ·rintro⟨f,h⟩;exact⟨ag h.1,f,h⟩
theorem tl (c:Circ) (l:List Flt) (k:Flt):(fA c l k).length<=l.length:=by
 unfold fA
 exact Nat.le_trans (List.length_filter_le _ _) (by rw[List.length_range];exact Nat.le_refl _)
theorem kl {l:List Flt}{k:Flt} (h:k∈l):l[l.idxOf k]?=some k:=by
 rw[List.getElem?_eq_getElem (List.idxOf_lt_length_iff.2 h),List.getElem_idxOf]
theorem xO {l:List Flt} (nd:l.Nodup) {j:Nat}{k:Flt} (h:l[j]?=some k):l.idxOf k=j:=by
 obtain⟨h1,rfl⟩:=List.getElem?_eq_some_iff.1 h
 have h3:=List.idxOf_lt_length_iff.2 (List.getElem_mem h1)
 have h4:l[l.idxOf l[j]]=l[j]:=List.getElem_idxOf h3
 rcases Nat.lt_trichotomy (l.idxOf l[j]) j with q|q|q
 ·exact absurd h4 (List.pairwise_iff_getElem.1 nd _ _ h3 h1 q)
 ·exact q
 ·exact absurd h4.symm (List.pairwise_iff_getElem.1 nd _ _ h1 h3 q)
def ixO (ks:List Flt) (k:Flt):Option Nat:=if k∈ks then some (ks.idxOf k) else none
theorem uO {ks:List Flt}{k:Flt} (h:k ∉ ks):ixO (ks++[k]) k=some ks.length:=by
 unfold ixO
 rw[if_pos (aD.2 (.inr rfl)),List.idxOf_append,if_neg h]
 simp
theorem nT {ks:List Flt}{k k':Flt} (h:k'≠k):ixO (ks++[k]) k'=ixO ks k':=by
 unfold ixO
 by_cases m:k'∈ks
 ·rw[if_pos (aD.2 (.inl m)),if_pos m,List.idxOf_append,if_pos m]
 ·rw[if_neg (fun q=>(aD.1 q).elim m h),if_neg m]
theorem lO {ks:List Flt}{k:Flt} (h:k∈ks):ixO ks k=some (ks.idxOf k):=if_pos h
theorem sg {ks:List Flt}{k:Flt} (h:k ∉ ks):ixO ks k=none:=if_neg h
theorem iH {c:Circ}{p:List Flt}{x f:Flt} (hf:f∈p++[x]):clsOf c (p++[x]) f=if cd c f∈ksF c p then (ksF c p).idxOf (cd c f) else (ksF c p).length:=by
 unfold clsOf
 rw[fa]
 unfold jt
 by_cases h:cd c f∈ksF c p
 ·rw[if_pos h]
  split
  ·rfl
  ·rw[List.idxOf_append,if_pos h]
 ·rw[if_neg h]
  have e:cd c f=cd c x:=by
   rcases aD.1 hf with m|rfl
   ·exact absurd (eI.2 ⟨f,m,rfl⟩) h
   ·rfl
  rw[e] at h ⊢
  rw[if_neg h,List.idxOf_append,if_neg h]
  simp
theorem yq (c:Circ) (p:List Flt) (x:Flt):osN c (p++[x])=osN c p++[clsOf c (p++[x]) x]:=by
 unfold osN
 rw[List.map_append]
 congr 1
 refine List.map_congr_left fun f hf=>?_
 rw[iH (List.mem_append_left _ hf),if_pos (eI.2 ⟨f,hf,rfl⟩)]
 rfl
theorem xq {c:Circ}{p:List Flt}{x:Flt} (h:cd c x∈ksF c p):RN c (p++[x])=(RN c p).set ((ksF c p).idxOf (cd c x)) (fA c p (cd c x)++[p.length]):=by
 unfold RN
 rw[fa]
 unfold jt
 rw[if_pos h]
 apply List.ext_getElem?
 intro j
 rw[List.getElem?_map,List.getElem?_set,List.length_map]
 by_cases e:(ksF c p).idxOf (cd c x)=j
 ·subst e
  rw[if_pos rfl,if_pos (List.idxOf_lt_length_iff.2 h),kl h]
  simp only[Option.map_some]
  rw[kh,if_pos rfl]
 ·rw[if_neg e,List.getElem?_map]
  cases hj:(ksF c p)[j]? with
  |none=>rfl
  |some k =>
   simp only[Option.map_some]
   rw[kh,if_neg,List.append_nil]
   rintro rfl
   exact e (xO (qJ c p) hj)
theorem xt {c:Circ}{p:List Flt}{x:Flt} (h:cd c x ∉ ksF c p):RN c (p++[x])=RN c p++[[p.length]]:=by
 unfold RN
 rw[fa]
 unfold jt
 rw[if_neg h,List.map_append]
 congr 1
 ·refine List.map_congr_left fun k hk=>?_
  rw[kh,if_neg,List.append_nil]
  rintro rfl
  exact h hk
 ·rw[List.map_cons,List.map_nil,kh,if_pos rfl,vN h];rfl
def CsOk (c:Circ) (ks:List Flt) (ps:List Nat) (cs:List (Nat×Nat)):Prop:=∀ s,VS c s->∀ r,Rt ps (numN c s) r->bS cs r=ixO ks (fltS (clsN c s))
def A7 (ks:List Flt) (ot:List (Flt×Nat)):Prop:=∀ f:Flt,f.model≠0->bS ot f=ixO ks f
theorem CsOk.same {c:Circ}{ks:List Flt}{ps qs:List Nat}{cs:List (Nat×Nat)} (F:Fo ps) (h:CsOk c ks ps cs) (g:SameR ps qs):CsOk c ks qs cs:=fun s hs r hr=>h s hs r (g.back F hr)
theorem tc {c:Circ} (C:Cir c) {ps:List Nat} (U:EdgeI c (edgesN c) ps) {a b:Si} (ha:VS c a) (hb:VS c b) {r s:Nat} (h1:Rt ps (numN c a) r) (h2:Rt ps (numN c b) s):r=s↔clsN c a=clsN c b :=
 (U.cn a b r s ha hb h1 h2).trans (AM C)
theorem CsOk.new {c:Circ} (C:Cir c) {ks:List Flt}{ps:List Nat}{cs:List (Nat×Nat)} (U:EdgeI c (edgesN c) ps) (h:CsOk c ks ps cs) {a:Si} (ha:VS c a) {r:Nat} (hr:Rt ps (numN c a) r) (hn:fltS (clsN c a) ∉ ks) :
  CsOk c (ks++[fltS (clsN c a)]) ps (gz cs r ks.length):=by
 intro s hs r' hr'
 rw[tf]
 by_cases e:r'=r
 ·rw[if_pos e,(tc C U hs ha hr' hr).1 e,uO hn]
 ·rw[if_neg e,nT,h s hs r' hr']
  intro q
  exact e ((tc C U hs ha hr' hr).2 (zp q))
structure PartO (c:Circ) (l:List Flt) (ps:List Nat) (cs:List (Nat×Nat)):Prop where
 edge:EdgeI c (edgesN c) ps
 cs:CsOk c (ksF c l) ps cs
theorem fE {c:Circ} (C:Cir c) {l:List Flt} (hl:l.length<=65536) (hs:∀ f∈l,f.model=0->StuckOk c f) {K:List Nat×List Nat×Nat×List (List Nat)×List Nat×List (Nat×Nat)->Prop}
  (h:∀ ps cs,PartO c l ps cs->K (fsN c,ps,npN c,RN c l,osN c l,cs)):aQ c l K:=by
 unfold aQ
 refine vI C fun ps0 U0=>?_
 refine aO (fun (s:AX)=>s.2.2.2.2.2<=l.length/\EdgeI c (edgesN c) s.1/\s.2.1=RN c (l.take s.2.2.2.2.2)/\s.2.2.1=osN c (l.take s.2.2.2.2.2)/\CsOk c (ksF c (l.take s.2.2.2.2.2)) s.1 s.2.2.2.1/\A7 (ksF c (l.take s.2.2.2.2.2)) s.2.2.2.2.1)
  (fun s=>l.length-s.2.2.2.2.2) (fun s=>∃ ps cs,PartO c l ps cs/\s=(ps,RN c l,osN c l,cs)) ?_ ⟨Nat.zero_le _,U0,rfl,rfl,(fun s _ r _=>rfl),fun f _=>rfl⟩ ?_
 ·rintro k ⟨ps,R,os,cs,ot,i⟩ nx ⟨hi,U,hR,hos,hcs,hot⟩ hnx hk
  dsimp only at hi U hR hos hcs hot
  refine⟨fun q=>?_,fun q=>hk _ ?_⟩
  ·have q:i<l.length:=ba.1 q
   obtain⟨f,hf⟩:=aI q
   have hp1:(l.take i).length=i:=by rw[List.length_take];omega
   have htk:l.take (i+1)=l.take i++[f]:=gM hf
   have hks:(ksF c (l.take i)).length=R.length:=by rw[hR,mA]
   have hRl:R.length<=i:=by rw[<- hks];exact Nat.le_trans (nY _ _) (Nat.le_of_eq hp1)
   refine⟨f,hf,?_⟩
   refine de (fun s=>EdgeI c (edgesN c) s.1/\CsOk c (ksF c (l.take (i+1))) s.1 s.2.1/\A7 (ksF c (l.take (i+1))) s.2.2.1/\s.2.2.2.2=decide (cd c f∈ksF c (l.take i))/\(cd c f∈ksF c (l.take i)->s.2.2.2.1=(ksF c (l.take i)).idxOf (cd c f))) ?_ ?_
   ·intro k2 hk2
    have old:cd c f∈ksF c (l.take i)->ksF c (l.take (i+1))=ksF c (l.take i):=fun m=>by
     rw[htk,fa];exact if_pos m
    have new:cd c f ∉ ksF c (l.take i)->ksF c (l.take (i+1))=ksF c (l.take i)++[cd c f]:=fun m=>by
     rw[htk,fa];exact if_neg m
    refine⟨fun qm=>?_,fun qm=>?_⟩
    ·have qm:f.model=0:=eh.1 qm
     obtain⟨s,hv,rfl⟩:=AE (hs f (List.mem_of_getElem? hf) qm)
     obtain⟨r,hr⟩:=U.fo (numN c s) (U.len ▸ iM hv)
     rw[xB] at old new hk2
     refine ou C hv (s:=s) (by unfold fltS;simp only[Int.ofNat_eq_natCast];omega) (lS U.len hr fun qs hq=>?_)
     dsimp only
     have Uq:=U.same hq
     have hcq:=hcs.same U.fo hq
     have hget:=hcs s hv r hr
     have hrq:=hq.rt _ _ hr
     by_cases m:fltS (clsN c s)∈ksF c (l.take i)
     ·rw[hget,lO m]
      refine⟨(fun e=>by cases e),fun _=>hk2 _ ⟨Uq,by rw[old m];exact hcq,by rw[old m];exact hot,(decide_eq_true m).symm,fun _=>rfl⟩⟩
     ·rw[hget,sg m]
      refine⟨fun _=>hk2 _ ⟨Uq,?_,?_,(decide_eq_false m).symm,fun q=>absurd q m⟩,(fun e=>by cases e)⟩
      ·rw[new m,<- hks]
       exact hcq.new C Uq hv hrq m
      ·rw[new m]
       intro f' hf'
       rw[nT]
       ·exact hot f' hf'
       ·rintro rfl
        exact hf' rfl
    ·have qm:f.model≠0:=fI.1 qm
     rw[kT qm] at old new hk2
     have hget:=hot f qm
     by_cases m:f∈ksF c (l.take i)
     ·rw[hget,lO m]
      refine⟨(fun e=>by cases e),fun _=>hk2 _ ⟨U,by rw[old m];exact hcs,by rw[old m];exact hot,(decide_eq_true m).symm,fun _=>rfl⟩⟩
     ·rw[hget,sg m]
      refine⟨fun _=>hk2 _ ⟨U,?_,?_,(decide_eq_false m).symm,fun q=>absurd q m⟩,(fun e=>by cases e)⟩
      ·rw[new m]
       intro s hs r hr
       rw[nT]
       ·exact hcs s hs r hr
       ·intro e
        exact qm (by rw[<- e];rfl)
      ·rw[new m,<- hks]
       intro f' hf'
       rw[tf]
       by_cases e:f'=f
       ·rw[if_pos e,e,uO m]
       ·rw[if_neg e,nT e]
        exact hot f' hf'
   ·rintro⟨ps2,cs2,ot2,at2,is2⟩ ⟨U2,hcs2,hot2,his,hat⟩
    dsimp only at U2 hcs2 hot2 his hat
    subst his
    refine de (fun s=>s.2=clsOf c (l.take (i+1)) f/\s.1=if cd c f∈ksF c (l.take i) then R else R++[[]]) ?_ ?_
    ·intro k3 hk3
     by_cases m:cd c f∈ksF c (l.take i)
     ·rw[decide_eq_true m]
      refine⟨(fun e=>by cases e),fun _=>hk3 _ ⟨?_,(if_pos m).symm⟩⟩
      rw[htk,iH (aD.2 (.inr rfl)),if_pos m]
      exact hat m
     ·rw[decide_eq_false m]
      refine⟨fun _=>⟨by omega,hk3 _ ⟨?_,(if_neg m).symm⟩⟩,(fun e=>by cases e)⟩
      rw[htk,iH (aD.2 (.inr rfl)),if_neg m]
      exact hks.symm
    ·rintro⟨R3,at3⟩ ⟨rfl,hR3⟩
     dsimp only at hR3
     have hosl:os.length=i:=by rw[hos];unfold osN;rw[List.length_map,hp1]
     have key:∃ r,R3[clsOf c (l.take (i+1)) f]?=some r/\r.length<=i/\R3.set (clsOf c (l.take (i+1)) f) (r++[i])=RN c (l.take (i+1)):=by
      rw[htk,iH (aD.2 (.inr rfl))]
      by_cases m:cd c f∈ksF c (l.take i)
      ·rw[if_pos m] at hR3 ⊢
       subst hR3
       refine⟨fA c (l.take i) (cd c f),?_,Nat.le_trans (tl _ _ _) (Nat.le_of_eq hp1),?_⟩
       ·rw[hR];unfold RN
        rw[List.getElem?_map,kl m];rfl
       ·rw[xq m,hp1,hR]
      ·rw[if_neg m] at hR3 ⊢
       rw[hks]
       subst hR3
       refine⟨[],by simp,Nat.zero_le _,?_⟩
       rw[xt m,hp1,<- hR]
       simp
     obtain⟨r,hr1,hr2,hr3⟩:=key
     refine⟨r,hr1,by omega,by omega,by omega,hnx _ ⟨q,U2,hr3,?_,hcs2,hot2⟩ (by dsimp only;omega)⟩
     dsimp only
     rw[htk,yq,<- hos]
  ·have q:l.length<=i:=bO.1 q
   obtain rfl:i=l.length:=by omega
   rw[List.take_length] at hR hos hcs
   exact⟨ps,cs,⟨U,hcs⟩,by rw[hR,hos]⟩
 ·rintro _ ⟨ps,cs,hP,rfl⟩
  refine⟨fun r hr=>?_,?_,h ps cs hP⟩
  ·obtain⟨k,hk,rfl⟩:=List.mem_map.1 hr
   obtain⟨f,hf,e⟩:=eI.1 hk
   obtain⟨j,hj⟩:=List.mem_iff_getElem?.1 hf
   intro q
   have:j∈fA c l k:=jP.2 ⟨f,hj,e⟩
   rw[q] at this
   cases this
  ·rw[mA]
   have:=nY c l
   omega
theorem kq {c:Circ} (C:Cir c) {l:List Flt} (hl:l.length<=65536) (hs:∀ f∈l,∀ K:Nat->Prop,K 0->faults_Check_wp c f K) {K:Nat->Prop} (h:K 0):bb c l K:=by
 unfold bb
 refine⟨fun q=>?_,fun _=>sI C ⟨(fun q=>absurd rfl (dq.1 q)),fun _=>?_⟩⟩
 ·have:=ba.1 q;omega
 ·refine dZ (l:=l) ?_ ?_ h
  ·intro k i nx x hx hi hn
   refine⟨fun _=>⟨x,hx,hs x (List.mem_of_getElem? hx) _ ⟨(fun q=>absurd rfl (dq.1 q)),fun _=>⟨by omega,hn⟩⟩⟩,fun q=>?_⟩
   have:=bO.1 q;omega
  ·intro k i nx hi hk
   refine⟨fun q=>?_,fun _=>hk⟩
   have:=ba.1 q;omega
def n2Lt (x y:N2):Prop:=x.a<y.a\/x.a=y.a/\x.b<y.b
theorem Bd {x y:N2} (h:x≠y):x.a≠y.a\/x.b≠y.b:=by
 by_cases h1:x.a=y.a
 ·right
  intro h2
  obtain⟨a,b⟩:=x
  obtain⟨a',b'⟩:=y
  dsimp only at h1 h2
  exact h (by rw[h1,h2])
 ·exact .inl h1
theorem tj {l:List N2} (h:l.Pairwise ud):(dH l).Pairwise n2Lt/\∀ x,x∈dH l↔x∈l:=by
 revert h
 refine iB (P:=fun l=>l.Pairwise ud->(dH l).Pairwise n2Lt/\∀ x,x∈dH l↔x∈l) ?_ ?_ l
 ·intro _
  exact⟨List.Pairwise.nil,fun x=>Iff.rfl⟩
 ·intro p x ih h
  obtain⟨h1,_,h3⟩:=List.pairwise_append.1 h
  obtain⟨i1,i2⟩:=ih h1
  have hle:∀ y∈dH p,ud y x:=fun y m=>h3 y ((i2 y).1 m) x (List.mem_singleton.2 rfl)
  rw[mW]
  unfold fJ
  split
  ·rename_i e
   refine⟨i1,fun y=>?_⟩
   rw[i2,aD]
   constructor
   ·exact .inl
   ·rintro (m|rfl)
    ·exact m
    ·exact (i2 y).1 (List.mem_of_getLast? e)
  ·rename_i e
   refine⟨List.pairwise_append.2 ⟨i1,List.pairwise_singleton _ _,fun y hy z hz=>?_⟩,fun y=>by rw[aD,aD,i2]⟩
   rw[List.mem_singleton] at hz
   subst hz
   rcases List.eq_nil_or_concat (dH p) with q|⟨q,w,hq⟩
   ·rw[q] at hy;cases hy
   ·rw[List.concat_eq_append] at hq
    have hw:w≠z:=by
     rintro rfl
     rw[hq,List.getLast?_concat] at e
     exact e rfl
    have hwz:=yu.1 (hle w (by rw[hq];exact aD.2 (.inr rfl)))
    have hne:=Bd hw
    rw[hq] at hy i1
    rcases aD.1 hy with m|rfl
    ·have:n2Lt y w:=(List.pairwise_append.1 i1).2.2 y m w (List.mem_singleton.2 rfl)
     unfold n2Lt at this ⊢
     omega
    ·unfold n2Lt
     omega
def iL (k:Nat):Option Rul:=if k=5 then some ⟨0,0⟩ else if k=6 then some ⟨0,1⟩ else if k=7 then some ⟨1,1⟩ else if k=8 then some ⟨1,0⟩ else none
theorem xR {k:Nat}{r:Rul} (h:iL k=some r):r.pin<=1/\r.out<=1:=by
 unfold iL at h
 split at h
 ·cases h;decide
 split at h
 ·cases h;decide
 split at h
 ·cases h;decide
 split at h
 ·cases h;decide
 ·cases h
theorem rC {k:Nat}{K:Rul×Bool->Prop} (h1:∀ r,iL k=some r->K (r,true)) (h2:iL k=none->K (⟨0,0⟩,false)):aZ k K:=by
 refine nw (fun q=>h1 _ ?_) (fun q=>h1 _ ?_) (fun q=>h1 _ ?_) (fun q=>h1 _ ?_) fun q5 q6 q7 q8=>h2 ?_
 ·subst q;rfl
 ·subst q;rfl
 ·subst q;rfl
 ·subst q;rfl
 ·unfold iL
  rw[if_neg q5,if_neg q6,if_neg q7,if_neg q8]
def gf (n j:Nat) (r:Rul):Si:=⟨n,j+1,1-r.pin⟩
def gS (n:Nat) (r:Rul):Si:=⟨n,0,1-r.out⟩
def jV (c:Circ) (ks:List Flt) (n b:Nat) (r:Rul) (j:Nat):List N2:=match ixO ks (fltS (clsN c (gf n j r))) with
 |some a=>[⟨a,b⟩]
 |none=>[]
def iP (c:Circ) (ks:List Flt) (n b:Nat) (r:Rul) (t:Nat):List N2:=(List.range t).flatMap (jV c ks n b r)
def fL (c:Circ) (ks:List Flt) (n:Nat):List N2:=match iL (kd c n) with
 |none=>[]
 |some r=>match ixO ks (fltS (clsN c (gS n r))) with
  |none=>[]
  |some b=>iP c ks n b r (insOf c n).length
def domRaw (c:Circ) (ks:List Flt) (i:Nat):List N2:=(List.range i).flatMap (fL c ks)
theorem gJ (c:Circ) (ks:List Flt) (i:Nat):domRaw c ks (i+1)=domRaw c ks i++fL c ks i:=by
 unfold domRaw
 rw[List.range_succ,List.flatMap_append]
 simp
theorem jr (c:Circ) (ks:List Flt) (n b:Nat) (r:Rul) (t:Nat):iP c ks n b r (t+1)=iP c ks n b r t++jV c ks n b r t:=by
 unfold iP
 rw[List.range_succ,List.flatMap_append]
 simp
theorem uw (c:Circ) (ks:List Flt) (n b:Nat) (r:Rul) (j:Nat):(jV c ks n b r j).length<=1:=by
 unfold jV
 split <;> simp
theorem lu (c:Circ) (ks:List Flt) (n b:Nat) (r:Rul):∀ t,(iP c ks n b r t).length<=t
 |0=>Nat.le_refl _
 |t+1=>by
  rw[jr,List.length_append]
  have:=lu c ks n b r t
  have:=uw c ks n b r t
  omega
theorem iU {c:Circ} (C:Cir c) (ks:List Flt):∀ i,i<=c.nodes.length->(domRaw c ks i).length<=i*16
 |0,_=>Nat.le_refl _
 |i+1,h=>by
  have:=iU C ks i (by omega)
  rw[gJ,List.length_append]
  obtain⟨x,hx⟩:=aI (show i<c.nodes.length from h)
  have hf:=(C.good.node i x hx).few
  have:(fL c ks i).length<=16:=by
   unfold fL
   split
   ·exact Nat.zero_le _
   ·split
    ·exact Nat.zero_le _
    ·rename_i r _ _ b _
     have:=lu c ks i b r (insOf c i).length
     rw[cB hx] at this ⊢
     omega
  omega
theorem vx {ks:List Flt}{k:Flt}{a:Nat}:ixO ks k=some a↔k∈ks/\ks.idxOf k=a:=by
 unfold ixO
 by_cases m:k∈ks
 ·rw[if_pos m]
  simp[m]
 ·rw[if_neg m]
  simp[m]
theorem uZ {c:Circ}{ks:List Flt}{i:Nat}{x:N2}:x∈domRaw c ks i ↔ ∃ n r j,n<i/\iL (kd c n)=some r/\j<(insOf c n).length/\fltS (clsN c (gf n j r))∈ks/\fltS (clsN c (gS n r))∈ks/\x=⟨ks.idxOf (fltS (clsN c (gf n j r))),ks.idxOf (fltS (clsN c (gS n r)))⟩:=by
 unfold domRaw
 rw[List.mem_flatMap]
 constructor
 ·rintro⟨n,hn,m⟩
  unfold fL at m
  split at m
  ·cases m
  ·rename_i r hr
   split at m
   ·cases m
   ·rename_i b hb
    obtain⟨j,hj,m⟩:=List.mem_flatMap.1 m
    unfold jV at m
    split at m
    ·rename_i a ha
     obtain⟨a1,a2⟩:=vx.1 ha
     obtain⟨b1,b2⟩:=vx.1 hb
     rw[List.mem_singleton] at m
     exact⟨n,r,j,List.mem_range.1 hn,hr,List.mem_range.1 hj,a1,b1,by rw[m,a2,b2]⟩
    ·cases m
 ·rintro⟨n,r,j,hn,hr,hj,h1,h2,rfl⟩
  refine⟨n,List.mem_range.2 hn,?_⟩
  unfold fL
  rw[hr]
  dsimp only
  rw[lO h2]
  refine List.mem_flatMap.2 ⟨j,List.mem_range.2 hj,?_⟩
  unfold jV
  rw[lO h1]
  exact List.mem_singleton.2 rfl
structure DomOk (c:Circ) (ks:List Flt) (r:List N2):Prop where
 sorted:r.Pairwise n2Lt
 mem:∀ x,x∈r↔x∈domRaw c ks c.nodes.length
 len:r.length<=256
theorem DomOk.lt {c:Circ}{ks:List Flt}{r:List N2} (D:DomOk c ks r) {x:N2} (h:x∈r):x.a<ks.length/\x.b<ks.length:=by
 obtain⟨n,r,j,_,_,_,h1,h2,rfl⟩:=uZ.1 ((D.mem x).1 h)
 exact⟨List.idxOf_lt_length_iff.2 h1,List.idxOf_lt_length_iff.2 h2⟩
theorem yz {c:Circ}{n j:Nat}{r:Rul} (hn:n<c.nodes.length) (hj:j<(insOf c n).length):VS c (gf n j r):=⟨hn,hj,by unfold gf;dsimp only;omega⟩
theorem yL {c:Circ}{n:Nat}{r:Rul} (hn:n<c.nodes.length):VS c (gS n r):=⟨hn,Nat.zero_le _,by unfold gS;dsimp only;omega⟩
theorem gY {c:Circ} (C:Cir c) {ks:List Flt} (hk:ks.length<=65536) {ps:List Nat} (U:EdgeI c (edgesN c) ps) {cs:List (Nat×Nat)} (hcs:CsOk c ks ps cs) {R:List (List Nat)}{os:List Nat}{K:List Nat×List N2->Prop}
  (h:∀ qs r,DomOk c ks r->K (qs,r)):bd (npN c) (fsN c) ps R os cs c K:=by
 have hlen:=C.len
 unfold bd
 refine aO (fun s=>s.2.2<=c.nodes.length/\SameR ps s.1/\s.2.1=domRaw c ks s.2.2) (fun s=>c.nodes.length-s.2.2) (fun s=>s.1=domRaw c ks c.nodes.length) ?_ ⟨Nat.zero_le _,SameR.refl ps,rfl⟩ ?_
 ·rintro k ⟨qs,out,i⟩ nx ⟨hi,hS,ho⟩ hnx hk2
  dsimp only at hi hS ho
  refine⟨fun q=>?_,fun q=>hk2 _ ?_⟩
  ·have q:i<c.nodes.length:=ba.1 q
   obtain⟨x,hx⟩:=aI q
   have hfew:=(C.good.node i x hx).few
   have hol:out.length<=i*16:=by rw[ho];exact iU C ks i hi
   refine de (fun s=>SameR ps s.1/\s.2=domRaw c ks (i+1)) (fun k3 hk3=>⟨x,hx,?_⟩) fun s hs=>⟨by omega,hnx _ ⟨q,hs.1,hs.2⟩ (by dsimp only;omega)⟩
   have U1:=U.same hS
   refine rC (fun r hr=>⟨fun e=>(by cases e),fun _=>?_⟩) fun hr=>⟨fun _=>hk3 _ ⟨hS,?_⟩,fun e=>(by cases e)⟩
   ·have hrle:=xR hr
    have hr':iL (kd c i)=some r:=by rw[jc hx];exact hr
    have v1:=yL (c:=c) (r:=r) q
    obtain⟨rt,hrt⟩:=U1.fo (numN c (gS i r)) (U1.len ▸ iM v1)
    refine⟨hrle.2,by decide,ou C v1 (s:=gS i r) (by rfl) (lS U1.len hrt fun ws hw=>?_)⟩
    dsimp only
    have hS2:=hS.trans hw
    have hget:=hcs.same U.fo hS (gS i r) v1 rt hrt
    have hnode:fL c ks i=match ixO ks (fltS (clsN c (gS i r))) with|none=>[] | some b=>iP c ks i b r (insOf c i).length:=by
     unfold fL
     rw[hr']
    rw[hget]
    cases hb:ixO ks (fltS (clsN c (gS i r))) with
    |none =>
     rw[hb] at hnode
     refine⟨fun _=>hk3 _ ⟨hS2,?_⟩,fun e=>(by cases e)⟩
     dsimp only
     rw[gJ,hnode,List.append_nil,ho]
    |some b =>
     rw[hb] at hnode
     dsimp only at hnode
     refine⟨fun e=>(by cases e),fun _=>?_⟩
     refine bh (fun s=>s.2.2<=x.ins.length/\SameR ps s.1/\s.2.1=domRaw c ks i++iP c ks i b r s.2.2) (fun s=>x.ins.length-s.2.2) ?_ ⟨Nat.zero_le _,hS2,by rw[ho];simp[iP]⟩
     rintro⟨ws,out,j⟩ nx4 ⟨hj,hS4,ho4⟩ hnx4
     dsimp only at hj hS4 ho4
     refine⟨fun q4=>?_,fun q4=>hk3 _ ⟨hS4,?_⟩⟩
     ·have q4:j<x.ins.length:=ba.1 q4
      have hol4:out.length<=512:=by
       rw[ho4,List.length_append]
       have:=iU C ks i hi
       have:=lu c ks i b r j
       omega
      have v2:VS c (gf i j r):=yz q (by rw[cB hx];exact q4)
      have U4:=U.same hS4
      obtain⟨rt4,hrt4⟩:=U4.fo (numN c (gf i j r)) (U4.len ▸ iM v2)
      refine de (fun s=>SameR ps s.1/\s.2=domRaw c ks i++iP c ks i b r (j+1)) (fun k5 hk5=>⟨hrle.1,by decide,ou C v2 (s:=gf i j r) (by unfold gf;simp only[Int.ofNat_eq_natCast];omega) (lS U4.len hrt4 fun ys hy=>?_)⟩) fun s hs=>⟨by dsimp only;omega,hnx4 _ ⟨q4,hs.1,hs.2⟩ (by dsimp only;omega)⟩
      dsimp only
      have hget4:=hcs.same U.fo hS4 (gf i j r) v2 rt4 hrt4
      rw[hget4]
      cases ha:ixO ks (fltS (clsN c (gf i j r))) with
      |none =>
       refine⟨fun e=>(by cases e),fun _=>hk5 _ ⟨hS4.trans hy,?_⟩⟩
       dsimp only
       rw[jr,ho4]
       unfold jV
       rw[ha,List.append_nil]
      |some a =>
       refine⟨fun _=>⟨by rw[List.length_singleton];omega,hk5 _ ⟨hS4.trans hy,?_⟩⟩,fun e=>(by cases e)⟩
       dsimp only[Option.getD]
       rw[jr,ho4]
       unfold jV
       rw[ha,List.append_assoc]
     ·have q4:x.ins.length<=j:=bO.1 q4
      obtain rfl:j=x.ins.length:=by omega
      dsimp only
      rw[gJ,hnode,cB hx]
      exact ho4
   ·have hr':iL (kd c i)=none:=by rw[jc hx];exact hr
    dsimp only
    rw[gJ,ho]
    unfold fL
    rw[hr',List.append_nil]
  ·have q:c.nodes.length<=i:=bO.1 q
   obtain rfl:i=c.nodes.length:=by omega
   exact ho
 ·rintro⟨out,qs⟩ ho
  dsimp only at ho ⊢
  subst ho
  have hl:=iU C ks _ (Nat.le_refl _)
  refine⟨by omega,fun x m=>?_,fun l hp hs=>⟨by rw[hp.length_eq];omega,h _ _ ?_⟩⟩
  ·obtain⟨n,r,j,_,_,_,h1,h2,rfl⟩:=uZ.1 m
   have:=List.idxOf_lt_length_iff.2 h1
   have:=List.idxOf_lt_length_iff.2 h2
   exact⟨by dsimp only;omega,by dsimp only;omega⟩
  ·obtain⟨s1,s2⟩:=tj hs
   refine⟨s1,fun x=>(s2 x).trans hp.mem_iff,?_⟩
   have:=tD l
   have:=hp.length_eq
   omega
structure ListOk (c:Circ) (l:List Flt):Prop where
 len:l.length<=65536
 stuck:∀ f∈l,f.model=0->StuckOk c f
 check:∀ f∈l,∀ K:Nat->Prop,K 0->faults_Check_wp c f K
theorem kV {c:Circ} (C:Cir c) {l:List Flt} (hl:ListOk c l) {K:List (List Nat)×Nat->Prop} (h:K (RN c l,0)):bc c l K:=by
 unfold bc
 exact kq C hl.len hl.check ⟨(fun q=>absurd rfl (dq.1 q)),fun _=>fE C hl.len hl.stuck fun _ _ _=>h⟩
theorem rJ {c:Circ}{l:List Flt} (hl:ListOk c l):(ksF c l).length<=65536:=Nat.le_trans (nY _ _) hl.len
theorem pR {c:Circ} (C:Cir c) {l:List Flt} (hl:ListOk c l) {K:List N2×Nat->Prop} (h:∀ r,DomOk c (ksF c l) r->K (r,0)):bn c l K:=by
 unfold bn
 exact kq C hl.len hl.check ⟨(fun q=>absurd rfl (dq.1 q)),fun _=>fE C hl.len hl.stuck fun ps cs P=>gY C (rJ hl) P.edge P.cs fun _ r hr=>h r hr⟩
theorem qH:∀ {r s:List N2},r.Pairwise n2Lt->s.Pairwise n2Lt->(∀ x,x∈r↔x∈s)->r=s
 |[],[],_,_,_=>rfl
 |[],b::s,_,_,h=>by have:=(h b).2 (List.mem_cons_self ..);cases this
 |a::r,[],_,_,h=>by have:=(h a).1 (List.mem_cons_self ..);cases this
 |a::r,b::s,h1,h2,h=>by
  obtain⟨a1,a2⟩:=List.pairwise_cons.1 h1
  obtain⟨b1,b2⟩:=List.pairwise_cons.1 h2
  have e:a=b:=by
   rcases List.mem_cons.1 ((h a).1 (List.mem_cons_self ..)) with q|q
   ·exact q
   ·rcases List.mem_cons.1 ((h b).2 (List.mem_cons_self ..)) with q2|q2
    ·exact q2.symm
    ·have:=b1 a q
     have:=a1 b q2
     unfold n2Lt at *
     omega
  subst e
  refine congrArg (a :: ·) (qH a2 b2 fun x=>?_)
  have:=h x
  rw[List.mem_cons,List.mem_cons] at this
  constructor
  ·intro m
   rcases this.1 (.inr m) with q|q
   ·subst q
    have:=a1 x m
    unfold n2Lt at this;omega
   ·exact q
  ·intro m
   rcases this.2 (.inr m) with q|q
   ·subst q
    have:=b1 x m
    unfold n2Lt at this;omega
   ·exact q
def jL (r:List N2) (i:Nat):Bool:=r.any fun x=>x.b==i
def iV (c:Circ) (l:List Flt) (r:List N2) (i:Nat):List Nat:=if jL r i=true then [] else [((RN c l).getD i []).getD 0 0]
def gq (c:Circ) (l:List Flt) (r:List N2) (i:Nat):List Nat:=(List.range i).flatMap (iV c l r)
theorem jD (c:Circ) (l:List Flt) (r:List N2) (i:Nat):gq c l r (i+1)=gq c l r i++iV c l r i:=by
 unfold gq
 rw[List.range_succ,List.flatMap_append]
 simp
theorem pB (c:Circ) (l:List Flt) (r:List N2):∀ i,(gq c l r i).length<=i
 |0=>Nat.le_refl _
 |i+1=>by
  rw[jD,List.length_append]
  have:=pB c l r i
  have:(iV c l r i).length<=1:=by unfold iV;split <;> simp
  omega
theorem ym {c:Circ}{l:List Flt}{i:Nat} (h:i<(ksF c l).length):∃ k x t,(ksF c l)[i]?=some k/\(RN c l)[i]?=some (x::t)/\fA c l k=x::t:=by
 obtain⟨k,hk⟩:=aI h
 have hr:(RN c l)[i]?=some (fA c l k):=by unfold RN;rw[List.getElem?_map,hk];rfl
 obtain⟨f,hf,e⟩:=eI.1 (List.mem_of_getElem? hk)
 obtain⟨j,hj⟩:=List.mem_iff_getElem?.1 hf
 have m:j∈fA c l k:=jP.2 ⟨f,hj,e⟩
 cases hrow:fA c l k with
 |nil=>rw[hrow] at m;cases m
 |cons x t=>exact⟨k,x,t,hk,by rw[hr,hrow],hrow⟩
theorem zz {c:Circ} (C:Cir c) {l:List Flt} (hl:ListOk c l) {K:List Nat×Nat->Prop} (h:∀ r,DomOk c (ksF c l) r->K (gq c l r (ksF c l).length,0)):cA c l K:=by
 have hlen:=hl.len
 have hks:=rJ hl
 have hRl:=mA c l
 unfold cA
 refine kq C hl.len hl.check ⟨(fun q=>absurd rfl (dq.1 q)),fun _=>fE C hl.len hl.stuck fun ps cs P=>⟨by omega,by omega,?_⟩⟩
 refine de (fun s=>∃ r,DomOk c (ksF c l) r/\s.2.length=(ksF c l).length/\∀ i,i<(ksF c l).length->s.2[i]?=some (jL r i)) (fun k hk=>gY C hks P.edge P.cs fun qs r hr=>?_) ?_
 ·refine bh (fun s=>s.2<=r.length/\s.1.length=(ksF c l).length/\∀ i,i<(ksF c l).length->s.1[i]?=some (jL (r.take s.2) i)) (fun s=>r.length-s.2) ?_ ⟨Nat.zero_le _,by rw[List.length_replicate];exact hRl,fun i hi=>?_⟩
  ·rintro⟨bs,t⟩ nx ⟨ht,hb1,hb2⟩ hnx
   dsimp only at ht hb1 hb2
   refine⟨fun q=>?_,fun q=>hk _ ⟨r,hr,hb1,?_⟩⟩
   ·have q:t<r.length:=ba.1 q
    obtain⟨x,hx⟩:=aI q
    have hlt:=hr.lt (List.mem_of_getElem? hx)
    have:=hr.len
    refine⟨x,hx,by rw[hRl];exact hlt.2,_,hb2 x.b hlt.2,by omega,hnx _ ⟨q,(List.length_set ..).trans hb1,fun i hi=>?_⟩ (by dsimp only;omega)⟩
    dsimp only
    rw[List.getElem?_set,gM hx]
    unfold jL
    rw[List.any_append]
    by_cases e:x.b=i
    ·subst e
     rw[if_pos rfl,if_pos (by omega)]
     simp
    ·rw[if_neg e,hb2 i hi]
     unfold jL
     simp[e]
   ·have q:r.length<=t:=bO.1 q
    rw[List.take_of_length_le q] at hb2
    exact hb2
  ·rw[hRl,List.getElem?_replicate,if_pos hi];rfl
 ·rintro⟨qs,bs⟩ ⟨r,hr,hb1,hb2⟩
  dsimp only at hb1 hb2
  refine aO (fun s=>s.2<=(ksF c l).length/\s.1=gq c l r s.2) (fun s=>(ksF c l).length-s.2) (fun s=>s=gq c l r (ksF c l).length) ?_ ⟨Nat.zero_le _,rfl⟩ (fun _ e=>e ▸ h r hr)
  rintro k ⟨out,i⟩ nx ⟨hi,ho⟩ hnx hk
  dsimp only at hi ho
  refine⟨fun q=>?_,fun q=>hk _ ?_⟩
  ·have q:i<(ksF c l).length:=hRl ▸ ba.1 q
   obtain⟨ky,x,t,_,hrow,_⟩:=ym q
   have hol:out.length<=i:=by rw[ho];exact pB c l r i
   have hone:iV c l r i=if jL r i=true then [] else [x]:=by
    have e:(RN c l).getD i []=x::t:=by rw[List.getD,hrow];rfl
    unfold iV
    rw[e];rfl
   refine de (fun s=>s=gq c l r (i+1)) (fun k2 hk2=>⟨_,hrow,by omega,_,hb2 i q,fun e=>⟨x,rfl,by rw[List.length_singleton];omega,hk2 _ ?_⟩,fun e=>hk2 _ ?_⟩) fun s hs=>⟨by omega,hnx _ ⟨q,hs⟩ (by dsimp only;omega)⟩
   ·have e:jL r i=false:=by simpa using e
    rw[jD,hone,e,ho];rfl
   ·have e:jL r i=true:=by simpa using e
    rw[jD,hone,e,ho]
    simp
  ·have q:(RN c l).length<=i:=bO.1 q
   obtain rfl:i=(ksF c l).length:=by omega
   exact ho
inductive Rch (r:List N2) (st:Nat->Prop):Nat->Prop
 |base {a:Nat}:st a->Rch r st a
 |step {a b:Nat}:Rch r st a->(⟨a,b⟩:N2)∈r->Rch r st b
def qX (r:List N2) (a:Nat):List Nat:=(r.filter fun x=>x.a==a).map N2.b
theorem tr {r:List N2}{a b:Nat}:b∈qX r a↔(⟨a,b⟩:N2)∈r:=by
 unfold qX
 rw[List.mem_map]
 constructor
 ·rintro⟨⟨a',b'⟩,m,rfl⟩
  obtain⟨m,e⟩:=List.mem_filter.1 m
  have e:a'=a:=by simpa using e
  rw[<- e]
  exact m
 ·intro m
  exact⟨⟨a,b⟩,List.mem_filter.2 ⟨m,by simp⟩,rfl⟩
theorem tq (r:List N2) (a:Nat):(qX r a).length<=r.length:=by
 unfold qX
 rw[List.length_map]
 exact List.length_filter_le _ _
theorem vE (r:List N2) (x:N2) (a:Nat):qX (r++[x]) a=qX r a++if x.a=a then [x.b] else []:=by
 unfold qX
 rw[List.filter_append,List.map_append]
 congr 1
 by_cases e:x.a=a
 ·simp[e]
 ·simp[e]
def cntT (bs:List Bool):Nat:=bs.count true
theorem zv (bs:List Bool):cntT bs<=bs.length:=List.count_le_length
theorem tw:∀ {bs:List Bool}{a:Nat},bs[a]?=some false->cntT (bs.set a true)=cntT bs+1
 |[],_,h=>by cases h
 |b::bs,0,h=>by
  rw[List.getElem?_cons_zero] at h
  cases h
  unfold cntT
  rw[List.set_cons_zero,List.count_cons,List.count_cons]
  simp
 |b::bs,a+1,h=>by
  rw[List.getElem?_cons_succ] at h
  have:=tw h
  unfold cntT at this ⊢
  rw[List.set_cons_succ,List.count_cons,List.count_cons,this]
  omega
theorem zR {bs:List Bool}{a:Nat}{v:Bool} (h:bs[a]?=some v):bs.getD a false=v:=by rw[List.getD,h];rfl
theorem qF {bs:List Bool}{a b:Nat} (h:a<bs.length):(bs.set a true).getD b false=true↔b=a\/bs.getD b false=true:=by
 by_cases e:b=a
 ·subst e
  rw[List.getD,List.getElem?_set_self h]
  simp
 ·rw[List.getD,List.getElem?_set_ne (fun q=>e q.symm)]
  simp[e]
structure ExpI (r:List N2) (n:Nat) (st:Nat->Prop) (M:Nat) (bs:List Bool) (todo:List Nat):Prop where
 len:bs.length=n
 snd:∀ a,bs.getD a false=true->Rch r st a
 tod:∀ a∈todo,a<n/\Rch r st a
 cls:∀ a b,bs.getD a false=true->(⟨a,b⟩:N2)∈r->bs.getD b false=true\/b∈todo
 st:∀ a,st a->bs.getD a false=true\/a∈todo
 msr:(n-cntT bs)*257+todo.length<=M
theorem ExpI.done {r:List N2}{n M:Nat}{st:Nat->Prop}{bs:List Bool} (I:ExpI r n st M bs []) (a:Nat):bs.getD a false=true↔Rch r st a:=by
 refine⟨I.snd a,fun h=>?_⟩
 induction h with
 |base h=>exact (I.st _ h).resolve_right (fun m=>by cases m)
 |step _ m ih=>exact (I.cls _ _ ih m).resolve_right (fun m=>by cases m)
theorem Bh {a b:Nat}:ltI (Int.ofNat a) (Int.ofNat b)=decide (a<b):=by
 rw[dc]
 by_cases h:a<b
 ·rw[decide_eq_true h];exact decide_eq_true (Int.ofNat_lt.2 h)
 ·rw[decide_eq_false h];exact decide_eq_false (fun q=>h (Int.ofNat_lt.1 q))
def pO (c:Circ) (l:List Flt) (ds:List Nat) (a:Nat):Prop:=∃ i∈ds,(osN c l)[i]?=some a
theorem rI {c:Circ}{l:List Flt}{i:Nat} (h:i<l.length):∃ a,(osN c l)[i]?=some a/\a<(ksF c l).length:=by
 obtain⟨f,hf⟩:=aI h
 refine⟨clsOf c l f,by unfold osN;rw[List.getElem?_map,hf];rfl,?_⟩
 exact List.idxOf_lt_length_iff.2 (eI.2 ⟨f,List.mem_of_getElem? hf,rfl⟩)
def nG (c:Circ) (l:List Flt) (bs:List Bool) (i:Nat):List Nat:=(List.range i).filter fun m=>bs.getD ((osN c l).getD m 0) false
theorem ux {c:Circ} (C:Cir c) {l:List Flt} (hl:ListOk c l) {d:List Int}{K:List Nat×Nat->Prop}
  (hd:(∃ ds:List Nat,d=ds.map Int.ofNat/\(∀ i∈ds,i<l.length)/\ds.length<=65536/\∀ r bs,DomOk c (ksF c l) r->(∀ a,bs.getD a false=true↔Rch r (pO c l ds) a)->K (nG c l bs l.length,0))\/∃ bad,d=[bad]/\(bad<0\/Int.ofNat l.length<=bad)/\K ([],1)) :
  bq c l d K:=by
 have hlen:=hl.len
 have hks:=rJ hl
 have hRl:=mA c l
 unfold bq
 refine kq C hl.len hl.check ⟨(fun q=>absurd rfl (dq.1 q)),fun _=>fE C hl.len hl.stuck fun ps cs P=>⟨by omega,by omega,?_⟩⟩
 refine de (fun s=>∃ r,DomOk c (ksF c l) r/\s.2.length=(ksF c l).length/\∀ a,a<(ksF c l).length->s.2[a]?=some (qX r a)) (fun k hk=>gY C hks P.edge P.cs fun qs r hr=>?_) ?_
 ·have hrl:=hr.len
  refine bh (fun s=>s.2<=r.length/\s.1.length=(ksF c l).length/\∀ a,a<(ksF c l).length->s.1[a]?=some (qX (r.take s.2) a)) (fun s=>r.length-s.2) ?_ ⟨Nat.zero_le _,by rw[List.length_replicate];exact hRl,fun i hi=>?_⟩
  ·rintro⟨fs,t⟩ nx ⟨ht,hb1,hb2⟩ hnx
   dsimp only at ht hb1 hb2
   refine⟨fun q=>?_,fun q=>hk _ ⟨r,hr,hb1,?_⟩⟩
   ·have q:t<r.length:=ba.1 q
    obtain⟨x,hx⟩:=aI q
    have hlt:=hr.lt (List.mem_of_getElem? hx)
    have hfl:=tq (r.take t) x.a
    rw[List.length_take] at hfl
    refine⟨x,hx,by rw[hRl];exact hlt.1,_,hb2 x.a hlt.1,by rw[List.length_singleton];omega,by rw[hRl];exact hlt.1,by omega,hnx _ ⟨q,(List.length_set ..).trans hb1,fun a ha=>?_⟩ (by dsimp only;omega)⟩
    dsimp only
    rw[List.getElem?_set,gM hx,vE]
    by_cases e:x.a=a
    ·subst e
     rw[if_pos rfl,if_pos (by omega),if_pos rfl]
    ·rw[if_neg e,hb2 a ha,if_neg e,List.append_nil]
   ·have q:r.length<=t:=bO.1 q
    rw[List.take_of_length_le q] at hb2
    exact hb2
  ·rw[hRl,List.getElem?_replicate,if_pos hi];rfl
 ·rintro⟨qs,fs⟩ ⟨r,hr,hf1,hf2⟩
  have hrl:=hr.len
  dsimp only at hf1 hf2
  refine⟨by omega,by omega,?_⟩
  rcases hd with⟨ds,rfl,hd,hdl,h⟩|⟨bad,rfl,hb,h⟩
  case inr =>
   refine (show aP _ _ from bh (fun s=>s=([],0)) (fun _=>0) ?_ rfl)
   rintro _ nx rfl _
   refine⟨fun _=>⟨bad,rfl,?_⟩,fun q=>absurd (bO.1 q) (by simp)⟩
   refine cX (a:=true) (fun G=>⟨fun _=>G,fun e=>?_⟩) ⟨fun _=>h,fun e=>(by cases e)⟩
   have e:ltI bad (Int.ofNat l.length)=false:=by
    have e0:=uX.1 e
    have:(Int.ofNat 0)=0:=rfl
    refine uX.2 ?_
    rcases hb with hb|hb
    ·omega
    ·exact hb
   rw[e];exact G
  refine aO (fun s=>s.2<=ds.length/\s.1.length=s.2/\∀ a,a∈s.1↔pO c l (ds.take s.2) a) (fun s=>ds.length-s.2) (fun s=>s.length=ds.length/\∀ a,a∈s↔pO c l ds a) ?_ ⟨Nat.zero_le _,rfl,fun a=>⟨fun m=>(by cases m),fun ⟨_,m,_⟩=>by cases m⟩⟩ ?_
  ·rintro k ⟨td,i⟩ nx ⟨hi,ht1,ht2⟩ hnx hk
   dsimp only at hi ht1 ht2
   have hml:(ds.map Int.ofNat).length=ds.length:=List.length_map ..
   refine⟨fun q=>?_,fun q=>hk _ ?_⟩
   ·have q:i<ds.length:=hml ▸ ba.1 q
    obtain⟨d,hd1⟩:=aI q
    have hdl2:=hd d (List.mem_of_getElem? hd1)
    obtain⟨a,ha1,ha2⟩:=rI (c:=c) hdl2
    refine⟨Int.ofNat d,by rw[List.getElem?_map,hd1];rfl,?_⟩
    refine cX (a:=false) (fun G=>⟨fun e=>?_,fun _=>?_⟩) ⟨(fun e=>by cases e),fun _=>⟨d,rfl,a,ha1,by rw[List.length_singleton];omega,by omega,hnx _ ⟨q,by dsimp only;rw[List.length_append,ht1];rfl,fun b=>?_⟩ (by dsimp only;omega)⟩⟩
    ·rw[Bh,decide_eq_true_eq] at e;omega
    ·rw[Bh,decide_eq_true hdl2];exact G
    ·dsimp only
     rw[aD,ht2,gM hd1]
     unfold pO
     constructor
     ·rintro (⟨j,m,e⟩|rfl)
      ·exact⟨j,List.mem_append_left _ m,e⟩
      ·exact⟨d,aD.2 (.inr rfl),ha1⟩
     ·rintro⟨j,m,e⟩
      rcases aD.1 m with m|rfl
      ·exact .inl ⟨j,m,e⟩
      ·rw[ha1] at e;cases e;exact .inr rfl
   ·have q:ds.length<=i:=hml ▸ bO.1 q
    rw[List.take_of_length_le q] at ht2
    exact⟨by omega,ht2⟩
  ·rintro td ⟨htl,htd⟩
   refine aO (fun s=>ExpI r (ksF c l).length (pO c l ds) ((ksF c l).length*257+ds.length) s.1 s.2) (fun s=>((ksF c l).length-cntT s.1)*257+s.2.length) (fun s=>s.length=(ksF c l).length/\∀ a,s.getD a false=true↔Rch r (pO c l ds) a) ?_ ?_ ?_
   ·rintro k ⟨bs,todo⟩ nx I hnx hk
    dsimp only at I
    refine⟨fun q=>?_,fun q=>hk _ ?_⟩
    ·have q:0<todo.length:=ba.1 q
     rcases List.eq_nil_or_concat todo with e|⟨p,a,e⟩
     ·rw[e] at q;cases q
     ·rw[List.concat_eq_append] at e
      subst e
      have hpl:(p++[a]).length-1=p.length:=by rw[List.length_append,List.length_singleton];omega
      have hlast:(p++[a])[(p++[a]).length-1]?=some a:=by rw[hpl];simp
      have htake:(p++[a]).take ((p++[a]).length-1)=p:=by rw[hpl];simp
      have hm:=I.msr
      obtain⟨han,har⟩:=I.tod a (aD.2 (.inr rfl))
      obtain⟨v,hv⟩:=aI (l:=bs) (i:=a) (by rw[I.len];exact han)
      have hfl:=tq r a
      rw[List.length_append,List.length_singleton] at hm
      have hbig:p.length<=65536*257+65536:=by
       have:(ksF c l).length*257<=65536*257:=Nat.mul_le_mul_right _ hks
       omega
      refine⟨q,by rw[List.length_append,List.length_singleton];omega,a,hlast,q,by rw[List.length_append,List.length_singleton];omega,Nat.sub_le _ _,by rw[hRl];exact han,v,hv,fun e=>?_,fun e=>?_⟩
      ·have e:v=false:=by simpa using e
       subst e
       have hc:=tw hv
       have hcl:=zv (bs.set a true)
       rw[List.length_set,I.len] at hcl
       rw[htake]
       have hmul:((ksF c l).length-cntT (bs.set a true))*257+257=((ksF c l).length-cntT bs)*257:=by
        rw[hc] at hcl ⊢
        rw[<- Nat.succ_mul]
        congr 1
        omega
       refine⟨by rw[hRl];exact han,false,hv,by rw[hRl];exact han,_,hf2 a han,by omega,hnx _ ⟨(List.length_set ..).trans I.len,fun b hb=>?_,fun b hb=>?_,fun x b hx hb=>?_,fun b hb=>?_,?_⟩ ?_⟩
       ·rcases (qF (by rw[I.len];exact han)).1 hb with rfl|hb
        ·exact har
        ·exact I.snd b hb
       ·rcases List.mem_append.1 hb with m|m
        ·exact I.tod b (aD.2 (.inl m))
        ·have m:=tr.1 m
         exact⟨(hr.lt m).2,.step har m⟩
       ·rcases (qF (by rw[I.len];exact han)).1 hx with rfl|hx
        ·exact .inr (List.mem_append_right _ (tr.2 hb))
        ·rcases I.cls x b hx hb with q1|q1
         ·exact .inl ((qF (by rw[I.len];exact han)).2 (.inr q1))
         ·rcases aD.1 q1 with m|rfl
          ·exact .inr (List.mem_append_left _ m)
          ·exact .inl ((qF (by rw[I.len];exact han)).2 (.inl rfl))
       ·rcases I.st b hb with q1|q1
        ·exact .inl ((qF (by rw[I.len];exact han)).2 (.inr q1))
        ·rcases aD.1 q1 with m|rfl
         ·exact .inr (List.mem_append_left _ m)
         ·exact .inl ((qF (by rw[I.len];exact han)).2 (.inl rfl))
       ·dsimp only
        rw[List.length_append];omega
       ·dsimp only
        rw[List.length_append,List.length_append,List.length_singleton];omega
      ·have e:v=true:=by simpa using e
       subst e
       have hva:=zR hv
       rw[htake]
       refine hnx _ ⟨I.len,I.snd,fun b hb=>I.tod b (aD.2 (.inl hb)),fun x b hx hb=>?_,fun b hb=>?_,by dsimp only;omega⟩ (by dsimp only;rw[List.length_append,List.length_singleton];omega)
       ·rcases I.cls x b hx hb with q1|q1
        ·exact .inl q1
        ·rcases aD.1 q1 with m|rfl
         ·exact .inr m
         ·exact .inl hva
       ·rcases I.st b hb with q1|q1
        ·exact .inl q1
        ·rcases aD.1 q1 with m|rfl
         ·exact .inr m
         ·exact .inl hva
    ·have q:todo.length<=0:=bO.1 q
     have e:todo=[]:=List.length_eq_zero_iff.1 (by omega)
     subst e
     exact⟨I.len,I.done⟩
   ·have hz:∀ a,(List.replicate (ksF c l).length false).getD a false=false:=by
     intro a
     rw[List.getD,List.getElem?_replicate]
     split <;> rfl
    rw[hRl]
    refine⟨List.length_replicate ..,fun a ha=>?_,fun a ha=>?_,fun a b ha _=>?_,fun a ha=>.inr ((htd a).2 ha),?_⟩
    ·dsimp only at ha;rw[hz] at ha;cases ha
    ·have:=(htd a).1 ha
     obtain⟨i,m,e⟩:=this
     obtain⟨b,hb1,hb2⟩:=rI (c:=c) (hd i m)
     rw[hb1] at e;cases e
     exact⟨hb2,.base ⟨i,m,hb1⟩⟩
    ·dsimp only at ha;rw[hz] at ha;cases ha
    ·dsimp only
     rw[htl]
     have:((ksF c l).length-cntT (List.replicate (ksF c l).length false))*257<=(ksF c l).length*257:=Nat.mul_le_mul_right _ (Nat.sub_le _ _)
     omega
   ·rintro bs ⟨hbl,hbs⟩
    have hosl:(osN c l).length=l.length:=List.length_map ..
    refine aO (fun s=>s.2<=l.length/\s.1=nG c l bs s.2) (fun s=>l.length-s.2) (fun s=>s=nG c l bs l.length) ?_ ⟨Nat.zero_le _,rfl⟩ (fun _ e=>e ▸ h r bs hr hbs)
    rintro k ⟨out,i⟩ nx ⟨hi,ho⟩ hnx hk
    dsimp only at hi ho
    refine⟨fun q=>?_,fun q=>hk _ ?_⟩
    ·have q:i<l.length:=hosl ▸ ba.1 q
     obtain⟨a,ha1,ha2⟩:=rI (c:=c) q
     have hol:out.length<=i:=by
      rw[ho];unfold nG
      exact Nat.le_trans (List.length_filter_le _ _) (by rw[List.length_range];exact Nat.le_refl _)
     have hsucc:nG c l bs (i+1)=nG c l bs i++if bs.getD a false=true then [i] else []:=by
      unfold nG
      rw[Bc]
      have:(osN c l).getD i 0=a:=by rw[List.getD,ha1];rfl
      rw[this]
     obtain⟨v,hv⟩:=aI (l:=bs) (i:=a) (by rw[hbl];exact ha2)
     have hva:=zR hv
     refine de (fun s=>s=nG c l bs (i+1)) (fun k2 hk2=>⟨a,ha1,by rw[hRl];exact ha2,v,hv,fun e=>⟨by rw[List.length_singleton];omega,hk2 _ ?_⟩,fun e=>hk2 _ ?_⟩) fun s hs=>⟨by omega,hnx _ ⟨q,hs⟩ (by dsimp only;omega)⟩
     ·rw[hsucc,hva,if_pos e,ho]
     ·rw[hsucc,hva,if_neg (by rw[e];decide),ho,List.append_nil]
    ·have q:l.length<=i:=hosl ▸ bO.1 q
     obtain rfl:i=l.length:=by omega
     exact ho
theorem vH {c:Circ} (C:Cir c) {l:List Flt} (hl:ListOk c l) {ds:List Nat} (hd:∀ i∈ds,i<l.length) (hdl:ds.length<=65536) {K:List Nat×Nat->Prop}
  (h:∀ r bs,DomOk c (ksF c l) r->(∀ a,bs.getD a false=true↔Rch r (pO c l ds) a)->K (nG c l bs l.length,0)):bq c l (ds.map Int.ofNat) K :=
 ux C hl (.inl ⟨ds,rfl,hd,hdl,h⟩)
def uM (x:CData):CData:=⟨x.inp,x.dffs,x.data0,x.data1,x.bus,false,x.port0,x.port1,x.port2,x.port3,x.gates,x.outs⟩
theorem xK {x:CData} (h:CB x):CB (uM x):=⟨h.inp,h.dffs,h.data0,h.data1,h.port0,h.port1,h.port2,h.port3,h.gates,h.outs⟩
theorem wD {x:CData} (hx:CB x) {K:Circ->Prop} (h:K (fh (uM x))):bM x K:=ug (xK hx) h
theorem xC {x:CData} (hm:x.mem=false):Cir (fh x):=by
 refine⟨vM hm,by rw[kr,hm];rfl,fun i y h=>?_⟩
 rcases vG hm h with⟨_,rfl⟩|⟨_,_,d,_,rfl⟩|⟨h1,_,g,hg⟩
 ·show (0:Nat)<=14;decide
 ·show (14:Nat)<=14;decide
 ·have hi:=ag h
  have hn:(fh x).nodes.length=(cp x).length:=gN _
  have q:=tA x.bus g (ks:=((cp x).take i).map Node.kind) (by rw[List.length_map,List.length_take];omega)
  rw[<- hg] at q
  have:=q.kind
  omega
def gU (c:Circ):List Flt:=jl 0 (gV c)
theorem pc {c:Circ} (C:Cir c):(gV c).length<=272:=by
 have:=jo C _ (Nat.le_refl _)
 have:=C.len
 unfold gV
 omega
theorem xJ {c:Circ} (C:Cir c):(gU c).length<=544:=by
 have:=pc C
 unfold gU
 rw[tH];omega
theorem sv {c:Circ}{f:Flt}:f∈gU c ↔ ∃ s,VS c s/\f=fltS s:=by
 unfold gU jl gV eD
 rw[List.mem_flatMap]
 constructor
 ·rintro⟨x,hx,m⟩
  obtain⟨i,hi,hx⟩:=List.mem_flatMap.1 hx
  unfold oD at hx
  obtain⟨j,hj,rfl⟩:=List.mem_map.1 hx
  have hi:=List.mem_range.1 hi
  have hj:=List.mem_range.1 hj
  simp only[List.mem_cons,List.not_mem_nil,or_false] at m
  rcases m with rfl|rfl
  ·exact⟨⟨i,j,0⟩,⟨hi,by dsimp only;omega,by dsimp only;omega⟩,rfl⟩
  ·exact⟨⟨i,j,1⟩,⟨hi,by dsimp only;omega,by dsimp only;omega⟩,rfl⟩
 ·rintro⟨⟨n,p,v⟩,V,rfl⟩
  have h1:=V.node
  have h2:=V.pin
  have h3:=V.v
  dsimp only at h1 h2 h3
  refine⟨⟨n,Int.ofNat p-Int.ofNat 1⟩,List.mem_flatMap.2 ⟨n,List.mem_range.2 h1,?_⟩,?_⟩
  ·unfold oD
   exact List.mem_map.2 ⟨p,List.mem_range.2 (by omega),rfl⟩
  ·have:v=0\/v=1:=by omega
   simp only[List.mem_cons,List.not_mem_nil,or_false]
   rcases this with rfl|rfl
   ·exact .inl rfl
   ·exact .inr rfl
theorem zD {c:Circ} (C:Cir c):ListOk c (gU c):=by
 refine⟨Nat.le_trans (xJ C) (by decide),fun f m _=>?_,fun f m K h=>?_⟩
 ·obtain⟨s,V,rfl⟩:=sv.1 m
  exact xA V
 ·obtain⟨s,V,rfl⟩:=sv.1 m
  exact wI C (xA V) h
theorem zl {c:Circ} (C:Cir c) {K:List Flt×Nat->Prop} (h:K (gU c,0)):gQ c 0 K:=by
 have:=pc C
 exact⟨gV c,sI C rfl,by decide,by omega,h⟩
theorem vP {c:Circ}{l:List Flt}{f g:Flt} (hf:f∈l) (hg:g∈l):clsOf c l f=clsOf c l g↔cd c f=cd c g:=by
 constructor
 ·intro e
  have h1:=kl (eI.2 ⟨f,hf,rfl⟩:cd c f∈ksF c l)
  have h2:=kl (eI.2 ⟨g,hg,rfl⟩:cd c g∈ksF c l)
  unfold clsOf at e
  rw[e,h2] at h1
  exact (Option.some.inj h1).symm
 ·intro e
  unfold clsOf;rw[e]
theorem rP {c:Circ}{l:List Flt}{i:Nat}{row:List Nat} (h:(RN c l)[i]?=some row):∃ k,(ksF c l)[i]?=some k/\row=fA c l k:=by
 unfold RN at h
 rw[List.getElem?_map] at h
 obtain⟨k,hk,e⟩:=Option.map_eq_some_iff.1 h
 exact⟨k,hk,e.symm⟩
theorem rG {c:Circ}{l:List Flt}{i:Nat}{row:List Nat} (h:(RN c l)[i]?=some row) {m:Nat} (hm:m∈row):∃ f,l[m]?=some f/\clsOf c l f=i:=by
 obtain⟨k,hk,rfl⟩:=rP h
 obtain⟨f,hf,e⟩:=jP.1 hm
 refine⟨f,hf,?_⟩
 unfold clsOf
 rw[e]
 exact xO (qJ c l) hk
theorem zN {a b:List Nat} (ha:a.length<2 ^ 60) {K:Bool->Prop} (h:K (decide (a=b))):aA a b K:=by
 unfold aA
 by_cases e:a.length=b.length
 ·refine cX (a:=false) (fun G=>⟨fun q=>absurd e (dq.1 q),fun _=>?_⟩) ⟨(fun q=>by cases q),fun _=>?_⟩
  ·have:neN a.length a.length=false:=pD.2 rfl
   rw[this];exact G
  ·refine aO (fun i=>i<=a.length/\a.take i=b.take i) (fun i=>a.length-i) (fun _=>a=b) ?_ ⟨Nat.zero_le _,rfl⟩ (fun _ q=>?_)
   ·rintro k i nx ⟨hi,hp⟩ hnx hk
    refine⟨fun q=>?_,fun q=>hk _ ?_⟩
    ·have q:i<a.length:=ba.1 q
     obtain⟨x,hx⟩:=aI q
     obtain⟨y,hy⟩:=aI (l:=b) (i:=i) (by omega)
     refine⟨x,hx,y,hy,fun q2=>?_,fun q2=>⟨by omega,hnx _ ⟨q,?_⟩ (by omega)⟩⟩
     ·have:a≠b:=by
       rintro rfl
       rw[hx] at hy;cases hy
       exact dq.1 q2 rfl
      rw[decide_eq_false this] at h;exact h
     ·rw[gM hx,gM hy,hp,pD.1 q2]
    ·have q:a.length<=i:=bO.1 q
     rw[List.take_of_length_le q,List.take_of_length_le (by omega)] at hp
     exact hp
   ·rw[decide_eq_true q] at h;exact h
 ·have:a≠b:=by rintro rfl;exact e rfl
  rw[decide_eq_false this] at h
  exact cX (a:=true) (fun G=>⟨fun _=>G,fun q=>absurd (pD.1 q) e⟩) ⟨fun _=>h,fun q=>by cases q⟩
theorem vv:RN bJ (gU bJ)=[[0,2,4,6,8],[1,7],[3,9],[5]]:=by decide +kernel
theorem zn:(ksF bJ (gU bJ)).length=4:=by decide +kernel
theorem yB:domRaw bJ (ksF bJ (gU bJ)) 3=[⟨1,3⟩,⟨2,3⟩]:=by decide +kernel
theorem uY:osN bJ (gU bJ)=[0,1,0,2,0,3,0,1,0,2]:=by decide +kernel
theorem oF {r:List N2} (h:DomOk bJ (ksF bJ (gU bJ)) r):r=[⟨1,3⟩,⟨2,3⟩]:=by
 refine qH h.sorted ?_ fun x=>?_
 ·refine List.Pairwise.cons (fun y m=>?_) (List.pairwise_singleton _ _)
  rw[List.mem_singleton] at m
  subst m
  exact .inl (by decide)
 ·rw[h.mem]
  show x∈domRaw bJ (ksF bJ (gU bJ)) 3↔_
  rw[yB]
theorem vF:gq bJ (gU bJ) [⟨1,3⟩,⟨2,3⟩] 4=[0,1,3]:=by
 unfold gq iV
 rw[vv]
 decide +kernel
theorem yj {bs:List Bool} (h:∀ a,bs.getD a false=true↔Rch [⟨1,3⟩,⟨2,3⟩] (pO bJ (gU bJ) [7]) a):nG bJ (gU bJ) bs 10=[1,5,7]:=by
 have hst:∀ a,pO bJ (gU bJ) [7] a↔a=1:=by
  intro a
  unfold pO
  rw[uY]
  constructor
  ·rintro⟨i,m,e⟩
   rw[List.mem_singleton] at m
   subst m
   cases e;rfl
  ·rintro rfl
   exact⟨7,List.mem_singleton.2 rfl,rfl⟩
 have hR:∀ a,Rch [⟨1,3⟩,⟨2,3⟩] (pO bJ (gU bJ) [7]) a->a=1\/a=3:=by
  intro a ha
  induction ha with
  |base q=>exact .inl ((hst _).1 q)
  |step _ m _ =>
   simp only[List.mem_cons,List.not_mem_nil,or_false,N2.mk.injEq] at m
   omega
 have b0:bs.getD 0 false=false:=by
  rw[Bool.eq_false_iff];intro q
  have:=hR _ ((h 0).1 q);omega
 have b2:bs.getD 2 false=false:=by
  rw[Bool.eq_false_iff];intro q
  have:=hR _ ((h 2).1 q);omega
 have b1:bs.getD 1 false=true:=(h 1).2 (.base ((hst 1).2 rfl))
 have b3:bs.getD 3 false=true:=(h 3).2 (.step (.base ((hst 1).2 rfl)) (by simp))
 unfold nG
 rw[uY]
 have e:(List.range 10).filter (fun m=>bs.getD (([0,1,0,2,0,3,0,1,0,2]:List Nat).getD m 0) false)=(List.range 10).filter (fun m=>([false,true,false,true]:List Bool).getD (([0,1,0,2,0,3,0,1,0,2]:List Nat).getD m 0) false):=by
  refine List.filter_congr fun m hm=>?_
  have hm:=List.mem_range.1 hm
  have key:∀ q,q<4->bs.getD q false=([false,true,false,true]:List Bool).getD q false:=by
   intro q hq
   have:q=0\/q=1\/q=2\/q=3:=by omega
   rcases this with rfl|rfl|rfl|rfl
   ·exact b0
   ·exact b1
   ·exact b2
   ·exact b3
  refine key _ ?_
  have hall:∀ m,m<10->([0,1,0,2,0,3,0,1,0,2]:List Nat).getD m 0<4:=by decide
  exact hall m hm
 rw[e]
 decide
theorem uL {K:Bool->Prop} (h:K true):bp K:=by
 have C:=xa
 have hl:=zD C
 have h0:neN 0 0=false:=pD.2 rfl
 unfold bp bY
 refine zl C (kV C hl (pR C hl fun r hr=>zz C hl fun r2 hr2=>?_))
 have e1:=oF hr
 have e2:=oF hr2
 subst e1 e2
 refine vH (ds:=[7]) C hl (fun i m=>?_) (by decide) fun r3 bs hr3 hbs=>?_
 ·rw[List.mem_singleton] at m
  subst m
  decide
 have e3:=oF hr3
 subst e3
 have hx:=yj hbs
 have hc:gq bJ (gU bJ) [⟨1,3⟩,⟨2,3⟩] (ksF bJ (gU bJ)).length=[0,1,3]:=by rw[zn];exact vF
 have hx:nG bJ (gU bJ) bs (gU bJ).length=[1,5,7]:=hx
 dsimp only
 rw[hc,hx,vv]
 have ik:∀ (a b:List Nat) (K:Bool->Prop),a=b->a.length<2 ^ 60->K true->aA a b K:=fun a b K e q k=>zN q (by rw[decide_eq_true e];exact k)
 refine cX (a:=false) (fun G=>⟨fun q=>absurd rfl (dq.1 q),fun _=>⟨fun q=>absurd rfl (dq.1 q),fun _=>⟨fun q=>absurd rfl (dq.1 q),fun _=>⟨fun q=>absurd rfl (dq.1 q),fun _=>⟨fun q=>absurd rfl (dq.1 q),fun _=>G⟩⟩⟩⟩⟩) ⟨(fun q=>by cases q),fun _=>?_⟩
 refine⟨_,rfl,ik _ _ _ rfl (by decide) ⟨fun _=>?_,fun q=>(by cases q)⟩⟩
 refine⟨_,rfl,ik _ _ _ rfl (by decide) ⟨fun _=>?_,fun q=>(by cases q)⟩⟩
 refine⟨_,rfl,ik _ _ _ rfl (by decide) ⟨fun _=>?_,fun q=>(by cases q)⟩⟩
 refine⟨_,rfl,ik _ _ _ rfl (by decide) ⟨fun _=>?_,fun q=>(by cases q)⟩⟩
 refine⟨_,rfl,fun _=>⟨_,rfl,fun _=>?_,fun q=>absurd q (by decide)⟩,fun q=>absurd q (by decide)⟩
 refine ik _ _ _ rfl (by decide) ⟨fun _=>?_,fun q=>(by cases q)⟩
 exact ik _ _ _ rfl (by decide) h
theorem Bs (a:Nat):ltN a 0=false:=bO.2 (Nat.zero_le _)
theorem ti {c:Circ}{l:List Flt}{i:Nat}{row:List Nat} (h:(RN c l)[i]?=some row) {k m:Nat} (hm:row[k]?=some m):∃ f,l[m]?=some f/\f∈l/\clsOf c l f=i:=by
 obtain⟨f,h1,h2⟩:=rG h (List.mem_of_getElem? hm)
 exact⟨f,h1,List.mem_of_getElem? h1,h2⟩
structure RulOk (c:Circ) (r:List F2):Prop where
 mem:∀ z,z∈r ↔ ∃ s w,down c s=some w/\z=⟨fltS s,fltS w⟩
 len:r.length<=2000
def nuF (c:Circ) (f:Flt):Nat:=numN c (zx f)
structure Lab (c:Circ) (L:List Nat):Prop where
 len:L.length=npN c
 lab:∀ s,VS c s->∃ t,VS c t/\L[numN c s]?=some (numN c t)/\clsN c t=clsN c s/\numN c t<=numN c s
structure LabE (c:Circ) (L:List Nat):Prop where
 lab:Lab c L
 same:∀ s w,down c s=some w->L[numN c s]?=L[numN c w]?
theorem apT {P:Bool->Prop}{a b:Bool} (e:a=b) (h:P b):P a:=e ▸ h
inductive Dep (c:Circ):Nat->Nat->Prop
 |refl (a:Nat):Dep c a a
 |step {a m b:Nat} {x:Node}:c.nodes[a]?=some x->x.kind≠14->m∈x.ins->Dep c m b->Dep c a b
theorem Dep.trans {c:Circ}{a b d:Nat} (h:Dep c a b) (h2:Dep c b d):Dep c a d:=by
 induction h with
 |refl a=>exact h2
 |step hx hk hm _ ih=>exact .step hx hk hm (ih h2)
def mk1 (ds:List Bool) (b:Nat):Prop:=ds.getD b false=true
theorem vk {ds:List Bool}{a b:Nat} (ha:a<ds.length):mk1 (ds.set a true) b↔b=a\/mk1 ds b:=by
 unfold mk1
 rw[List.getD,List.getElem?_set]
 by_cases e:a=b
 ·subst e;rw[if_pos rfl,if_pos ha];simp
 ·rw[if_neg e]
  exact⟨.inr,fun q=>q.elim (fun e2=>absurd e2.symm e) id⟩
theorem vu {ds:List Bool}{b:Nat}{v:Bool} (h:ds[b]?=some v):mk1 ds b↔v=true:=by unfold mk1;rw[List.getD,h];rfl
theorem xI {c:Circ} (C:Cir c) {a m:Nat}{x:Node} (hx:c.nodes[a]?=some x) (hk:x.kind≠14) (hm:m∈x.ins):m<a:=by
 have g:=C.good.node a x hx
 have hk2:=C.kinds a x hx
 refine g.acyc ?_ (by omega) m hm
 refine Nat.pos_of_ne_zero fun e=>?_
 have:=g.arity
 rw[e] at this
 have h2:x.ins.length=0:=by
  obtain⟨_,h2⟩:=this
  have e2:hiZ 0=0:=by decide
  rw[e2] at h2
  simp only[Int.ofNat_eq_natCast] at h2
  omega
 rw[List.length_eq_zero_iff] at h2
 rw[h2] at hm
 cases hm
theorem uW {c:Circ}{a b:Nat} (h:a≠b) (hk:∀ x,c.nodes[a]?=some x->x.kind≠14->∀ m∈x.ins,¬ Dep c m b):¬ Dep c a b:=by
 intro d
 cases d with
 |refl=>exact h rfl
 |step hx h14 hm d=>exact hk _ hx h14 _ hm d
theorem pe {c:Circ} (C:Cir c) {b:Nat}:∀ (fu a d:Nat),a<fu->a<c.nodes.length->d+a<=c.nodes.length->∀ {K:Bool->Prop},(Dep c a b->K true)->(¬ Dep c a b->K false)->aY fu c a b d K
 |0,a,d,h,_,_,_,_,_=>absurd h (Nat.not_lt_zero _)
 |fu+1,a,d,hf,ha,hd,K,h1,h2=>by
  have hlen:=C.len
  obtain⟨x,hx⟩:=aI ha
  unfold aY
  refine⟨fun e=>h1 (by rw[eh.1 e];exact .refl _),fun e=>?_⟩
  have hne:a≠b:=fI.1 e
  refine cX (a:=eqN x.kind 14) (fun g=>⟨fun q=>absurd (ba.1 q) (by omega),fun _=>⟨x,hx,g⟩⟩) ⟨fun e2=>h2 (uW hne fun y hy h14=>?_),fun e2=>?_⟩
  ·rw[hx] at hy;cases hy;exact absurd (eh.1 e2) h14
  have h14:x.kind≠14:=fI.1 e2
  have few:=(C.good.node a x hx).few
  refine aO (fun i=>i<=x.ins.length/\∀ m∈x.ins.take i,¬ Dep c m b) (fun i=>x.ins.length-i) (fun _=>∀ m∈x.ins,¬ Dep c m b) ?_ ⟨Nat.zero_le _,fun m q=>by cases q⟩ fun _ q=>h2 (uW hne fun y hy _=>by rw[hx] at hy;cases hy;exact q)
  rintro k i nx ⟨hi,hv⟩ hnx hk
  refine⟨x,hx,fun q=>?_,fun q=>hk _ ?_⟩
  ·have q:i<x.ins.length:=ba.1 q
   obtain⟨m,hm⟩:=aI q
   have hma:=xI C hx h14 (List.mem_of_getElem? hm)
   refine⟨x,hx,m,hm,by omega,pe C fu m (d+1) (by omega) (by omega) (by omega) (fun dm=>⟨fun _=>h1 (.step hx h14 (List.mem_of_getElem? hm) dm),fun q=>by cases q⟩) fun dm=>⟨(fun q=>by cases q),fun _=>⟨by omega,hnx _ ⟨q,fun w hw=>?_⟩ (by omega)⟩⟩⟩
   rw[gM hm,aD] at hw
   rcases hw with hw|rfl
   ·exact hv w hw
   ·exact dm
  ·have q:x.ins.length<=i:=bO.1 q
   rw[List.take_of_length_le q] at hv
   exact hv
theorem tn {c:Circ} (C:Cir c) {a b:Nat} (ha:a<c.nodes.length) {K:Bool->Prop} (h1:Dep c a b->K true) (h2:¬ Dep c a b->K false):bL c a b 0 K:=⟨a+1,pe C (a+1) a 0 (by omega) ha (by omega) h1 h2⟩
def cntB (l:List Bool):Nat:=l.countP id
theorem rX (l:List Bool):cntB l<=l.length:=List.countP_le_length
theorem sq:∀ {l:List Bool}{i:Nat},l[i]?=some false->cntB (l.set i true)=cntB l+1
 |[],i,h=>by cases h
 |a::l,0,h=>by
  cases h
  show List.countP id (true::l)=List.countP id (false::l)+1
  rw[List.countP_cons,List.countP_cons]
  rfl
 |a::l,i+1,h=>by
  have ih:=sq (l:=l) (i:=i) h
  show List.countP id (a::l.set i true)=_
  unfold cntB at ih ⊢
  rw[List.countP_cons,List.countP_cons,ih]
  omega
theorem AL {ds:List Bool}{b:Nat} (h:mk1 ds b):b<ds.length:=by
 unfold mk1 at h
 refine Decidable.byContradiction fun q=>?_
 rw[List.getD,List.getElem?_eq_none (by omega)] at h
 cases h
structure ConeI (c:Circ) (a:Nat) (ds:List Bool) (todo:List Nat):Prop where
 len:ds.length=c.nodes.length
 dep:∀ b,mk1 ds b->Dep c a b
 mem:∀ t∈todo,mk1 ds t
 top:mk1 ds a
 cl:∀ z x,mk1 ds z->z ∉ todo->c.nodes[z]?=some x->x.kind≠14->∀ m∈x.ins,mk1 ds m
 sz:todo.length+2*(c.nodes.length-cntB ds)<=2*c.nodes.length+1
theorem ConeI.done {c:Circ}{a:Nat}{ds:List Bool} (I:ConeI c a ds []) (b:Nat):mk1 ds b↔Dep c a b:=by
 refine⟨I.dep b,fun d=>?_⟩
 have key:∀ z b,Dep c z b->mk1 ds z->mk1 ds b:=by
  intro z b d
  induction d with
  |refl=>exact id
  |step hx hk hm _ ih=>exact fun hz=>ih (I.cl _ _ hz (by simp) hx hk _ hm)
 exact key a b d I.top
theorem vK {l:List Nat}{z:Nat} (h:l[l.length-1]?=some z):l=l.take (l.length-1)++[z]:=by
 have:=gM h
 rw[List.take_of_length_le (by omega)] at this
 exact this
theorem sw {c:Circ} (C:Cir c) {a:Nat} (ha:a<c.nodes.length) {K:List Bool->Prop} (h:∀ es:List Bool,es.length=c.nodes.length->(∀ b,mk1 es b↔Dep c a b)->K es):cM c a K:=by
 have hlen:=C.len
 unfold cM
 have hr:(List.replicate c.nodes.length (false:Bool))[a]?=some false:=by rw[List.getElem?_replicate,if_pos ha]
 have hno:∀ z,¬ mk1 (List.replicate c.nodes.length false) z:=by
  intro z
  unfold mk1
  rw[List.getD,List.getElem?_replicate]
  split <;> simp
 refine⟨by omega,by omega,ha,_,hr,?_⟩
 refine aO (fun s=>ConeI c a s.1 s.2) (fun s=>s.2.length+2*(c.nodes.length-cntB s.1)) (fun es=>es.length=c.nodes.length/\∀ b,mk1 es b↔Dep c a b) ?_ ?_ fun es q=>⟨q.1.symm,h es q.1 q.2⟩
 ·rintro k ⟨ds,todo⟩ nx I hnx hk
  dsimp only at I
  refine⟨fun q=>?_,fun q=>hk _ ⟨I.len,?_⟩⟩
  ·have q:0<todo.length:=ba.1 q
   have hsz:=I.sz
   obtain⟨z,hz⟩:=aI (show todo.length-1<todo.length by omega)
   have es:=vK hz
   have hzm:mk1 ds z:=I.mem z (List.mem_of_getElem? hz)
   have hzn:z<c.nodes.length:=by have:=AL hzm;have:=I.len;omega
   obtain⟨x,hx⟩:=aI hzn
   have htl:(todo.take (todo.length-1)).length=todo.length-1:=by rw[List.length_take];omega
   have hin:∀ w,w∈todo->w∈todo.take (todo.length-1)\/w=z:=fun w m=>by rw[es] at m;exact aD.1 m
   have hsub:∀ w∈todo.take (todo.length-1),w∈todo:=fun w m=>List.mem_of_mem_take m
   have hlt:=rX ds
   have hl:=I.len
   refine⟨by omega,by omega,z,hz,by omega,by omega,by omega,x,hx,fun e=>hnx _ ⟨I.len,I.dep,fun t m=>I.mem t (hsub t m),I.top,fun w y hw hn hy h14=>?_,by dsimp only;rw[htl];omega⟩ (by dsimp only;rw[htl];omega),fun e=>⟨x,hx,?_⟩⟩
   ·refine I.cl w y hw (fun m=>?_) hy h14
    rcases hin w m with m|rfl
    ·exact hn m
    ·rw[hx] at hy;cases hy;exact absurd (eh.1 e) h14
   have h14:x.kind≠14:=fI.1 e
   have few:=(C.good.node z x hx).few
   refine bh (fun s=>s.2.2<=x.ins.length/\s.1.length=c.nodes.length/\(∀ b,mk1 s.1 b->Dep c a b)/\(∀ b,mk1 ds b->mk1 s.1 b)/\(∀ b,mk1 s.1 b->mk1 ds b\/b∈s.2.1)/\(∀ t∈s.2.1,mk1 s.1 t)/\(∀ t∈todo.take (todo.length-1),t∈s.2.1)/\(∀ m∈x.ins.take s.2.2,mk1 s.1 m)/\s.2.1.length+2*(c.nodes.length-cntB s.1)<=todo.length-1+2*(c.nodes.length-cntB ds)) (fun s=>x.ins.length-s.2.2) ?_
    ⟨Nat.zero_le _,I.len,I.dep,fun _=>id,fun _=>.inl,fun t m=>I.mem t (hsub t m),fun _=>id,(fun m q=>by cases q),by dsimp only;rw[htl];omega⟩
   rintro⟨es,td,i⟩ nx2 ⟨hi,g1,g2,g3,g4,g5,g6,g7,g8⟩ hnx2
   dsimp only at hi g1 g2 g3 g4 g5 g6 g7 g8
   refine⟨fun q2=>?_,fun q2=>hnx _ ⟨g1,g2,g5,g3 _ I.top,fun w y hw hn hy hy14=>?_,by dsimp only;omega⟩ (by dsimp only;omega)⟩
   ·have q2:i<x.ins.length:=ba.1 q2
    obtain⟨m,hm⟩:=aI q2
    have hmn:m<c.nodes.length:=(C.good.node z x hx).ins m (List.mem_of_getElem? hm)
    obtain⟨v,hv⟩:=aI (show m<es.length by omega)
    have hc1:=rX es
    refine de (fun s=>s.1.length=c.nodes.length/\(∀ b,mk1 s.1 b->Dep c a b)/\(∀ b,mk1 ds b->mk1 s.1 b)/\(∀ b,mk1 s.1 b->mk1 ds b\/b∈s.2)/\(∀ t∈s.2,mk1 s.1 t)/\(∀ t∈todo.take (todo.length-1),t∈s.2)/\(∀ m∈x.ins.take (i+1),mk1 s.1 m)/\s.2.length+2*(c.nodes.length-cntB s.1)<=todo.length-1+2*(c.nodes.length-cntB ds)) (fun k3 hk3=>⟨m,hm,hmn,v,hv,fun e3=>?_,fun e3=>hk3 _ ?_⟩) fun s hs=>⟨by omega,hnx2 _ ⟨q2,hs⟩ (by dsimp only;omega)⟩
    ·have hvf:v=false:=by cases v <;> first|rfl|cases e3
     subst hvf
     have hset:=fun b=>vk (ds:=es) (a:=m) (b:=b) (by omega)
     have hcs:=sq hv
     have hc2:=rX (es.set m true)
     rw[List.length_set] at hc2
     refine⟨by rw[List.length_singleton];omega,hmn,_,hv,hk3 _ ⟨by rw[List.length_set];exact g1,fun b q3=>?_,fun b q3=>(hset b).2 (.inr (g3 b q3)),fun b q3=>?_,fun t q3=>?_,fun t q3=>List.mem_append_left _ (g6 t q3),fun w hw=>?_,?_⟩⟩
     ·rcases (hset b).1 q3 with rfl|q3
      ·exact (I.dep z hzm).trans (.step hx h14 (List.mem_of_getElem? hm) (.refl _))
      ·exact g2 b q3
     ·rcases (hset b).1 q3 with rfl|q3
      ·exact .inr (aD.2 (.inr rfl))
      ·exact (g4 b q3).imp id fun q=>aD.2 (.inl q)
     ·rcases aD.1 q3 with q3|rfl
      ·exact (hset t).2 (.inr (g5 t q3))
      ·exact (hset t).2 (.inl rfl)
     ·rw[gM hm,aD] at hw
      rcases hw with hw|rfl
      ·exact (hset w).2 (.inr (g7 w hw))
      ·exact (hset w).2 (.inl rfl)
     ·dsimp only
      rw[List.length_append,List.length_singleton]
      omega
    ·have hvt:v=true:=by cases v <;> first|rfl|cases e3
     subst hvt
     refine⟨g1,g2,g3,g4,g5,g6,fun w hw=>?_,g8⟩
     rw[gM hm,aD] at hw
     rcases hw with hw|rfl
     ·exact g7 w hw
     ·exact (vu hv).2 rfl
   ·have q2:x.ins.length<=i:=bO.1 q2
    rw[List.take_of_length_le q2] at g7
    by_cases ez:w=z
    ·subst ez
     rw[hx] at hy
     cases hy
     exact g7
    ·intro m hm
     have hwd:mk1 ds w:=(g4 w hw).resolve_right hn
     refine g3 m (I.cl w y hwd (fun q3=>?_) hy hy14 m hm)
     rcases hin w q3 with q3|q3
     ·exact hn (g6 w q3)
     ·exact ez q3
  ·have q:todo.length<=0:=bO.1 q
   have:todo=[]:=List.length_eq_zero_iff.1 (by omega)
   subst this
   exact I.done
 ·have hset:=fun b=>vk (ds:=List.replicate c.nodes.length false) (a:=a) (b:=b) (by rw[List.length_replicate];exact ha)
  refine⟨by simp,fun b q=>?_,fun t m=>?_,(hset a).2 (.inl rfl),fun w y hw hn=>?_,?_⟩
  ·rcases (hset b).1 q with rfl|q
   ·exact .refl _
   ·exact absurd q (hno b)
  ·rw[List.mem_singleton] at m
   exact (hset t).2 (.inl m)
  ·rcases (hset w).1 hw with rfl|q
   ·exact absurd (List.mem_singleton.2 rfl) hn
   ·exact absurd q (hno w)
  ·dsimp only
   rw[List.length_singleton]
   omega
structure BrOk (c:Circ) (f:Flt):Prop where
 model:f.model=2\/f.model=3
 value:f.value<=1
 val3:f.model=3->f.value=0
 pin:f.line.pin=Int.negSucc 0
 node:f.line.node<c.nodes.length
 other:f.other<c.nodes.length
 ne:f.line.node≠f.other
 le:f.model=2->f.line.node<=f.other
 kind1:kd c f.line.node≠12
 kind2:kd c f.other≠12
 dep1:¬ Dep c f.line.node f.other
 dep2:¬ Dep c f.other f.line.node
theorem xx (a:Int):neZ a a=false:=by rw[uf];simp
theorem vj {c:Circ}{f:Flt} (hv3:f.model=3->f.value=0) (hp:f.line.pin=Int.negSucc 0) (ho:f.other<c.nodes.length) (hle:f.model=2->f.line.node<=f.other) {rest:Bool->Prop} (h:rest (eqN f.line.node f.other)) :
  al (α:=Bool) (fun k2=>((neZ f.line.pin (Int.negSucc 0))=true->k2 true)/\((neZ f.line.pin (Int.negSucc 0))=false->((ltN f.other 0)=true->k2 true)/\((ltN f.other 0)=false->((!ltN f.other c.nodes.length)=true->k2 true)/\((!ltN f.other c.nodes.length)=false->((eqN f.line.node f.other)=true->k2 true)/\((eqN f.line.node f.other)=false->((eqN f.model 2)=true->((ltN f.other f.line.node)=true->k2 true)/\((ltN f.other f.line.node)=false->((eqN f.model 3)=true->k2 (neN f.value 0))/\((eqN f.model 3)=false->k2 false)))/\((eqN f.model 2)=false->((eqN f.model 3)=true->k2 (neN f.value 0))/\((eqN f.model 3)=false->k2 false))))))) rest:=by
 refine ir ?_
 rw[hp,xx]
 refine⟨(fun q=>by cases q),fun _=>⟨fun q=>absurd (ba.1 q) (Nat.not_lt_zero _),fun _=>⟨fun q=>absurd (je.1 q) (by omega),fun _=>⟨fun q=>by rw[q] at h;exact h,fun q=>?_⟩⟩⟩⟩
 rw[q] at h
 refine⟨fun q2=>?_,fun q2=>⟨fun q3=>?_,fun _=>h⟩⟩
 ·have q2:=eh.1 q2
  exact⟨fun q3=>absurd (ba.1 q3) (by have:=hle q2;omega),fun _=>⟨fun q3=>absurd (eh.1 q3) (by omega),fun _=>h⟩⟩
 ·rw[hv3 (eh.1 q3)]
  exact apT (pD.2 rfl) h
theorem uD {c:Circ} (C:Cir c) {f:Flt} (hm:f.model=2\/f.model=3) (hv:f.value<=1) (hv3:f.model=3->f.value=0) (hp:f.line.pin=Int.negSucc 0) (hn:f.line.node<c.nodes.length) (ho:f.other<c.nodes.length) (hle:f.model=2->f.line.node<=f.other) {K:Nat->Prop} (h:∀ r,(r=0->BrOk c f)->K r):bw c f K:=by
 obtain⟨x,hx⟩:=aI hn
 obtain⟨y,hy⟩:=aI ho
 unfold bw
 refine cX (a:=false) (fun g=>⟨fun q=>absurd (ba.1 q) (by omega),fun _=>⟨fun q=>absurd (ba.1 q) (by omega),fun _=>⟨fun q=>absurd (ba.1 q) (Nat.not_lt_zero _),fun _=>⟨fun q=>absurd (je.1 q) (by omega),fun _=>⟨fun q=>?_,fun _=>⟨x,hx,?_⟩⟩⟩⟩⟩⟩) ⟨(fun e=>by cases e),fun _=>⟨fun q=>absurd (ba.1 q) (by omega),fun _=>?_⟩⟩
 ·rw[hp] at q
  exact absurd (sh.1 q) (Int.lt_irrefl _)
 ·have:ltI f.line.pin (Int.ofNat x.ins.length)=true:=sh.2 (by rw[hp];simp only[Int.ofNat_eq_natCast];omega)
  exact apT (a := !ltI f.line.pin (Int.ofNat x.ins.length)) (b:=false) (by rw[this];rfl) g
 refine vj hv3 hp ho hle ⟨fun _=>h 1 (fun e=>by cases e),fun q1=>?_⟩
 refine de (fun b=>b=false->x.kind≠12/\y.kind≠12) (fun k hk=>⟨x,hx,fun _=>hk _ (fun e=>by cases e),fun q2=>⟨y,hy,hk _ fun q3=>⟨fI.1 q2,fI.1 q3⟩⟩⟩) fun b hb=>⟨fun _=>h 7 (fun e=>by cases e),fun eb=>?_⟩
 refine de (fun b=>b=false->¬ Dep c f.line.node f.other/\¬ Dep c f.other f.line.node) (fun k hk=>tn C hn (fun _=>⟨fun _=>hk _ (fun e=>by cases e),fun e=>by cases e⟩) fun d1=>⟨(fun e=>by cases e),fun _=>tn C ho (fun _=>hk _ (fun e=>by cases e)) fun d2=>hk _ fun _=>⟨d1,d2⟩⟩) fun b2 hb2=>⟨fun _=>h 6 (fun e=>by cases e),fun eb2=>h 0 fun _=>?_⟩
 have hk:=hb eb
 have hd:=hb2 eb2
 exact⟨hm,hv,hv3,hp,hn,ho,fI.1 q1,hle,by rw[jc hx];exact hk.1,by rw[jc hy];exact hk.2,hd.1,hd.2⟩
theorem uT {ds:List Bool}{b:Nat} (hb:b<ds.length) (h:¬ mk1 ds b):ds[b]?=some false:=by
 obtain⟨v,hv⟩:=aI hb
 have:=vu hv
 cases v with
 |true=>exact absurd (this.2 rfl) h
 |false=>exact hv
theorem wQ {c:Circ} (C:Cir c) {f:Flt} (F:BrOk c f) {K:Nat->Prop} (h:K 0):cF c f K:=by
 obtain⟨x,hx⟩:=aI F.node
 obtain⟨y,hy⟩:=aI F.other
 unfold cF
 refine vj F.val3 F.pin F.other F.le ⟨fun q=>absurd (eh.1 q) F.ne,fun _=>?_⟩
 refine cX (a:=false) (fun g=>⟨x,hx,fun q=>absurd (eh.1 q) (by have:=F.kind1;rw[jc hx] at this;exact this),fun _=>⟨y,hy,?_⟩⟩) ⟨(fun e=>by cases e),fun _=>?_⟩
 ·have e:eqN y.kind 12=false:=fI.2 (by have:=F.kind2;rw[jc hy] at this;exact this)
  rw[e];exact g
 refine cX (a:=false) (fun g=>sw C F.node fun es l1 h1=>⟨false,uT (by rw[l1];exact F.other) (fun q=>F.dep1 ((h1 _).1 q)),(fun e=>by cases e),fun _=>sw C F.other fun es2 l2 h2=>⟨false,uT (by rw[l2];exact F.node) (fun q=>F.dep2 ((h2 _).1 q)),g⟩⟩) ⟨(fun e=>by cases e),fun _=>h⟩
theorem tI {c:Circ} (C:Cir c) {f:Flt} (F:BrOk c f) {K:Nat->Prop} (h:K 0):faults_Check_wp c f K:=by
 have hm:=F.model
 have hv:=F.value
 unfold faults_Check_wp
 refine lV C ⟨(fun q=>absurd rfl (dq.1 q)),fun _=>?_⟩
 refine cX (a:=false) (fun G=>⟨fun q=>absurd (ba.1 q) (by omega),fun _=>⟨fun q=>absurd (ba.1 q) (by omega),fun _=>re F.node (by rw[F.pin];omega) (by rw[F.pin];simp only[Int.ofNat_eq_natCast];omega) G⟩⟩) ⟨(fun q=>by cases q),fun _=>⟨fun _=>wQ C F h,fun q=>absurd (nf.1 q) (by omega)⟩⟩
structure LinOk (c:Circ) (f:Flt):Prop where
 model:f.model<=1
 stuck:StuckOk c ⟨0,f.line,f.value,f.other⟩
def F12 (c:Circ) (f:Flt):Prop:=LinOk c f\/BrOk c f
theorem tR {c:Circ} (C:Cir c) {f:Flt} (L:LinOk c f) {K:Nat->Prop} (h:K 0):faults_Check_wp c f K:=by
 have F:=L.stuck
 have hm:=L.model
 unfold faults_Check_wp
 refine lV C ⟨(fun q=>absurd rfl (dq.1 q)),fun _=>?_⟩
 refine cX (a:=false) (fun G=>⟨fun q=>?_,fun _=>⟨fun q=>?_,fun _=>re F.node F.pin1 F.pin2 G⟩⟩) ⟨(fun q=>by cases q),fun _=>⟨fun q=>?_,fun _=>⟨fun q=>?_,fun _=>h⟩⟩⟩
 ·have:=ba.1 q;omega
 ·have:=ba.1 q
  have:=F.value
  dsimp only at this
  omega
 ·have:=je.1 q;omega
 ·exact absurd F.other (dq.1 q)
theorem ye {c:Circ} (C:Cir c) {z:FData} (hz:FB z) {K:Flt->Prop} (h:∀ f,F12 c f->K f):dN z c K:=by
 have hlen:=C.len
 have hpos:=C.good.pos
 have hn:z.node%c.nodes.length<c.nodes.length:=Nat.mod_lt _ hpos
 have ho:z.other%c.nodes.length<c.nodes.length:=Nat.mod_lt _ hpos
 have hm4:=Nat.mod_lt z.model (show 0<4 by decide)
 unfold dN
 refine⟨fun q=>absurd (eh.1 q) (by omega),fun _=>⟨by decide,hz.node,hpos,?_⟩⟩
 refine de (fun v=>v<=1) (fun k hk=>⟨fun _=>hk _ (by decide),fun _=>hk _ (by decide)⟩) fun v hv=>?_
 refine de (fun s:Nat×Nat×Nat=>s.1<=1/\s.2.1<c.nodes.length/\s.2.2<=1) (fun k10 hk10=>⟨fun q=>?_,fun q=>hk10 _ ⟨?_,hn,hv⟩⟩) ?_
 ·have q:2<=z.model%4:=je.1 q
  refine⟨hz.other,hpos,?_⟩
  refine de (fun s:Nat×Nat=>s.1<c.nodes.length/\s.2<c.nodes.length/\(z.model%4=2->s.1<=s.2)) (fun k13 hk13=>?_) ?_
  ·refine de (fun b=>(z.model%4=2->b=ltN (z.other%c.nodes.length) (z.node%c.nodes.length))) (fun k hk=>⟨fun e=>hk _ fun _=>rfl,fun e=>hk _ fun e2=>absurd e2 (fI.1 e)⟩) fun b hb=>⟨fun e=>hk13 _ ⟨ho,hn,fun e2=>?_⟩,fun e=>hk13 _ ⟨hn,ho,fun e2=>?_⟩⟩
   ·have:=hb e2
    rw[e] at this
    exact Nat.le_of_lt (ba.1 this.symm)
   ·have:=hb e2
    rw[e] at this
    exact bO.1 this.symm
  ·rintro⟨a,b⟩ ⟨ha,hb,hab⟩
   dsimp only at ha hb hab ⊢
   refine de (fun w=>w<=1/\(z.model%4=3->w=0)) (fun k hk=>⟨fun e=>hk _ ⟨by decide,fun _=>rfl⟩,fun e=>hk _ ⟨hv,fun e2=>absurd e2 (fI.1 e)⟩⟩) fun w hw=>?_
   refine uD C (f:=⟨z.model%4,⟨a,Int.negSucc 0⟩,w,b⟩) (by dsimp only;omega) hw.1 hw.2 rfl ha hb hab fun r hr=>⟨fun e=>h _ (.inr (hr (eh.1 e))),fun e=>hk10 _ ⟨Nat.zero_le _,ha,hw.1⟩⟩
 ·have:=nf.1 q
  dsimp only
  omega
 ·rintro⟨m,a,w⟩ ⟨h0,ha,hw⟩
  dsimp only at h0 ha hw ⊢
  obtain⟨x,hx⟩:=aI ha
  have hfew:=(C.good.node _ x hx).few
  have hmod:=Nat.mod_lt z.pin (show 0<x.ins.length+1 by omega)
  refine⟨hz.pin,x,hx,by omega,by omega,by simp only[Int.ofNat_eq_natCast];omega,by simp only[Int.ofNat_eq_natCast];omega,h _ (.inl ⟨h0,tO (ta.2 ⟨ha,?_⟩) hw⟩)⟩
  dsimp only
  rw[cB hx]
  by_cases e:z.pin%(x.ins.length+1)=0
  ·left;rw[e];rfl
  ·right
   exact⟨z.pin%(x.ins.length+1)-1,by simp only[Int.ofNat_eq_natCast];omega,by omega⟩
theorem F12.list {c:Circ} (C:Cir c) {l:List Flt} (hl:l.length<=80) (h:∀ f∈l,F12 c f):ListOk c l:=by
 refine⟨by omega,fun f m e=>?_,fun f m K k=>?_⟩
 ·rcases h f m with F|F
  ·have:=F.stuck
   obtain⟨mo,li,va,ot⟩:=f
   dsimp only at e
   subst e
   exact this
  ·have:=F.model;omega
 ·rcases h f m with F|F
  ·exact tR C F k
  ·exact tI C F k
theorem wN {c:Circ} (C:Cir c) {zs:List FData} (hz:∀ z∈zs,FB z) {K:List Flt->Prop} (h:∀ l,ListOk c l->l.length<=80->K l):bI c zs K:=by
 unfold bI
 refine aO (fun s=>s.2<=zs.length/\s.2<=80/\s.1.length=s.2/\∀ f∈s.1,F12 c f) (fun s=>zs.length-s.2) (fun l=>l.length<=80/\∀ f∈l,F12 c f) ?_ ⟨Nat.zero_le _,Nat.zero_le _,rfl,fun f m=>by cases m⟩ fun l q=>h l (F12.list C q.1 q.2) q.1
 rintro k ⟨l,i⟩ nx ⟨hi,hi2,hl,hf⟩ hnx hk
 dsimp only at hi hi2 hl hf
 refine cX (a:=decide (i<zs.length)&&decide (i<80)) (fun G=>⟨fun q=>?_,fun q=>?_⟩) ⟨fun q=>?_,fun q=>hk l ⟨by omega,hf⟩⟩
 ·have:ltN i 80=(decide (i<zs.length)&&decide (i<80)):=by rw[dp,decide_eq_true (ba.1 q)];rfl
  rw[this];exact G
 ·rw[decide_eq_false (Nat.not_lt.2 (bO.1 q)),Bool.false_and] at G;exact G
 ·rw[Bool.and_eq_true,decide_eq_true_eq,decide_eq_true_eq] at q
  obtain⟨z,hzz⟩:=aI q.1
  refine⟨z,hzz,ye C (hz z (List.mem_of_getElem? hzz)) fun f F=>⟨?_,by omega,hnx _ ⟨q.1,q.2,?_,fun g hg=>?_⟩ (by dsimp only;omega)⟩⟩
  ·rw[List.length_singleton];omega
  ·dsimp only;rw[List.length_append,List.length_singleton,hl]
  ·rcases aD.1 hg with hg|rfl
   ·exact hf g hg
   ·exact F
theorem yg {c:Circ} (l:List Flt):∀ (i j:Nat) (r s:List Nat) (x y:Nat),i<j->(RN c l)[i]?=some r->(RN c l)[j]?=some s->r[0]?=some x->s[0]?=some y->x<y:=by
 refine iB (P:=fun l=>∀ (i j:Nat) (r s:List Nat) (x y:Nat),i<j->(RN c l)[i]?=some r->(RN c l)[j]?=some s->r[0]?=some x->s[0]?=some y->x<y) ?_ ?_ l
 ·intro i j r s x y _ h
  cases h
 ·intro p z ih i j r s x y hij h1 h2 h3 h4
  by_cases m:cd c z∈ksF c p
  ·have hne:∃ w t,fA c p (cd c z)=w::t:=by
    obtain⟨f,hf,e⟩:=eI.1 m
    obtain⟨q,hq⟩:=List.mem_iff_getElem?.1 hf
    have mm:q∈fA c p (cd c z):=jP.2 ⟨f,hq,e⟩
    cases hrow:fA c p (cd c z) with
    |nil=>rw[hrow] at mm;cases mm
    |cons w t=>exact⟨w,t,rfl⟩
   have hd:∀ (q:Nat) (r:List Nat),(RN c (p++[z]))[q]?=some r->∃ s,(RN c p)[q]?=some s/\s[0]?=r[0]?:=by
    intro q r hq
    rw[xq m,List.getElem?_set] at hq
    split at hq
    ·rename_i e
     subst e
     split at hq
     ·cases hq
      have g:(RN c p)[(ksF c p).idxOf (cd c z)]?=some (fA c p (cd c z)):=by
       unfold RN
       rw[List.getElem?_map,kl m];rfl
      obtain⟨w,t,e⟩:=hne
      exact⟨_,g,by rw[e];rfl⟩
     ·cases hq
    ·exact⟨r,hq,rfl⟩
   obtain⟨r',a1,a2⟩:=hd i r h1
   obtain⟨s',b1,b2⟩:=hd j s h2
   exact ih i j r' s' x y hij a1 b1 (a2.trans h3) (b2.trans h4)
  ·rw[xt m] at h1 h2
   have hj:=ag h2
   rw[List.length_append,List.length_singleton] at hj
   rw[List.getElem?_append_left (by omega)] at h1
   by_cases q:j<(RN c p).length
   ·rw[List.getElem?_append_left q] at h2
    exact ih i j r s x y hij h1 h2 h3 h4
   ·obtain rfl:j=(RN c p).length:=by omega
    rw[List.getElem?_append_right (Nat.le_refl _),Nat.sub_self] at h2
    cases h2
    cases h4
    obtain⟨f,hf,_⟩:=rG h1 (List.mem_of_getElem? h3)
    exact ag hf
theorem lr {c:Circ}{l:List Flt}{i:Nat} (h:i<(ksF c l).length):∃ (row:List Nat) (x:Nat) (f:Flt),(RN c l)[i]?=some row/\row[0]?=some x/\0<row.length/\l[x]?=some f/\f∈l/\clsOf c l f=i:=by
 obtain⟨k,x,t,_,hrow,_⟩:=ym h
 obtain⟨f,h1,h2,h3⟩:=ti hrow (show (x::t)[0]?=some x from rfl)
 exact⟨_,x,f,hrow,rfl,by simp,h1,h2,h3⟩
theorem zL {c:Circ} (C:Cir c) {l:List Flt} (hl:ListOk c l) {K:List Flt×Nat->Prop} (h:∀ rs:List Flt,rs.length=(RN c l).length->(∀ (i:Nat) (row:List Nat) (x:Nat) (f:Flt),(RN c l)[i]?=some row->row[0]?=some x->l[x]?=some f->rs[i]?=some f)->K (rs,0)):cy c l K:=by
 have hRl:=mA c l
 have hks:=rJ hl
 unfold cy
 refine kV C hl ⟨(fun q=>absurd rfl (dq.1 q)),fun _=>⟨by dsimp only;omega,by dsimp only;omega,?_⟩⟩
 dsimp only
 refine aO (fun s=>s.2<=(RN c l).length/\s.1.length=(RN c l).length/\∀ (i:Nat) (row:List Nat) (x:Nat) (f:Flt),i<s.2->(RN c l)[i]?=some row->row[0]?=some x->l[x]?=some f->s.1[i]?=some f) (fun s=>(RN c l).length-s.2)
  (fun rs=>rs.length=(RN c l).length/\∀ (i:Nat) (row:List Nat) (x:Nat) (f:Flt),(RN c l)[i]?=some row->row[0]?=some x->l[x]?=some f->rs[i]?=some f) ?_ ⟨Nat.zero_le _,by simp,fun i _ _ _ q=>absurd q (Nat.not_lt_zero _)⟩ fun rs q=>⟨q.1.symm,h rs q.1 q.2⟩
 rintro k ⟨rs,i⟩ nx ⟨hi,hr,hg⟩ hnx hk
 dsimp only at hi hr hg
 refine⟨fun q=>?_,fun q=>hk _ ⟨hr,fun j row x f hj=>hg j row x f ?_ hj⟩⟩
 ·have q:i<(RN c l).length:=ba.1 q
  obtain⟨row,x,f,a1,a2,a3,a4,a5,a6⟩:=lr (show i<(ksF c l).length by omega)
  refine⟨row,a1,x,a2,f,a4,q,_,List.getElem?_eq_getElem (show i<rs.length by omega),by omega,hnx _ ⟨q,(List.length_set ..).trans hr,fun j row' x' f' hj b1 b2 b3=>?_⟩ (by dsimp only;omega)⟩
  dsimp only at hj ⊢
  by_cases e:j=i
  ·subst e
   rw[a1] at b1;cases b1
   rw[a2] at b2;cases b2
   rw[a4] at b3;cases b3
   exact List.getElem?_set_self (by omega)
  ·rw[List.getElem?_set_ne (fun q=>e q.symm)]
   exact hg j row' x' f' (by omega) b1 b2 b3
 ·have q:(RN c l).length<=i:=bO.1 q
  have:=ag hj
  omega
theorem feq (a b:Flt):((eqN a.model b.model)&&(((eqN a.line.node b.line.node)&&((eqZ a.line.pin b.line.pin)&&true))&&((eqN a.value b.value)&&((eqN a.other b.other)&&true))))=decide (a=b):=by
 obtain⟨m,⟨n,p⟩,v,o⟩:=a
 obtain⟨m',⟨n',p'⟩,v',o'⟩:=b
 rw[Bool.eq_iff_iff]
 simp only[jW,xe,Bool.and_true,Bool.and_eq_true,decide_eq_true_eq,Flt.mk.injEq,LnZ.mk.injEq]
structure CntI (c:Circ) (l:List Flt) (ns os:List Nat) (D:Nat->Flt->Prop):Prop where
 nl:ns.length=l.length
 ol:os.length=l.length
 on:∀ m f,l[m]?=some f->D m f->ns[m]?=some 1/\os[m]?=some (clsOf c l f)
 off:∀ m f,l[m]?=some f->¬ D m f->ns[m]?=some 0
theorem CntI.congr {c:Circ}{l:List Flt}{ns os:List Nat}{D E:Nat->Flt->Prop} (A:CntI c l ns os D) (h:∀ m f,l[m]?=some f->(D m f↔E m f)):CntI c l ns os E :=
 ⟨A.nl,A.ol,fun m f hf e=>A.on m f hf ((h m f hf).2 e),fun m f hf e=>A.off m f hf (fun q=>e ((h m f hf).1 q))⟩
theorem CntI.set {c:Circ}{l:List Flt}{ns os:List Nat}{D:Nat->Flt->Prop} (A:CntI c l ns os D) {x:Nat}{g:Flt} (hx:l[x]?=some g):CntI c l (ns.set x 1) (os.set x (clsOf c l g)) (fun m f=>D m f\/m=x):=by
 have hl:=ag hx
 refine⟨(List.length_set ..).trans A.nl,(List.length_set ..).trans A.ol,fun m f hf e=>?_,fun m f hf e=>?_⟩
 ·by_cases q:m=x
  ·subst q
   rw[hx] at hf;cases hf
   exact⟨List.getElem?_set_self (by rw[A.nl];exact hl),List.getElem?_set_self (by rw[A.ol];exact hl)⟩
  ·rw[List.getElem?_set_ne (fun w=>q w.symm),List.getElem?_set_ne (fun w=>q w.symm)]
   exact A.on m f hf (e.resolve_right q)
 ·rw[List.getElem?_set_ne (fun w=>e (.inr w.symm))]
  exact A.off m f hf fun w=>e (.inl w)
theorem vV {c:Circ}{l:List Flt}{k:Flt}:(fA c l k).Pairwise (· < ·):=by unfold fA;exact List.pairwise_lt_range.filter _
theorem zh {c:Circ}{l:List Flt}{i:Nat}{row:List Nat} (h:(RN c l)[i]?=some row) {m:Nat}{f:Flt} (hf:l[m]?=some f):m∈row↔clsOf c l f=i:=by
 constructor
 ·intro hm
  obtain⟨g,hg,e⟩:=rG h hm
  rw[hf] at hg;cases hg
  exact e
 ·intro e
  obtain⟨k,hk,rfl⟩:=rP h
  have g:=kl (eI.2 ⟨f,List.mem_of_getElem? hf,rfl⟩:cd c f∈ksF c l)
  unfold clsOf at e
  rw[e,hk] at g
  exact jP.2 ⟨f,hf,(Option.some.inj g).symm⟩
theorem yU {c:Circ}{l:List Flt}{i:Nat}{row:List Nat} (h:(RN c l)[i]?=some row):row.Pairwise (· < ·):=by
 obtain⟨k,_,rfl⟩:=rP h
 exact vV
theorem kx {x:CData} (hx:CB x) {zs:List FData} (hz:∀ z∈zs,FB z) {K:Bool->Prop} (h:K true):aT x zs K:=by
 unfold aT
 refine wD hx ?_
 have C:=xC (x:=uM x) rfl
 generalize fh (uM x)=c at C ⊢
 refine wN C hz fun l hl hl80=>?_
 refine kV C hl (zL C hl fun rs hrl hrs=>?_)
 dsimp only
 have hRl:=mA c l
 have hks:=nY c l
 refine cX (a:=false) (fun G=>⟨fun q=>absurd rfl (dq.1 q),fun _=>⟨fun q=>absurd rfl (dq.1 q),fun _=>⟨fun q=>absurd hrl (dq.1 q),fun _=>?_⟩⟩⟩) ⟨(fun q=>by cases q),fun _=>⟨by omega,by omega,by omega,by omega,?_⟩⟩
 ·have:neN (RN c l).length (RN c l).length=false:=pD.2 rfl
  rw[this];exact G
 have h0:CntI c l (List.replicate l.length 0) (List.replicate l.length 0) (fun _ f=>clsOf c l f<0) :=
  ⟨by simp,by simp,fun _ _ _ e=>absurd e (Nat.not_lt_zero _),fun m f hf _=>by rw[List.getElem?_replicate,if_pos (ag hf)]⟩
 refine aO (fun s=>s.2.2.2<=(RN c l).length/\(s.2.2.2=0->s.2.2.1=Int.negSucc 0)/\(∀ (row:List Nat) (y:Nat),0<s.2.2.2->(RN c l)[s.2.2.2-1]?=some row->row[0]?=some y->s.2.2.1=Int.ofNat y)/\CntI c l s.1 s.2.1 (fun _ f=>clsOf c l f<s.2.2.2)) (fun s=>(RN c l).length-s.2.2.2)
  (fun s=>CntI c l s.1 s.2 (fun _ _=>True)) ?_ ⟨Nat.zero_le _,fun _=>rfl,fun _ _ q=>absurd q (Nat.not_lt_zero _),h0⟩ ?_
 ·rintro k ⟨ns,os,last,i⟩ nx ⟨hi,hlast0,hlast,A⟩ hnx hk
  dsimp only at hi hlast0 hlast A
  refine⟨fun q=>?_,fun q=>hk _ (A.congr fun m f hf=>?_)⟩
  ·have q:i<(RN c l).length:=ba.1 q
   obtain⟨row,y,f0,a1,a2,a3,a4,a5,a6⟩:=lr (show i<(ksF c l).length by omega)
   have hy:=ag a4
   have hr0:=hrs i row y f0 a1 a2 a4
   have hrl80:row.length<=80:=by
    obtain⟨ky,_,rfl⟩:=rP a1
    exact Nat.le_trans (tl _ _ _) hl80
   refine de (fun s=>s.2.2=y/\CntI c l s.1 s.2.1 (fun _ f=>clsOf c l f<i+1)) (fun k2 hk2=>?_) fun s hs=>⟨by dsimp only;omega,hnx _ ⟨q,(fun e=>absurd e (Nat.succ_ne_zero _)),fun row' y' _ b1 b2=>?_,hs.2⟩ (by dsimp only;omega)⟩
   ·refine cX (a:=false) (fun G=>⟨row,a1,fun q=>?_,fun _=>⟨row,a1,row,a1,fun q=>absurd rfl (dq.1 q),fun _=>⟨row,a1,y,a2,fun q=>?_,fun _=>⟨row,a1,y,a2,fun q=>?_,fun _=>⟨f0,hr0,row,a1,y,a2,f0,a4,?_⟩⟩⟩⟩⟩) ⟨(fun q=>by cases q),fun _=>⟨row,a1,y,a2,?_⟩⟩
    ·have:=eh.1 q;omega
    ·have:last<Int.ofNat y:=by
      by_cases e:i=0
      ·rw[hlast0 e]
       simp only[Int.ofNat_eq_natCast];omega
      ·obtain⟨row1,y1,f1,c1,c2,_,_,_,_⟩:=lr (c:=c) (l:=l) (show i-1<(ksF c l).length by omega)
       rw[hlast row1 y1 (by omega) c1 c2]
       have:=yg l (i-1) i row1 row y1 y (by omega) c1 a1 c2 a2
       simp only[Int.ofNat_eq_natCast];omega
     rw[sh.2 this] at q
     cases q
    ·have:=je.1 q;omega
    ·rw[feq,decide_eq_true rfl];exact G
    ·refine bh (fun s=>s.2.2<=row.length/\CntI c l s.1 s.2.1 (fun m f=>clsOf c l f<i\/m∈row.take s.2.2)) (fun s=>row.length-s.2.2) ?_ ⟨Nat.zero_le _,A.congr fun m f _=>⟨.inl,fun w=>w.elim id fun w=>by cases w⟩⟩
     rintro⟨ns,os,j⟩ nx2 ⟨hj,B⟩ hnx2
     dsimp only at hj B
     refine⟨row,a1,fun q2=>?_,fun q2=>hk2 _ ⟨rfl,B.congr fun m f hf=>?_⟩⟩
     ·have q2:j<row.length:=ba.1 q2
      obtain⟨m,hm⟩:=aI q2
      obtain⟨f,hf,hfm,hfc⟩:=ti a1 hm
      have hml:=ag hf
      have srt:=yU a1
      have hlt:∀ j' m':Nat,j'<j->row[j']?=some m'->m'<m:=by
       intro j' m' h1 h2
       obtain⟨q3,rfl⟩:=List.getElem?_eq_some_iff.1 h2
       obtain⟨q4,rfl⟩:=List.getElem?_eq_some_iff.1 hm
       exact List.pairwise_iff_getElem.1 srt _ _ q3 q4 h1
      have hnot:¬ (clsOf c l f<i\/m∈row.take j):=by
       rintro (w|w)
       ·omega
       ·obtain⟨j',hj'⟩:=List.mem_iff_getElem?.1 w
        rw[List.getElem?_take] at hj'
        split at hj'
        ·rename_i h5
         have:=hlt j' m h5 hj'
         omega
        ·cases hj'
      have hns:=B.off m f hf hnot
      obtain⟨o,ho⟩:=aI (l:=os) (i:=m) (by rw[B.ol];exact hml)
      refine cX (a:=false) (fun G=>⟨row,a1,m,hm,fun q3=>?_,fun _=>⟨row,a1,m,hm,fun q3=>?_,fun _=>⟨fun q3=>?_,fun _=>G⟩⟩⟩) ⟨(fun q=>by cases q),fun _=>⟨row,a1,m,hm,hml,0,hns,by decide,hml,0,hns,row,a1,m,hm,hml,o,ho,?_⟩⟩
      ·rw[Bs] at q3;cases q3
      ·have:=je.1 q3;omega
      ·have q3:0<j:=ba.1 q3
       obtain⟨m',hm'⟩:=aI (l:=row) (i:=j-1) (by omega)
       have:=hlt (j-1) m' (by omega) hm'
       refine⟨row,a1,m,hm,row,a1,q3,by dsimp only;omega,m',hm',?_⟩
       have:(!ltN m' m)=false:=by rw[Bool.not_eq_false'];exact ba.2 this
       rw[this];exact G
      ·have ek:cd c f=cd c f0:=(vP hfm a5).1 (hfc.trans a6.symm)
       have em:f0.model=f.model:=by rw[<- pH c f0,<- ek,pH]
       refine cX (a:=false) (fun G=>⟨row,a1,m,hm,f,hf,fun q3=>⟨row,a1,m,hm,f,hf,f0,hr0,fun q4=>?_,fun _=>⟨f0,hr0,row,a1,m,hm,f,hf,?_⟩⟩,fun _=>⟨f0,hr0,row,a1,m,hm,f,hf,?_⟩⟩) ⟨(fun q=>by cases q),fun _=>⟨by dsimp only;omega,hnx2 _ ⟨q2,?_⟩ (by dsimp only;omega)⟩⟩
       ·have q3:=dq.1 q3
        rw[kT q3,kT (by rw[em];exact q3)] at ek
        rw[feq,ek,decide_eq_true rfl] at q4
        cases q4
       ·rw[pD.2 em];exact G
       ·rw[pD.2 em];exact G
       ·have S:=B.set hf
        rw[hfc] at S
        refine S.congr fun m2 f2 _=>?_
        dsimp only
        rw[gM hm,aD,or_assoc]
     ·have q2:row.length<=j:=bO.1 q2
      rw[List.take_of_length_le q2,zh a1 hf]
      omega
   ·dsimp only at b1 b2 ⊢
    have e:i+1-1=i:=by omega
    rw[e,a1] at b1
    cases b1
    rw[a2] at b2
    cases b2
    rw[hs.1];rfl
  ·have q:(RN c l).length<=i:=bO.1 q
   refine⟨fun _=>trivial,fun _=>?_⟩
   have:=List.idxOf_lt_length_iff.2 (eI.2 ⟨f,List.mem_of_getElem? hf,rfl⟩:cd c f∈ksF c l)
   unfold clsOf
   omega
 ·rintro⟨ns,os⟩ A
  dsimp only at A ⊢
  refine dZ (l:=l) ?_ ?_ (uL h)
  ·intro k i nx f hf hi hn
   obtain⟨n1,o1⟩:=A.on i f hf trivial
   have hil:=ag hf
   refine⟨fun _=>?_,fun q=>by have:=bO.1 q;omega⟩
   refine aO (fun j=>j<=i) (fun j=>i-j) (fun _=>True) ?_ (Nat.zero_le _) fun _ _=>⟨hil,1,n1,(fun q=>absurd rfl (dq.1 q)),fun _=>⟨by omega,hn⟩⟩
   rintro k2 j nx2 hj hnx2 hk2
   refine⟨fun q=>?_,fun _=>hk2 _ trivial⟩
   have q:j<i:=ba.1 q
   obtain⟨g,hg⟩:=aI (l:=l) (i:=j) (by omega)
   obtain⟨n2,o2⟩:=A.on j g hg trivial
   refine cX (a:=false) (fun G=>⟨f,hf,g,hg,fun e=>⟨hil,_,o1,by omega,_,o2,?_⟩,fun _=>G⟩) ⟨(fun q=>by cases q),fun _=>⟨by omega,hnx2 _ (by omega) (by omega)⟩⟩
   rw[feq,decide_eq_true_eq] at e
   rw[e,show neN (clsOf c l g) (clsOf c l g)=false from pD.2 rfl]
   exact G
  ·intro k i nx hi hk
   refine⟨fun q=>?_,fun _=>hk⟩
   have:=ba.1 q;omega
def bW:List (Sh×Bool):=[(shC,true),(.slice shF,false)]
theorem jm (x:wE bW) (w:wfL bW x):FnV Tryd.prog NG vars 5 ⟨yA bW x⟩ (.bool true):=by
 obtain⟨c,z,u⟩:=x
 obtain⟨wc,wz,_⟩:=w
 obtain⟨y,hy,e1⟩:=AQ wc
 obtain⟨l,hl,e2⟩:=um wz
 have e:yA bW (c,z,u)=[bl y,aw 5 vB l]:=by
  show [elV (!true) (shC.aU c),elV (!false) ((Sh.slice shF).aU z)]=_
  rw[e1,e2];rfl
 rw[e]
 exact FnV.nZ (enc:=Value.bool) (r:=true) (PureV.flat rfl) fun h hB=>dK (K:=fun r=>r=true) (kx hy hl rfl) hB
end Go.Proofs.YtobphhjcadjfjaaDoor
