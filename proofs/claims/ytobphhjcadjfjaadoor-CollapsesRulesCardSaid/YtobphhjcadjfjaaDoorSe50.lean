/-
  Co3, Co4, Co5, Cir12, Co7, Cob, Coc, Cod, Coe, Cof, CollapsesRules: parts of the proof.
-/
import Derived.Test.YtobphhjcadjfjaaDoorSe49
namespace Go.Proofs.YtobphhjcadjfjaaDoor
open Go.Abs
set_option maxRecDepth 100000
def zh (f:Flt):Si:=⟨f.line.node,(f.line.pin+1).toNat,f.value⟩
theorem sn (s:Si):zh (fltS s)=s:=by
 obtain⟨n,p,v⟩:=s
 unfold zh fltS
 have:(Int.ofNat p-1+1).toNat=p:=by simp only[Int.ofNat_eq_natCast];omega
 dsimp only
 rw[this]
def dM (c:Circ) (f:Flt):Flt:=if f.model=0 then fltS (clsN c (zh f)) else f
theorem oj (c:Circ) (s:Si):dM c (fltS s)=fltS (clsN c s):=by
 unfold dM
 rw[if_pos (by rfl),sn]
theorem tY {c:Circ}{f:Flt} (h:f.model≠0):dM c f=f:=if_neg h
def ju (c:Circ) (acc:List Flt) (f:Flt):List Flt:=if dM c f∈acc then acc else acc++[dM c f]
def ksF (c:Circ) (l:List Flt):List Flt:=l.foldl (ju c) []
theorem fb (c:Circ) (l:List Flt) (f:Flt):ksF c (l++[f])=ju c (ksF c l) f:=by unfold ksF;rw[List.foldl_append];rfl
theorem kj {α:Type}{P:List α->Prop} (h0:P []) (h1:∀ p x,P p->P (p++[x])) (l:List α):P l:=by
 have key:∀ n (l:List α),l.length=n->P l:=by
  intro n
  induction n with
  |zero=>intro l h;rw[List.length_eq_zero_iff.1 h];exact h0
  |succ n ih =>
   intro l h
   rcases List.eq_nil_or_concat l with rfl|⟨p,x,rfl⟩
   ·exact h0
   ·rw[List.concat_eq_append] at h ⊢
    refine h1 p x (ih p ?_)
    rw[List.length_append,List.length_singleton] at h;omega
 exact key _ l rfl
theorem iP {c:Circ}{l:List Flt}{k:Flt}:k∈ksF c l ↔ ∃ f∈l,dM c f=k:=by
 refine kj (P:=fun l=>k∈ksF c l ↔ ∃ f∈l,dM c f=k) ?_ ?_ l
 ·unfold ksF;simp
 ·intro p x ih
  rw[fb]
  unfold ju
  split
  ·rename_i h
   rw[ih]
   constructor
   ·rintro⟨f,m,e⟩
    exact⟨f,List.mem_append_left _ m,e⟩
   ·rintro⟨f,m,e⟩
    rcases aH.1 m with m|rfl
    ·exact⟨f,m,e⟩
    ·rw[e] at h;exact ih.1 h
  ·rw[aH,ih]
   constructor
   ·rintro (⟨f,m,e⟩|rfl)
    ·exact⟨f,List.mem_append_left _ m,e⟩
    ·exact⟨x,aH.2 (.inr rfl),rfl⟩
   ·rintro⟨f,m,e⟩
    rcases aH.1 m with m|rfl
    ·exact .inl ⟨f,m,e⟩
    ·exact .inr e.symm
theorem qP (c:Circ) (l:List Flt):(ksF c l).Nodup:=by
 refine kj (P:=fun l=>(ksF c l).Nodup) List.nodup_nil ?_ l
 intro p x ih
 rw[fb]
 unfold ju
 split
 ·exact ih
 ·rename_i h
  refine List.nodup_append.2 ⟨ih,by simp,?_⟩
  intro a ha b hb
  rw[List.mem_singleton] at hb
  rintro rfl
  subst hb
  exact h ha
theorem nW (c:Circ) (l:List Flt):(ksF c l).length<=l.length:=by
 refine kj (P:=fun l=>(ksF c l).length<=l.length) (Nat.le_refl _) ?_ l
 intro p x ih
 rw[fb,List.length_append,List.length_singleton]
 unfold ju
 split
 ·omega
 ·rw[List.length_append,List.length_singleton];omega
def clsOf (c:Circ) (l:List Flt) (f:Flt):Nat:=(ksF c l).idxOf (dM c f)
def osN (c:Circ) (l:List Flt):List Nat:=l.map (clsOf c l)
def fq (c:Circ) (l:List Flt) (k:Flt):List Nat:=(List.range l.length).filter fun m=>decide ((l[m]?).map (dM c)=some k)
def RN (c:Circ) (l:List Flt):List (List Nat):=(ksF c l).map (fq c l)
theorem mJ (c:Circ) (l:List Flt):(RN c l).length=(ksF c l).length:=List.length_map ..
theorem kr (c:Circ) (p:List Flt) (x k:Flt):fq c (p++[x]) k=fq c p k++if dM c x=k then [p.length] else []:=by
 unfold fq
 rw[List.length_append,List.length_singleton,List.range_succ,List.filter_append]
 congr 1
 ·refine List.filter_congr fun m hm=>?_
  rw[List.getElem?_append_left (List.mem_range.1 hm)]
 ·have e:(p++[x])[p.length]?=some x:=by simp
  by_cases h:dM c x=k
  ·rw[if_pos h];simp[h]
  ·rw[if_neg h];simp[h]
theorem wx {c:Circ}{p:List Flt}{k:Flt} (h:k ∉ ksF c p):fq c p k=[]:=by
 unfold fq
 rw[List.filter_eq_nil_iff]
 intro m _ q
 rw[decide_eq_true_eq] at q
 obtain⟨f,hf,e⟩:=Option.map_eq_some_iff.1 q
 exact h (iP.2 ⟨f,List.mem_of_getElem? hf,e⟩)
theorem il {c:Circ}{l:List Flt}{k:Flt}{m:Nat}:m∈fq c l k ↔ ∃ f,l[m]?=some f/\dM c f=k:=by
 unfold fq
 rw[List.mem_filter,List.mem_range,decide_eq_true_eq,Option.map_eq_some_iff]
 constructor
 ·rintro⟨_,f,h⟩;exact⟨f,h⟩
 ·rintro⟨f,h⟩;exact⟨ag h.1,f,h⟩
theorem tj (c:Circ) (l:List Flt) (k:Flt):(fq c l k).length<=l.length:=by
 unfold fq
 exact Nat.le_trans (List.length_filter_le _ _) (by rw[List.length_range];exact Nat.le_refl _)
theorem uG {l:List Flt}{k:Flt} (h:k∈l):l[l.idxOf k]?=some k:=by
 rw[List.getElem?_eq_getElem (List.idxOf_lt_length_iff.2 h),List.getElem_idxOf]
theorem xO {l:List Flt} (nd:l.Nodup) {j:Nat}{k:Flt} (h:l[j]?=some k):l.idxOf k=j:=by
 obtain⟨h1,rfl⟩:=List.getElem?_eq_some_iff.1 h
 have h3:=List.idxOf_lt_length_iff.2 (List.getElem_mem h1)
 have h4:l[l.idxOf l[j]]=l[j]:=List.getElem_idxOf h3
 rcases Nat.lt_trichotomy (l.idxOf l[j]) j with q|q|q
 ·exact absurd h4 (List.pairwise_iff_getElem.1 nd _ _ h3 h1 q)
 ·exact q
 ·exact absurd h4.symm (List.pairwise_iff_getElem.1 nd _ _ h1 h3 q)
def ixO (ks:List Flt) (k:Flt):Option Nat:=if k∈ks then some (ks.idxOf k) else none
theorem vf {ks:List Flt}{k:Flt} (h:k ∉ ks):ixO (ks++[k]) k=some ks.length:=by
 unfold ixO
 rw[if_pos (aH.2 (.inr rfl)),List.idxOf_append,if_neg h]
 simp
theorem nQ {ks:List Flt}{k k':Flt} (h:k'≠k):ixO (ks++[k]) k'=ixO ks k':=by
 unfold ixO
 by_cases m:k'∈ks
 ·rw[if_pos (aH.2 (.inl m)),if_pos m,List.idxOf_append,if_pos m]
 ·rw[if_neg (fun q=>(aH.1 q).elim m h),if_neg m]
theorem lJ {ks:List Flt}{k:Flt} (h:k∈ks):ixO ks k=some (ks.idxOf k):=if_pos h
theorem sf {ks:List Flt}{k:Flt} (h:k ∉ ks):ixO ks k=none:=if_neg h
theorem iS {c:Circ}{p:List Flt}{x f:Flt} (hf:f∈p++[x]):clsOf c (p++[x]) f=if dM c f∈ksF c p then (ksF c p).idxOf (dM c f) else (ksF c p).length:=by
 unfold clsOf
 rw[fb]
 unfold ju
 by_cases h:dM c f∈ksF c p
 ·rw[if_pos h]
  split
  ·rfl
  ·rw[List.idxOf_append,if_pos h]
 ·rw[if_neg h]
  have e:dM c f=dM c x:=by
   rcases aH.1 hf with m|rfl
   ·exact absurd (iP.2 ⟨f,m,rfl⟩) h
   ·rfl
  rw[e] at h ⊢
  rw[if_neg h,List.idxOf_append,if_neg h]
  simp
theorem yd (c:Circ) (p:List Flt) (x:Flt):osN c (p++[x])=osN c p++[clsOf c (p++[x]) x]:=by
 unfold osN
 rw[List.map_append]
 congr 1
 refine List.map_congr_left fun f hf=>?_
 rw[iS (List.mem_append_left _ hf),if_pos (iP.2 ⟨f,hf,rfl⟩)]
 rfl
theorem Ab {c:Circ}{p:List Flt}{x:Flt} (h:dM c x∈ksF c p):RN c (p++[x])=(RN c p).set ((ksF c p).idxOf (dM c x)) (fq c p (dM c x)++[p.length]):=by
 unfold RN
 rw[fb]
 unfold ju
 rw[if_pos h]
 apply List.ext_getElem?
 intro j
 rw[List.getElem?_map,List.getElem?_set,List.length_map]
 by_cases e:(ksF c p).idxOf (dM c x)=j
 ·subst e
  rw[if_pos rfl,if_pos (List.idxOf_lt_length_iff.2 h),uG h]
  simp only[Option.map_some]
  rw[kr,if_pos rfl]
 ·rw[if_neg e,List.getElem?_map]
  cases hj:(ksF c p)[j]? with
  |none=>rfl
  |some k =>
   simp only[Option.map_some]
   rw[kr,if_neg,List.append_nil]
   rintro rfl
   exact e (xO (qP c p) hj)
theorem Am {c:Circ}{p:List Flt}{x:Flt} (h:dM c x ∉ ksF c p):RN c (p++[x])=RN c p++[[p.length]]:=by
 unfold RN
 rw[fb]
 unfold ju
 rw[if_neg h,List.map_append]
 congr 1
 ·refine List.map_congr_left fun k hk=>?_
  rw[kr,if_neg,List.append_nil]
  rintro rfl
  exact h hk
 ·rw[List.map_cons,List.map_nil,kr,if_pos rfl,wx h];rfl
def CsOk (c:Circ) (ks:List Flt) (ps:List Nat) (cs:List (Nat×Nat)):Prop:=∀ s,VS c s->∀ r,Rt ps (numN c s) r->ba cs r=ixO ks (fltS (clsN c s))
def A0 (ks:List Flt) (ot:List (Flt×Nat)):Prop:=∀ f:Flt,f.model≠0->ba ot f=ixO ks f
theorem CsOk.same {c:Circ}{ks:List Flt}{ps qs:List Nat}{cs:List (Nat×Nat)} (F:Fo ps) (h:CsOk c ks ps cs) (g:SameR ps qs):CsOk c ks qs cs:=fun s hs r hr=>h s hs r (g.back F hr)
theorem sU {c:Circ} (C:Cir c) {ps:List Nat} (U:EdgeI c (edgesN c) ps) {a b:Si} (ha:VS c a) (hb:VS c b) {r s:Nat} (h1:Rt ps (numN c a) r) (h2:Rt ps (numN c b) s):r=s↔clsN c a=clsN c b :=
 (U.cn a b r s ha hb h1 h2).trans (AA C)
theorem CsOk.new {c:Circ} (C:Cir c) {ks:List Flt}{ps:List Nat}{cs:List (Nat×Nat)} (U:EdgeI c (edgesN c) ps) (h:CsOk c ks ps cs) {a:Si} (ha:VS c a) {r:Nat} (hr:Rt ps (numN c a) r) (hn:fltS (clsN c a) ∉ ks) :
  CsOk c (ks++[fltS (clsN c a)]) ps (fM cs r ks.length):=by
 intro s hs r' hr'
 rw[pD]
 by_cases e:r'=r
 ·rw[if_pos e,(sU C U hs ha hr' hr).1 e,vf hn]
 ·rw[if_neg e,nQ,h s hs r' hr']
  intro q
  exact e ((sU C U hs ha hr' hr).2 (lK q))
structure PartO (c:Circ) (l:List Flt) (ps:List Nat) (cs:List (Nat×Nat)):Prop where
 edge:EdgeI c (edgesN c) ps
 cs:CsOk c (ksF c l) ps cs
theorem fI {c:Circ} (C:Cir c) {l:List Flt} (hl:l.length<=65536) (hs:∀ f∈l,f.model=0->StuckOk c f) {K:List Nat×List Nat×Nat×List (List Nat)×List Nat×List (Nat×Nat)->Prop}
  (h:∀ ps cs,PartO c l ps cs->K (fsN c,ps,npN c,RN c l,osN c l,cs)):aQ c l K:=by
 unfold aQ
 refine vz C fun ps0 U0=>?_
 refine aO (fun (s:Bd)=>s.2.2.2.2.2<=l.length/\EdgeI c (edgesN c) s.1/\s.2.1=RN c (l.take s.2.2.2.2.2)/\s.2.2.1=osN c (l.take s.2.2.2.2.2)/\CsOk c (ksF c (l.take s.2.2.2.2.2)) s.1 s.2.2.2.1/\A0 (ksF c (l.take s.2.2.2.2.2)) s.2.2.2.2.1)
  (fun s=>l.length-s.2.2.2.2.2) (fun s=>∃ ps cs,PartO c l ps cs/\s=(ps,RN c l,osN c l,cs)) ?_ ⟨Nat.zero_le _,U0,rfl,rfl,(fun s _ r _=>rfl),fun f _=>rfl⟩ ?_
 ·rintro k ⟨ps,R,os,cs,ot,i⟩ nx ⟨hi,U,hR,hos,hcs,hot⟩ hnx hk
  dsimp only at hi U hR hos hcs hot
  refine⟨fun q=>?_,fun q=>hk _ ?_⟩
  ·have q:i<l.length:=bp.1 q
   obtain⟨f,hf⟩:=aP q
   have hp1:(l.take i).length=i:=by rw[List.length_take];omega
   have htk:l.take (i+1)=l.take i++[f]:=gU hf
   have hks:(ksF c (l.take i)).length=R.length:=by rw[hR,mJ]
   have hRl:R.length<=i:=by rw[<- hks];exact Nat.le_trans (nW _ _) (Nat.le_of_eq hp1)
   refine⟨f,hf,?_⟩
   refine cM (fun s=>EdgeI c (edgesN c) s.1/\CsOk c (ksF c (l.take (i+1))) s.1 s.2.1/\A0 (ksF c (l.take (i+1))) s.2.2.1/\s.2.2.2.2=decide (dM c f∈ksF c (l.take i))/\(dM c f∈ksF c (l.take i)->s.2.2.2.1=(ksF c (l.take i)).idxOf (dM c f))) ?_ ?_
   ·intro k2 hk2
    have old:dM c f∈ksF c (l.take i)->ksF c (l.take (i+1))=ksF c (l.take i):=fun m=>by
     rw[htk,fb];exact if_pos m
    have new:dM c f ∉ ksF c (l.take i)->ksF c (l.take (i+1))=ksF c (l.take i)++[dM c f]:=fun m=>by
     rw[htk,fb];exact if_neg m
    refine⟨fun qm=>?_,fun qm=>?_⟩
    ·have qm:f.model=0:=dy.1 qm
     obtain⟨s,hv,rfl⟩:=Ag (hs f (List.mem_of_getElem? hf) qm)
     obtain⟨r,hr⟩:=U.fo (numN c s) (U.len ▸ dq hv)
     rw[oj] at old new hk2
     refine oc C hv (s:=s) (by unfold fltS;simp only[Int.ofNat_eq_natCast];omega) (lM U.len hr fun qs hq=>?_)
     dsimp only
     have Uq:=U.same hq
     have hcq:=hcs.same U.fo hq
     have hget:=hcs s hv r hr
     have hrq:=hq.rt _ _ hr
     by_cases m:fltS (clsN c s)∈ksF c (l.take i)
     ·rw[hget,lJ m]
      refine⟨(fun e=>by cases e),fun _=>hk2 _ ⟨Uq,by rw[old m];exact hcq,by rw[old m];exact hot,(decide_eq_true m).symm,fun _=>rfl⟩⟩
     ·rw[hget,sf m]
      refine⟨fun _=>hk2 _ ⟨Uq,?_,?_,(decide_eq_false m).symm,fun q=>absurd q m⟩,(fun e=>by cases e)⟩
      ·rw[new m,<- hks]
       exact hcq.new C Uq hv hrq m
      ·rw[new m]
       intro f' hf'
       rw[nQ]
       ·exact hot f' hf'
       ·rintro rfl
        exact hf' rfl
    ·have qm:f.model≠0:=dK.1 qm
     rw[tY qm] at old new hk2
     have hget:=hot f qm
     by_cases m:f∈ksF c (l.take i)
     ·rw[hget,lJ m]
      refine⟨(fun e=>by cases e),fun _=>hk2 _ ⟨U,by rw[old m];exact hcs,by rw[old m];exact hot,(decide_eq_true m).symm,fun _=>rfl⟩⟩
     ·rw[hget,sf m]
      refine⟨fun _=>hk2 _ ⟨U,?_,?_,(decide_eq_false m).symm,fun q=>absurd q m⟩,(fun e=>by cases e)⟩
      ·rw[new m]
       intro s hs r hr
       rw[nQ]
       ·exact hcs s hs r hr
       ·intro e
        exact qm (by rw[<- e];rfl)
      ·rw[new m,<- hks]
       intro f' hf'
       rw[pD]
       by_cases e:f'=f
       ·rw[if_pos e,e,vf m]
       ·rw[if_neg e,nQ e]
        exact hot f' hf'
   ·rintro⟨ps2,cs2,ot2,at2,is2⟩ ⟨U2,hcs2,hot2,his,hat⟩
    dsimp only at U2 hcs2 hot2 his hat
    subst his
    refine cM (fun s=>s.2=clsOf c (l.take (i+1)) f/\s.1=if dM c f∈ksF c (l.take i) then R else R++[[]]) ?_ ?_
    ·intro k3 hk3
     by_cases m:dM c f∈ksF c (l.take i)
     ·rw[decide_eq_true m]
      refine⟨(fun e=>by cases e),fun _=>hk3 _ ⟨?_,(if_pos m).symm⟩⟩
      rw[htk,iS (aH.2 (.inr rfl)),if_pos m]
      exact hat m
     ·rw[decide_eq_false m]
      refine⟨fun _=>⟨by omega,hk3 _ ⟨?_,(if_neg m).symm⟩⟩,(fun e=>by cases e)⟩
      rw[htk,iS (aH.2 (.inr rfl)),if_neg m]
      exact hks.symm
    ·rintro⟨R3,at3⟩ ⟨rfl,hR3⟩
     dsimp only at hR3
     have hosl:os.length=i:=by rw[hos];unfold osN;rw[List.length_map,hp1]
     have key:∃ r,R3[clsOf c (l.take (i+1)) f]?=some r/\r.length<=i/\R3.set (clsOf c (l.take (i+1)) f) (r++[i])=RN c (l.take (i+1)):=by
      rw[htk,iS (aH.2 (.inr rfl))]
      by_cases m:dM c f∈ksF c (l.take i)
      ·rw[if_pos m] at hR3 ⊢
       subst hR3
       refine⟨fq c (l.take i) (dM c f),?_,Nat.le_trans (tj _ _ _) (Nat.le_of_eq hp1),?_⟩
       ·rw[hR];unfold RN
        rw[List.getElem?_map,uG m];rfl
       ·rw[Ab m,hp1,hR]
      ·rw[if_neg m] at hR3 ⊢
       rw[hks]
       subst hR3
       refine⟨[],by simp,Nat.zero_le _,?_⟩
       rw[Am m,hp1,<- hR]
       simp
     obtain⟨r,hr1,hr2,hr3⟩:=key
     refine⟨r,hr1,by omega,by omega,by omega,hnx _ ⟨q,U2,hr3,?_,hcs2,hot2⟩ (by dsimp only;omega)⟩
     dsimp only
     rw[htk,yd,<- hos]
  ·have q:l.length<=i:=bO.1 q
   obtain rfl:i=l.length:=by omega
   rw[List.take_length] at hR hos hcs
   exact⟨ps,cs,⟨U,hcs⟩,by rw[hR,hos]⟩
 ·rintro _ ⟨ps,cs,hP,rfl⟩
  refine⟨fun r hr=>?_,?_,h ps cs hP⟩
  ·obtain⟨k,hk,rfl⟩:=List.mem_map.1 hr
   obtain⟨f,hf,e⟩:=iP.1 hk
   obtain⟨j,hj⟩:=List.mem_iff_getElem?.1 hf
   intro q
   have:j∈fq c l k:=il.2 ⟨f,hj,e⟩
   rw[q] at this
   cases this
  ·rw[mJ]
   have:=nW c l
   omega
theorem kz {c:Circ} (C:Cir c) {l:List Flt} (hl:l.length<=65536) (hs:∀ f∈l,∀ K:Nat->Prop,K 0->faults_Check_wp c f K) {K:Nat->Prop} (h:K 0):bc c l K:=by
 unfold bc
 refine⟨fun q=>?_,fun _=>so C ⟨(fun q=>absurd rfl (eG.1 q)),fun _=>?_⟩⟩
 ·have:=bp.1 q;omega
 ·refine dX (l:=l) ?_ ?_ h
  ·intro k i nx x hx hi hn
   refine⟨fun _=>⟨x,hx,hs x (List.mem_of_getElem? hx) _ ⟨(fun q=>absurd rfl (eG.1 q)),fun _=>⟨by omega,hn⟩⟩⟩,fun q=>?_⟩
   have:=bO.1 q;omega
  ·intro k i nx hi hk
   refine⟨fun q=>?_,fun _=>hk⟩
   have:=bp.1 q;omega
def n2Lt (x y:N2):Prop:=x.a<y.a\/x.a=y.a/\x.b<y.b
theorem AE {x y:N2} (h:x≠y):x.a≠y.a\/x.b≠y.b:=by
 by_cases h1:x.a=y.a
 ·right
  intro h2
  obtain⟨a,b⟩:=x
  obtain⟨a',b'⟩:=y
  dsimp only at h1 h2
  exact h (by rw[h1,h2])
 ·exact .inl h1
theorem sm {l:List N2} (h:l.Pairwise uw):(dH l).Pairwise n2Lt/\∀ x,x∈dH l↔x∈l:=by
 revert h
 refine kj (P:=fun l=>l.Pairwise uw->(dH l).Pairwise n2Lt/\∀ x,x∈dH l↔x∈l) ?_ ?_ l
 ·intro _
  exact⟨List.Pairwise.nil,fun x=>Iff.rfl⟩
 ·intro p x ih h
  obtain⟨h1,_,h3⟩:=List.pairwise_append.1 h
  obtain⟨i1,i2⟩:=ih h1
  have hle:∀ y∈dH p,uw y x:=fun y m=>h3 y ((i2 y).1 m) x (List.mem_singleton.2 rfl)
  rw[mB]
  unfold fD
  split
  ·rename_i e
   refine⟨i1,fun y=>?_⟩
   rw[i2,aH]
   constructor
   ·exact .inl
   ·rintro (m|rfl)
    ·exact m
    ·exact (i2 y).1 (List.mem_of_getLast? e)
  ·rename_i e
   refine⟨List.pairwise_append.2 ⟨i1,List.pairwise_singleton _ _,fun y hy z hz=>?_⟩,fun y=>by rw[aH,aH,i2]⟩
   rw[List.mem_singleton] at hz
   subst hz
   rcases List.eq_nil_or_concat (dH p) with q|⟨q,w,hq⟩
   ·rw[q] at hy;cases hy
   ·rw[List.concat_eq_append] at hq
    have hw:w≠z:=by
     rintro rfl
     rw[hq,List.getLast?_concat] at e
     exact e rfl
    have hwz:=xj.1 (hle w (by rw[hq];exact aH.2 (.inr rfl)))
    have hne:=AE hw
    rw[hq] at hy i1
    rcases aH.1 hy with m|rfl
    ·have:n2Lt y w:=(List.pairwise_append.1 i1).2.2 y m w (List.mem_singleton.2 rfl)
     unfold n2Lt at this ⊢
     omega
    ·unfold n2Lt
     omega
def iz (k:Nat):Option Rul:=if k=5 then some ⟨0,0⟩ else if k=6 then some ⟨0,1⟩ else if k=7 then some ⟨1,1⟩ else if k=8 then some ⟨1,0⟩ else none
theorem xP {k:Nat}{r:Rul} (h:iz k=some r):r.pin<=1/\r.out<=1:=by
 unfold iz at h
 split at h
 ·cases h;decide
 split at h
 ·cases h;decide
 split at h
 ·cases h;decide
 split at h
 ·cases h;decide
 ·cases h
theorem rn {k:Nat}{K:Rul×Bool->Prop} (h1:∀ r,iz k=some r->K (r,true)) (h2:iz k=none->K (⟨0,0⟩,false)):aY k K:=by
 refine nw (fun q=>h1 _ ?_) (fun q=>h1 _ ?_) (fun q=>h1 _ ?_) (fun q=>h1 _ ?_) fun q5 q6 q7 q8=>h2 ?_
 ·subst q;rfl
 ·subst q;rfl
 ·subst q;rfl
 ·subst q;rfl
 ·unfold iz
  rw[if_neg q5,if_neg q6,if_neg q7,if_neg q8]
def fU (n j:Nat) (r:Rul):Si:=⟨n,j+1,1-r.pin⟩
def gR (n:Nat) (r:Rul):Si:=⟨n,0,1-r.out⟩
def jX (c:Circ) (ks:List Flt) (n b:Nat) (r:Rul) (j:Nat):List N2:=match ixO ks (fltS (clsN c (fU n j r))) with
 |some a=>[⟨a,b⟩]
 |none=>[]
def iw (c:Circ) (ks:List Flt) (n b:Nat) (r:Rul) (t:Nat):List N2:=(List.range t).flatMap (jX c ks n b r)
def fH (c:Circ) (ks:List Flt) (n:Nat):List N2:=match iz (kd c n) with
 |none=>[]
 |some r=>match ixO ks (fltS (clsN c (gR n r))) with
  |none=>[]
  |some b=>iw c ks n b r (insOf c n).length
def domRaw (c:Circ) (ks:List Flt) (i:Nat):List N2:=(List.range i).flatMap (fH c ks)
theorem gK (c:Circ) (ks:List Flt) (i:Nat):domRaw c ks (i+1)=domRaw c ks i++fH c ks i:=by
 unfold domRaw
 rw[List.range_succ,List.flatMap_append]
 simp
theorem jW (c:Circ) (ks:List Flt) (n b:Nat) (r:Rul) (t:Nat):iw c ks n b r (t+1)=iw c ks n b r t++jX c ks n b r t:=by
 unfold iw
 rw[List.range_succ,List.flatMap_append]
 simp
theorem tO (c:Circ) (ks:List Flt) (n b:Nat) (r:Rul) (j:Nat):(jX c ks n b r j).length<=1:=by
 unfold jX
 split <;> simp
theorem kV (c:Circ) (ks:List Flt) (n b:Nat) (r:Rul):∀ t,(iw c ks n b r t).length<=t
 |0=>Nat.le_refl _
 |t+1=>by
  rw[jW,List.length_append]
  have:=kV c ks n b r t
  have:=tO c ks n b r t
  omega
theorem iG {c:Circ} (C:Cir c) (ks:List Flt):∀ i,i<=c.nodes.length->(domRaw c ks i).length<=i*16
 |0,_=>Nat.le_refl _
 |i+1,h=>by
  have:=iG C ks i (by omega)
  rw[gK,List.length_append]
  obtain⟨x,hx⟩:=aP (show i<c.nodes.length from h)
  have hf:=(C.good.node i x hx).few
  have:(fH c ks i).length<=16:=by
   unfold fH
   split
   ·exact Nat.zero_le _
   ·split
    ·exact Nat.zero_le _
    ·rename_i r _ _ b _
     have:=kV c ks i b r (insOf c i).length
     rw[bT hx] at this ⊢
     omega
  omega
theorem uT {ks:List Flt}{k:Flt}{a:Nat}:ixO ks k=some a↔k∈ks/\ks.idxOf k=a:=by
 unfold ixO
 by_cases m:k∈ks
 ·rw[if_pos m]
  simp[m]
 ·rw[if_neg m]
  simp[m]
theorem uK {c:Circ}{ks:List Flt}{i:Nat}{x:N2}:x∈domRaw c ks i ↔ ∃ n r j,n<i/\iz (kd c n)=some r/\j<(insOf c n).length/\fltS (clsN c (fU n j r))∈ks/\fltS (clsN c (gR n r))∈ks/\x=⟨ks.idxOf (fltS (clsN c (fU n j r))),ks.idxOf (fltS (clsN c (gR n r)))⟩:=by
 unfold domRaw
 rw[List.mem_flatMap]
 constructor
 ·rintro⟨n,hn,m⟩
  unfold fH at m
  split at m
  ·cases m
  ·rename_i r hr
   split at m
   ·cases m
   ·rename_i b hb
    obtain⟨j,hj,m⟩:=List.mem_flatMap.1 m
    unfold jX at m
    split at m
    ·rename_i a ha
     obtain⟨a1,a2⟩:=uT.1 ha
     obtain⟨b1,b2⟩:=uT.1 hb
     rw[List.mem_singleton] at m
     exact⟨n,r,j,List.mem_range.1 hn,hr,List.mem_range.1 hj,a1,b1,by rw[m,a2,b2]⟩
    ·cases m
 ·rintro⟨n,r,j,hn,hr,hj,h1,h2,rfl⟩
  refine⟨n,List.mem_range.2 hn,?_⟩
  unfold fH
  rw[hr]
  dsimp only
  rw[lJ h2]
  refine List.mem_flatMap.2 ⟨j,List.mem_range.2 hj,?_⟩
  unfold jX
  rw[lJ h1]
  exact List.mem_singleton.2 rfl
structure DomOk (c:Circ) (ks:List Flt) (r:List N2):Prop where
 sorted:r.Pairwise n2Lt
 mem:∀ x,x∈r↔x∈domRaw c ks c.nodes.length
 len:r.length<=256
theorem DomOk.lt {c:Circ}{ks:List Flt}{r:List N2} (D:DomOk c ks r) {x:N2} (h:x∈r):x.a<ks.length/\x.b<ks.length:=by
 obtain⟨n,r,j,_,_,_,h1,h2,rfl⟩:=uK.1 ((D.mem x).1 h)
 exact⟨List.idxOf_lt_length_iff.2 h1,List.idxOf_lt_length_iff.2 h2⟩
theorem yo {c:Circ}{n j:Nat}{r:Rul} (hn:n<c.nodes.length) (hj:j<(insOf c n).length):VS c (fU n j r):=⟨hn,hj,by unfold fU;dsimp only;omega⟩
theorem wW {c:Circ}{n:Nat}{r:Rul} (hn:n<c.nodes.length):VS c (gR n r):=⟨hn,Nat.zero_le _,by unfold gR;dsimp only;omega⟩
theorem gQ {c:Circ} (C:Cir c) {ks:List Flt} (hk:ks.length<=65536) {ps:List Nat} (U:EdgeI c (edgesN c) ps) {cs:List (Nat×Nat)} (hcs:CsOk c ks ps cs) {R:List (List Nat)}{os:List Nat}{K:List Nat×List N2->Prop}
  (h:∀ qs r,DomOk c ks r->K (qs,r)):bh (npN c) (fsN c) ps R os cs c K:=by
 have hlen:=C.len
 unfold bh
 refine aO (fun s=>s.2.2<=c.nodes.length/\SameR ps s.1/\s.2.1=domRaw c ks s.2.2) (fun s=>c.nodes.length-s.2.2) (fun s=>s.1=domRaw c ks c.nodes.length) ?_ ⟨Nat.zero_le _,SameR.refl ps,rfl⟩ ?_
 ·rintro k ⟨qs,out,i⟩ nx ⟨hi,hS,ho⟩ hnx hk2
  dsimp only at hi hS ho
  refine⟨fun q=>?_,fun q=>hk2 _ ?_⟩
  ·have q:i<c.nodes.length:=bp.1 q
   obtain⟨x,hx⟩:=aP q
   have hfew:=(C.good.node i x hx).few
   have hol:out.length<=i*16:=by rw[ho];exact iG C ks i hi
   refine cM (fun s=>SameR ps s.1/\s.2=domRaw c ks (i+1)) (fun k3 hk3=>⟨x,hx,?_⟩) fun s hs=>⟨by omega,hnx _ ⟨q,hs.1,hs.2⟩ (by dsimp only;omega)⟩
   have U1:=U.same hS
   refine rn (fun r hr=>⟨fun e=>(by cases e),fun _=>?_⟩) fun hr=>⟨fun _=>hk3 _ ⟨hS,?_⟩,fun e=>(by cases e)⟩
   ·have hrle:=xP hr
    have hr':iz (kd c i)=some r:=by rw[lI hx];exact hr
    have v1:=wW (c:=c) (r:=r) q
    obtain⟨rt,hrt⟩:=U1.fo (numN c (gR i r)) (U1.len ▸ dq v1)
    refine⟨hrle.2,by decide,oc C v1 (s:=gR i r) (by rfl) (lM U1.len hrt fun ws hw=>?_)⟩
    dsimp only
    have hS2:=hS.trans hw
    have hget:=hcs.same U.fo hS (gR i r) v1 rt hrt
    have hnode:fH c ks i=match ixO ks (fltS (clsN c (gR i r))) with|none=>[] | some b=>iw c ks i b r (insOf c i).length:=by
     unfold fH
     rw[hr']
    rw[hget]
    cases hb:ixO ks (fltS (clsN c (gR i r))) with
    |none =>
     rw[hb] at hnode
     refine⟨fun _=>hk3 _ ⟨hS2,?_⟩,fun e=>(by cases e)⟩
     dsimp only
     rw[gK,hnode,List.append_nil,ho]
    |some b =>
     rw[hb] at hnode
     dsimp only at hnode
     refine⟨fun e=>(by cases e),fun _=>?_⟩
     refine aT (fun s=>s.2.2<=x.ins.length/\SameR ps s.1/\s.2.1=domRaw c ks i++iw c ks i b r s.2.2) (fun s=>x.ins.length-s.2.2) ?_ ⟨Nat.zero_le _,hS2,by rw[ho];simp[iw]⟩
     rintro⟨ws,out,j⟩ nx4 ⟨hj,hS4,ho4⟩ hnx4
     dsimp only at hj hS4 ho4
     refine⟨fun q4=>?_,fun q4=>hk3 _ ⟨hS4,?_⟩⟩
     ·have q4:j<x.ins.length:=bp.1 q4
      have hol4:out.length<=512:=by
       rw[ho4,List.length_append]
       have:=iG C ks i hi
       have:=kV c ks i b r j
       omega
      have v2:VS c (fU i j r):=yo q (by rw[bT hx];exact q4)
      have U4:=U.same hS4
      obtain⟨rt4,hrt4⟩:=U4.fo (numN c (fU i j r)) (U4.len ▸ dq v2)
      refine cM (fun s=>SameR ps s.1/\s.2=domRaw c ks i++iw c ks i b r (j+1)) (fun k5 hk5=>⟨hrle.1,by decide,oc C v2 (s:=fU i j r) (by unfold fU;simp only[Int.ofNat_eq_natCast];omega) (lM U4.len hrt4 fun ys hy=>?_)⟩) fun s hs=>⟨by dsimp only;omega,hnx4 _ ⟨q4,hs.1,hs.2⟩ (by dsimp only;omega)⟩
      dsimp only
      have hget4:=hcs.same U.fo hS4 (fU i j r) v2 rt4 hrt4
      rw[hget4]
      cases ha:ixO ks (fltS (clsN c (fU i j r))) with
      |none =>
       refine⟨fun e=>(by cases e),fun _=>hk5 _ ⟨hS4.trans hy,?_⟩⟩
       dsimp only
       rw[jW,ho4]
       unfold jX
       rw[ha,List.append_nil]
      |some a =>
       refine⟨fun _=>⟨by rw[List.length_singleton];omega,hk5 _ ⟨hS4.trans hy,?_⟩⟩,fun e=>(by cases e)⟩
       dsimp only[Option.getD]
       rw[jW,ho4]
       unfold jX
       rw[ha,List.append_assoc]
     ·have q4:x.ins.length<=j:=bO.1 q4
      obtain rfl:j=x.ins.length:=by omega
      dsimp only
      rw[gK,hnode,bT hx]
      exact ho4
   ·have hr':iz (kd c i)=none:=by rw[lI hx];exact hr
    dsimp only
    rw[gK,ho]
    unfold fH
    rw[hr',List.append_nil]
  ·have q:c.nodes.length<=i:=bO.1 q
   obtain rfl:i=c.nodes.length:=by omega
   exact ho
 ·rintro⟨out,qs⟩ ho
  dsimp only at ho ⊢
  subst ho
  have hl:=iG C ks _ (Nat.le_refl _)
  refine⟨by omega,fun x m=>?_,fun l hp hs=>⟨by rw[hp.length_eq];omega,h _ _ ?_⟩⟩
  ·obtain⟨n,r,j,_,_,_,h1,h2,rfl⟩:=uK.1 m
   have:=List.idxOf_lt_length_iff.2 h1
   have:=List.idxOf_lt_length_iff.2 h2
   exact⟨by dsimp only;omega,by dsimp only;omega⟩
  ·obtain⟨s1,s2⟩:=sm hs
   refine⟨s1,fun x=>(s2 x).trans hp.mem_iff,?_⟩
   have:=sG l
   have:=hp.length_eq
   omega
structure ListOk (c:Circ) (l:List Flt):Prop where
 len:l.length<=65536
 stuck:∀ f∈l,f.model=0->StuckOk c f
 check:∀ f∈l,∀ K:Nat->Prop,K 0->faults_Check_wp c f K
theorem oN {c:Circ} (C:Cir c) {l:List Flt} (hl:ListOk c l) {K:List (List Nat)×Nat->Prop} (h:K (RN c l,0)):bw c l K:=by
 unfold bw
 exact kz C hl.len hl.check ⟨(fun q=>absurd rfl (eG.1 q)),fun _=>fI C hl.len hl.stuck fun _ _ _=>h⟩
theorem ub {c:Circ}{l:List Flt} (hl:ListOk c l):(ksF c l).length<=65536:=Nat.le_trans (nW _ _) hl.len
theorem pX {c:Circ} (C:Cir c) {l:List Flt} (hl:ListOk c l) {K:List N2×Nat->Prop} (h:∀ r,DomOk c (ksF c l) r->K (r,0)):bz c l K:=by
 unfold bz
 exact kz C hl.len hl.check ⟨(fun q=>absurd rfl (eG.1 q)),fun _=>fI C hl.len hl.stuck fun ps cs P=>gQ C (ub hl) P.edge P.cs fun _ r hr=>h r hr⟩
theorem qF:∀ {r s:List N2},r.Pairwise n2Lt->s.Pairwise n2Lt->(∀ x,x∈r↔x∈s)->r=s
 |[],[],_,_,_=>rfl
 |[],b::s,_,_,h=>by have:=(h b).2 (List.mem_cons_self ..);cases this
 |a::r,[],_,_,h=>by have:=(h a).1 (List.mem_cons_self ..);cases this
 |a::r,b::s,h1,h2,h=>by
  obtain⟨a1,a2⟩:=List.pairwise_cons.1 h1
  obtain⟨b1,b2⟩:=List.pairwise_cons.1 h2
  have e:a=b:=by
   rcases List.mem_cons.1 ((h a).1 (List.mem_cons_self ..)) with q|q
   ·exact q
   ·rcases List.mem_cons.1 ((h b).2 (List.mem_cons_self ..)) with q2|q2
    ·exact q2.symm
    ·have:=b1 a q
     have:=a1 b q2
     unfold n2Lt at *
     omega
  subst e
  refine congrArg (a :: ·) (qF a2 b2 fun x=>?_)
  have:=h x
  rw[List.mem_cons,List.mem_cons] at this
  constructor
  ·intro m
   rcases this.1 (.inr m) with q|q
   ·subst q
    have:=a1 x m
    unfold n2Lt at this;omega
   ·exact q
  ·intro m
   rcases this.2 (.inr m) with q|q
   ·subst q
    have:=b1 x m
    unfold n2Lt at this;omega
   ·exact q
def jY (r:List N2) (i:Nat):Bool:=r.any fun x=>x.b==i
def iQ (c:Circ) (l:List Flt) (r:List N2) (i:Nat):List Nat:=if jY r i=true then [] else [((RN c l).getD i []).getD 0 0]
def fW (c:Circ) (l:List Flt) (r:List N2) (i:Nat):List Nat:=(List.range i).flatMap (iQ c l r)
theorem kf (c:Circ) (l:List Flt) (r:List N2) (i:Nat):fW c l r (i+1)=fW c l r i++iQ c l r i:=by
 unfold fW
 rw[List.range_succ,List.flatMap_append]
 simp
theorem oy (c:Circ) (l:List Flt) (r:List N2):∀ i,(fW c l r i).length<=i
 |0=>Nat.le_refl _
 |i+1=>by
  rw[kf,List.length_append]
  have:=oy c l r i
  have:(iQ c l r i).length<=1:=by unfold iQ;split <;> simp
  omega
theorem Ac {c:Circ}{l:List Flt}{i:Nat} (h:i<(ksF c l).length):∃ k x t,(ksF c l)[i]?=some k/\(RN c l)[i]?=some (x::t)/\fq c l k=x::t:=by
 obtain⟨k,hk⟩:=aP h
 have hr:(RN c l)[i]?=some (fq c l k):=by unfold RN;rw[List.getElem?_map,hk];rfl
 obtain⟨f,hf,e⟩:=iP.1 (List.mem_of_getElem? hk)
 obtain⟨j,hj⟩:=List.mem_iff_getElem?.1 hf
 have m:j∈fq c l k:=il.2 ⟨f,hj,e⟩
 cases hrow:fq c l k with
 |nil=>rw[hrow] at m;cases m
 |cons x t=>exact⟨k,x,t,hk,by rw[hr,hrow],hrow⟩
theorem yI {c:Circ} (C:Cir c) {l:List Flt} (hl:ListOk c l) {K:List Nat×Nat->Prop} (h:∀ r,DomOk c (ksF c l) r->K (fW c l r (ksF c l).length,0)):cw c l K:=by
 have hlen:=hl.len
 have hks:=ub hl
 have hRl:=mJ c l
 unfold cw
 refine kz C hl.len hl.check ⟨(fun q=>absurd rfl (eG.1 q)),fun _=>fI C hl.len hl.stuck fun ps cs P=>⟨by omega,by omega,?_⟩⟩
 refine cM (fun s=>∃ r,DomOk c (ksF c l) r/\s.2.length=(ksF c l).length/\∀ i,i<(ksF c l).length->s.2[i]?=some (jY r i)) (fun k hk=>gQ C hks P.edge P.cs fun qs r hr=>?_) ?_
 ·refine aT (fun s=>s.2<=r.length/\s.1.length=(ksF c l).length/\∀ i,i<(ksF c l).length->s.1[i]?=some (jY (r.take s.2) i)) (fun s=>r.length-s.2) ?_ ⟨Nat.zero_le _,by rw[List.length_replicate];exact hRl,fun i hi=>?_⟩
  ·rintro⟨bs,t⟩ nx ⟨ht,hb1,hb2⟩ hnx
   dsimp only at ht hb1 hb2
   refine⟨fun q=>?_,fun q=>hk _ ⟨r,hr,hb1,?_⟩⟩
   ·have q:t<r.length:=bp.1 q
    obtain⟨x,hx⟩:=aP q
    have hlt:=hr.lt (List.mem_of_getElem? hx)
    have:=hr.len
    refine⟨x,hx,by rw[hRl];exact hlt.2,_,hb2 x.b hlt.2,by omega,hnx _ ⟨q,(List.length_set ..).trans hb1,fun i hi=>?_⟩ (by dsimp only;omega)⟩
    dsimp only
    rw[List.getElem?_set,gU hx]
    unfold jY
    rw[List.any_append]
    by_cases e:x.b=i
    ·subst e
     rw[if_pos rfl,if_pos (by omega)]
     simp
    ·rw[if_neg e,hb2 i hi]
     unfold jY
     simp[e]
   ·have q:r.length<=t:=bO.1 q
    rw[List.take_of_length_le q] at hb2
    exact hb2
  ·rw[hRl,List.getElem?_replicate,if_pos hi];rfl
 ·rintro⟨qs,bs⟩ ⟨r,hr,hb1,hb2⟩
  dsimp only at hb1 hb2
  refine aO (fun s=>s.2<=(ksF c l).length/\s.1=fW c l r s.2) (fun s=>(ksF c l).length-s.2) (fun s=>s=fW c l r (ksF c l).length) ?_ ⟨Nat.zero_le _,rfl⟩ (fun _ e=>e ▸ h r hr)
  rintro k ⟨out,i⟩ nx ⟨hi,ho⟩ hnx hk
  dsimp only at hi ho
  refine⟨fun q=>?_,fun q=>hk _ ?_⟩
  ·have q:i<(ksF c l).length:=hRl ▸ bp.1 q
   obtain⟨ky,x,t,_,hrow,_⟩:=Ac q
   have hol:out.length<=i:=by rw[ho];exact oy c l r i
   have hone:iQ c l r i=if jY r i=true then [] else [x]:=by
    have e:(RN c l).getD i []=x::t:=by rw[List.getD,hrow];rfl
    unfold iQ
    rw[e];rfl
   refine cM (fun s=>s=fW c l r (i+1)) (fun k2 hk2=>⟨_,hrow,by omega,_,hb2 i q,fun e=>⟨x,rfl,by rw[List.length_singleton];omega,hk2 _ ?_⟩,fun e=>hk2 _ ?_⟩) fun s hs=>⟨by omega,hnx _ ⟨q,hs⟩ (by dsimp only;omega)⟩
   ·have e:jY r i=false:=by simpa using e
    rw[kf,hone,e,ho];rfl
   ·have e:jY r i=true:=by simpa using e
    rw[kf,hone,e,ho]
    simp
  ·have q:(RN c l).length<=i:=bO.1 q
   obtain rfl:i=(ksF c l).length:=by omega
   exact ho
inductive Rch (r:List N2) (st:Nat->Prop):Nat->Prop
 |base {a:Nat}:st a->Rch r st a
 |step {a b:Nat}:Rch r st a->(⟨a,b⟩:N2)∈r->Rch r st b
def rI (r:List N2) (a:Nat):List Nat:=(r.filter fun x=>x.a==a).map N2.b
theorem sJ {r:List N2}{a b:Nat}:b∈rI r a↔(⟨a,b⟩:N2)∈r:=by
 unfold rI
 rw[List.mem_map]
 constructor
 ·rintro⟨⟨a',b'⟩,m,rfl⟩
  obtain⟨m,e⟩:=List.mem_filter.1 m
  have e:a'=a:=by simpa using e
  rw[<- e]
  exact m
 ·intro m
  exact⟨⟨a,b⟩,List.mem_filter.2 ⟨m,by simp⟩,rfl⟩
theorem se (r:List N2) (a:Nat):(rI r a).length<=r.length:=by
 unfold rI
 rw[List.length_map]
 exact List.length_filter_le _ _
theorem vy (r:List N2) (x:N2) (a:Nat):rI (r++[x]) a=rI r a++if x.a=a then [x.b] else []:=by
 unfold rI
 rw[List.filter_append,List.map_append]
 congr 1
 by_cases e:x.a=a
 ·simp[e]
 ·simp[e]
def cntT (bs:List Bool):Nat:=bs.count true
theorem zu (bs:List Bool):cntT bs<=bs.length:=List.count_le_length
theorem tc:∀ {bs:List Bool}{a:Nat},bs[a]?=some false->cntT (bs.set a true)=cntT bs+1
 |[],_,h=>by cases h
 |b::bs,0,h=>by
  rw[List.getElem?_cons_zero] at h
  cases h
  unfold cntT
  rw[List.set_cons_zero,List.count_cons,List.count_cons]
  simp
 |b::bs,a+1,h=>by
  rw[List.getElem?_cons_succ] at h
  have:=tc h
  unfold cntT at this ⊢
  rw[List.set_cons_succ,List.count_cons,List.count_cons,this]
  omega
theorem zN {bs:List Bool}{a:Nat}{v:Bool} (h:bs[a]?=some v):bs.getD a false=v:=by rw[List.getD,h];rfl
theorem qo {bs:List Bool}{a b:Nat} (h:a<bs.length):(bs.set a true).getD b false=true↔b=a\/bs.getD b false=true:=by
 by_cases e:b=a
 ·subst e
  rw[List.getD,List.getElem?_set_self h]
  simp
 ·rw[List.getD,List.getElem?_set_ne (fun q=>e q.symm)]
  simp[e]
structure ExpI (r:List N2) (n:Nat) (st:Nat->Prop) (M:Nat) (bs:List Bool) (todo:List Nat):Prop where
 len:bs.length=n
 snd:∀ a,bs.getD a false=true->Rch r st a
 tod:∀ a∈todo,a<n/\Rch r st a
 cls:∀ a b,bs.getD a false=true->(⟨a,b⟩:N2)∈r->bs.getD b false=true\/b∈todo
 st:∀ a,st a->bs.getD a false=true\/a∈todo
 msr:(n-cntT bs)*257+todo.length<=M
theorem ExpI.done {r:List N2}{n M:Nat}{st:Nat->Prop}{bs:List Bool} (I:ExpI r n st M bs []) (a:Nat):bs.getD a false=true↔Rch r st a:=by
 refine⟨I.snd a,fun h=>?_⟩
 induction h with
 |base h=>exact (I.st _ h).resolve_right (fun m=>by cases m)
 |step _ m ih=>exact (I.cls _ _ ih m).resolve_right (fun m=>by cases m)
theorem AO {a b:Nat}:ltI (Int.ofNat a) (Int.ofNat b)=decide (a<b):=by
 rw[cV]
 by_cases h:a<b
 ·rw[decide_eq_true h];exact decide_eq_true (Int.ofNat_lt.2 h)
 ·rw[decide_eq_false h];exact decide_eq_false (fun q=>h (Int.ofNat_lt.1 q))
def pc (c:Circ) (l:List Flt) (ds:List Nat) (a:Nat):Prop:=∃ i∈ds,(osN c l)[i]?=some a
theorem rQ {c:Circ}{l:List Flt}{i:Nat} (h:i<l.length):∃ a,(osN c l)[i]?=some a/\a<(ksF c l).length:=by
 obtain⟨f,hf⟩:=aP h
 refine⟨clsOf c l f,by unfold osN;rw[List.getElem?_map,hf];rfl,?_⟩
 exact List.idxOf_lt_length_iff.2 (iP.2 ⟨f,List.mem_of_getElem? hf,rfl⟩)
def nI (c:Circ) (l:List Flt) (bs:List Bool) (i:Nat):List Nat:=(List.range i).filter fun m=>bs.getD ((osN c l).getD m 0) false
theorem uA {c:Circ} (C:Cir c) {l:List Flt} (hl:ListOk c l) {d:List Int}{K:List Nat×Nat->Prop}
  (hd:(∃ ds:List Nat,d=ds.map Int.ofNat/\(∀ i∈ds,i<l.length)/\ds.length<=65536/\∀ r bs,DomOk c (ksF c l) r->(∀ a,bs.getD a false=true↔Rch r (pc c l ds) a)->K (nI c l bs l.length,0))\/∃ bad,d=[bad]/\(bad<0\/Int.ofNat l.length<=bad)/\K ([],1)) :
  bB c l d K:=by
 have hlen:=hl.len
 have hks:=ub hl
 have hRl:=mJ c l
 unfold bB
 refine kz C hl.len hl.check ⟨(fun q=>absurd rfl (eG.1 q)),fun _=>fI C hl.len hl.stuck fun ps cs P=>⟨by omega,by omega,?_⟩⟩
 refine cM (fun s=>∃ r,DomOk c (ksF c l) r/\s.2.length=(ksF c l).length/\∀ a,a<(ksF c l).length->s.2[a]?=some (rI r a)) (fun k hk=>gQ C hks P.edge P.cs fun qs r hr=>?_) ?_
 ·have hrl:=hr.len
  refine aT (fun s=>s.2<=r.length/\s.1.length=(ksF c l).length/\∀ a,a<(ksF c l).length->s.1[a]?=some (rI (r.take s.2) a)) (fun s=>r.length-s.2) ?_ ⟨Nat.zero_le _,by rw[List.length_replicate];exact hRl,fun i hi=>?_⟩
  ·rintro⟨fs,t⟩ nx ⟨ht,hb1,hb2⟩ hnx
   dsimp only at ht hb1 hb2
   refine⟨fun q=>?_,fun q=>hk _ ⟨r,hr,hb1,?_⟩⟩
   ·have q:t<r.length:=bp.1 q
    obtain⟨x,hx⟩:=aP q
    have hlt:=hr.lt (List.mem_of_getElem? hx)
    have hfl:=se (r.take t) x.a
    rw[List.length_take] at hfl
    refine⟨x,hx,by rw[hRl];exact hlt.1,_,hb2 x.a hlt.1,by rw[List.length_singleton];omega,by rw[hRl];exact hlt.1,by omega,hnx _ ⟨q,(List.length_set ..).trans hb1,fun a ha=>?_⟩ (by dsimp only;omega)⟩
    dsimp only
    rw[List.getElem?_set,gU hx,vy]
    by_cases e:x.a=a
    ·subst e
     rw[if_pos rfl,if_pos (by omega),if_pos rfl]
    ·rw[if_neg e,hb2 a ha,if_neg e,List.append_nil]
   ·have q:r.length<=t:=bO.1 q
    rw[List.take_of_length_le q] at hb2
    exact hb2
  ·rw[hRl,List.getElem?_replicate,if_pos hi];rfl
 ·rintro⟨qs,fs⟩ ⟨r,hr,hf1,hf2⟩
  have hrl:=hr.len
  dsimp only at hf1 hf2
  refine⟨by omega,by omega,?_⟩
  rcases hd with⟨ds,rfl,hd,hdl,h⟩|⟨bad,rfl,hb,h⟩
  case inr =>
   refine (show aI _ _ from aT (fun s=>s=([],0)) (fun _=>0) ?_ rfl)
   rintro _ nx rfl _
   refine⟨fun _=>⟨bad,rfl,?_⟩,fun q=>absurd (bO.1 q) (by simp)⟩
   refine jC (a:=true) (fun G=>⟨fun _=>G,fun e=>?_⟩) ⟨fun _=>h,fun e=>(by cases e)⟩
   have e:ltI bad (Int.ofNat l.length)=false:=by
    have e0:=uF.1 e
    have:(Int.ofNat 0)=0:=rfl
    refine uF.2 ?_
    rcases hb with hb|hb
    ·omega
    ·exact hb
   rw[e];exact G
  refine aO (fun s=>s.2<=ds.length/\s.1.length=s.2/\∀ a,a∈s.1↔pc c l (ds.take s.2) a) (fun s=>ds.length-s.2) (fun s=>s.length=ds.length/\∀ a,a∈s↔pc c l ds a) ?_ ⟨Nat.zero_le _,rfl,fun a=>⟨fun m=>(by cases m),fun ⟨_,m,_⟩=>by cases m⟩⟩ ?_
  ·rintro k ⟨td,i⟩ nx ⟨hi,ht1,ht2⟩ hnx hk
   dsimp only at hi ht1 ht2
   have hml:(ds.map Int.ofNat).length=ds.length:=List.length_map ..
   refine⟨fun q=>?_,fun q=>hk _ ?_⟩
   ·have q:i<ds.length:=hml ▸ bp.1 q
    obtain⟨d,hd1⟩:=aP q
    have hdl2:=hd d (List.mem_of_getElem? hd1)
    obtain⟨a,ha1,ha2⟩:=rQ (c:=c) hdl2
    refine⟨Int.ofNat d,by rw[List.getElem?_map,hd1];rfl,?_⟩
    refine jC (a:=false) (fun G=>⟨fun e=>?_,fun _=>?_⟩) ⟨(fun e=>by cases e),fun _=>⟨d,rfl,a,ha1,by rw[List.length_singleton];omega,by omega,hnx _ ⟨q,by dsimp only;rw[List.length_append,ht1];rfl,fun b=>?_⟩ (by dsimp only;omega)⟩⟩
    ·rw[AO,decide_eq_true_eq] at e;omega
    ·rw[AO,decide_eq_true hdl2];exact G
    ·dsimp only
     rw[aH,ht2,gU hd1]
     unfold pc
     constructor
     ·rintro (⟨j,m,e⟩|rfl)
      ·exact⟨j,List.mem_append_left _ m,e⟩
      ·exact⟨d,aH.2 (.inr rfl),ha1⟩
     ·rintro⟨j,m,e⟩
      rcases aH.1 m with m|rfl
      ·exact .inl ⟨j,m,e⟩
      ·rw[ha1] at e;cases e;exact .inr rfl
   ·have q:ds.length<=i:=hml ▸ bO.1 q
    rw[List.take_of_length_le q] at ht2
    exact⟨by omega,ht2⟩
  ·rintro td ⟨htl,htd⟩
   refine aO (fun s=>ExpI r (ksF c l).length (pc c l ds) ((ksF c l).length*257+ds.length) s.1 s.2) (fun s=>((ksF c l).length-cntT s.1)*257+s.2.length) (fun s=>s.length=(ksF c l).length/\∀ a,s.getD a false=true↔Rch r (pc c l ds) a) ?_ ?_ ?_
   ·rintro k ⟨bs,todo⟩ nx I hnx hk
    dsimp only at I
    refine⟨fun q=>?_,fun q=>hk _ ?_⟩
    ·have q:0<todo.length:=bp.1 q
     rcases List.eq_nil_or_concat todo with e|⟨p,a,e⟩
     ·rw[e] at q;cases q
     ·rw[List.concat_eq_append] at e
      subst e
      have hpl:(p++[a]).length-1=p.length:=by rw[List.length_append,List.length_singleton];omega
      have hlast:(p++[a])[(p++[a]).length-1]?=some a:=by rw[hpl];simp
      have htake:(p++[a]).take ((p++[a]).length-1)=p:=by rw[hpl];simp
      have hm:=I.msr
      obtain⟨han,har⟩:=I.tod a (aH.2 (.inr rfl))
      obtain⟨v,hv⟩:=aP (l:=bs) (i:=a) (by rw[I.len];exact han)
      have hfl:=se r a
      rw[List.length_append,List.length_singleton] at hm
      have hbig:p.length<=65536*257+65536:=by
       have:(ksF c l).length*257<=65536*257:=Nat.mul_le_mul_right _ hks
       omega
      refine⟨q,by rw[List.length_append,List.length_singleton];omega,a,hlast,q,by rw[List.length_append,List.length_singleton];omega,Nat.sub_le _ _,by rw[hRl];exact han,v,hv,fun e=>?_,fun e=>?_⟩
      ·have e:v=false:=by simpa using e
       subst e
       have hc:=tc hv
       have hcl:=zu (bs.set a true)
       rw[List.length_set,I.len] at hcl
       rw[htake]
       have hmul:((ksF c l).length-cntT (bs.set a true))*257+257=((ksF c l).length-cntT bs)*257:=by
        rw[hc] at hcl ⊢
        rw[<- Nat.succ_mul]
        congr 1
        omega
       refine⟨by rw[hRl];exact han,false,hv,by rw[hRl];exact han,_,hf2 a han,by omega,hnx _ ⟨(List.length_set ..).trans I.len,fun b hb=>?_,fun b hb=>?_,fun x b hx hb=>?_,fun b hb=>?_,?_⟩ ?_⟩
       ·rcases (qo (by rw[I.len];exact han)).1 hb with rfl|hb
        ·exact har
        ·exact I.snd b hb
       ·rcases List.mem_append.1 hb with m|m
        ·exact I.tod b (aH.2 (.inl m))
        ·have m:=sJ.1 m
         exact⟨(hr.lt m).2,.step har m⟩
       ·rcases (qo (by rw[I.len];exact han)).1 hx with rfl|hx
        ·exact .inr (List.mem_append_right _ (sJ.2 hb))
        ·rcases I.cls x b hx hb with q1|q1
         ·exact .inl ((qo (by rw[I.len];exact han)).2 (.inr q1))
         ·rcases aH.1 q1 with m|rfl
          ·exact .inr (List.mem_append_left _ m)
          ·exact .inl ((qo (by rw[I.len];exact han)).2 (.inl rfl))
       ·rcases I.st b hb with q1|q1
        ·exact .inl ((qo (by rw[I.len];exact han)).2 (.inr q1))
        ·rcases aH.1 q1 with m|rfl
         ·exact .inr (List.mem_append_left _ m)
         ·exact .inl ((qo (by rw[I.len];exact han)).2 (.inl rfl))
       ·dsimp only
        rw[List.length_append];omega
       ·dsimp only
        rw[List.length_append,List.length_append,List.length_singleton];omega
      ·have e:v=true:=by simpa using e
       subst e
       have hva:=zN hv
       rw[htake]
       refine hnx _ ⟨I.len,I.snd,fun b hb=>I.tod b (aH.2 (.inl hb)),fun x b hx hb=>?_,fun b hb=>?_,by dsimp only;omega⟩ (by dsimp only;rw[List.length_append,List.length_singleton];omega)
       ·rcases I.cls x b hx hb with q1|q1
        ·exact .inl q1
        ·rcases aH.1 q1 with m|rfl
         ·exact .inr m
         ·exact .inl hva
       ·rcases I.st b hb with q1|q1
        ·exact .inl q1
        ·rcases aH.1 q1 with m|rfl
         ·exact .inr m
         ·exact .inl hva
    ·have q:todo.length<=0:=bO.1 q
     have e:todo=[]:=List.length_eq_zero_iff.1 (by omega)
     subst e
     exact⟨I.len,I.done⟩
   ·have hz:∀ a,(List.replicate (ksF c l).length false).getD a false=false:=by
     intro a
     rw[List.getD,List.getElem?_replicate]
     split <;> rfl
    rw[hRl]
    refine⟨List.length_replicate ..,fun a ha=>?_,fun a ha=>?_,fun a b ha _=>?_,fun a ha=>.inr ((htd a).2 ha),?_⟩
    ·dsimp only at ha;rw[hz] at ha;cases ha
    ·have:=(htd a).1 ha
     obtain⟨i,m,e⟩:=this
     obtain⟨b,hb1,hb2⟩:=rQ (c:=c) (hd i m)
     rw[hb1] at e;cases e
     exact⟨hb2,.base ⟨i,m,hb1⟩⟩
    ·dsimp only at ha;rw[hz] at ha;cases ha
    ·dsimp only
     rw[htl]
     have:((ksF c l).length-cntT (List.replicate (ksF c l).length false))*257<=(ksF c l).length*257:=Nat.mul_le_mul_right _ (Nat.sub_le _ _)
     omega
   ·rintro bs ⟨hbl,hbs⟩
    have hosl:(osN c l).length=l.length:=List.length_map ..
    refine aO (fun s=>s.2<=l.length/\s.1=nI c l bs s.2) (fun s=>l.length-s.2) (fun s=>s=nI c l bs l.length) ?_ ⟨Nat.zero_le _,rfl⟩ (fun _ e=>e ▸ h r bs hr hbs)
    rintro k ⟨out,i⟩ nx ⟨hi,ho⟩ hnx hk
    dsimp only at hi ho
    refine⟨fun q=>?_,fun q=>hk _ ?_⟩
    ·have q:i<l.length:=hosl ▸ bp.1 q
     obtain⟨a,ha1,ha2⟩:=rQ (c:=c) q
     have hol:out.length<=i:=by
      rw[ho];unfold nI
      exact Nat.le_trans (List.length_filter_le _ _) (by rw[List.length_range];exact Nat.le_refl _)
     have hsucc:nI c l bs (i+1)=nI c l bs i++if bs.getD a false=true then [i] else []:=by
      unfold nI
      rw[A9]
      have:(osN c l).getD i 0=a:=by rw[List.getD,ha1];rfl
      rw[this]
     obtain⟨v,hv⟩:=aP (l:=bs) (i:=a) (by rw[hbl];exact ha2)
     have hva:=zN hv
     refine cM (fun s=>s=nI c l bs (i+1)) (fun k2 hk2=>⟨a,ha1,by rw[hRl];exact ha2,v,hv,fun e=>⟨by rw[List.length_singleton];omega,hk2 _ ?_⟩,fun e=>hk2 _ ?_⟩) fun s hs=>⟨by omega,hnx _ ⟨q,hs⟩ (by dsimp only;omega)⟩
     ·rw[hsucc,hva,if_pos e,ho]
     ·rw[hsucc,hva,if_neg (by rw[e];decide),ho,List.append_nil]
    ·have q:l.length<=i:=hosl ▸ bO.1 q
     obtain rfl:i=l.length:=by omega
     exact ho
theorem vq {c:Circ} (C:Cir c) {l:List Flt} (hl:ListOk c l) {ds:List Nat} (hd:∀ i∈ds,i<l.length) (hdl:ds.length<=65536) {K:List Nat×Nat->Prop}
  (h:∀ r bs,DomOk c (ksF c l) r->(∀ a,bs.getD a false=true↔Rch r (pc c l ds) a)->K (nI c l bs l.length,0)):bB c l (ds.map Int.ofNat) K :=
 uA C hl (.inl ⟨ds,rfl,hd,hdl,h⟩)
def yh (x:CData):CData:=⟨x.inp,x.dffs,x.data0,x.data1,x.bus,false,x.port0,x.port1,x.port2,x.port3,x.gates,x.outs⟩
theorem yw {x:CData} (h:CB x):CB (yh x):=⟨h.inp,h.dffs,h.data0,h.data1,h.port0,h.port1,h.port2,h.port3,h.gates,h.outs⟩
theorem vQ {x:CData} (hx:CB x) {K:Circ->Prop} (h:K (eE (yh x))):bN x K:=tU (yw hx) h
theorem xX {x:CData} (hm:x.mem=false):Cir (eE x):=by
 refine⟨vN hm,by rw[kp,hm];rfl,fun i y h=>?_⟩
 rcases vS hm h with⟨_,rfl⟩|⟨_,_,d,_,rfl⟩|⟨h1,_,g,hg⟩
 ·show (0:Nat)<=14;decide
 ·show (14:Nat)<=14;decide
 ·have hi:=ag h
  have hn:(eE x).nodes.length=(cb x).length:=fj _
  have q:=tz x.bus g (ks:=((cb x).take i).map Node.kind) (by rw[List.length_map,List.length_take];omega)
  rw[<- hg] at q
  have:=q.kind
  omega
def cO (c:Circ):List Flt:=gh 0 (ln c)
theorem pv {c:Circ} (C:Cir c):(ln c).length<=272:=by
 have:=jB C _ (Nat.le_refl _)
 have:=C.len
 unfold ln
 omega
theorem sZ {c:Circ} (C:Cir c):(cO c).length<=544:=by
 have:=pv C
 unfold cO
 rw[sr];omega
theorem mu {c:Circ}{f:Flt}:f∈cO c ↔ ∃ s,VS c s/\f=fltS s:=by
 unfold cO gh ln eB
 rw[List.mem_flatMap]
 constructor
 ·rintro⟨x,hx,m⟩
  obtain⟨i,hi,hx⟩:=List.mem_flatMap.1 hx
  unfold oQ at hx
  obtain⟨j,hj,rfl⟩:=List.mem_map.1 hx
  have hi:=List.mem_range.1 hi
  have hj:=List.mem_range.1 hj
  simp only[List.mem_cons,List.not_mem_nil,or_false] at m
  rcases m with rfl|rfl
  ·exact⟨⟨i,j,0⟩,⟨hi,by dsimp only;omega,by dsimp only;omega⟩,rfl⟩
  ·exact⟨⟨i,j,1⟩,⟨hi,by dsimp only;omega,by dsimp only;omega⟩,rfl⟩
 ·rintro⟨⟨n,p,v⟩,V,rfl⟩
  have h1:=V.node
  have h2:=V.pin
  have h3:=V.v
  dsimp only at h1 h2 h3
  refine⟨⟨n,Int.ofNat p-Int.ofNat 1⟩,List.mem_flatMap.2 ⟨n,List.mem_range.2 h1,?_⟩,?_⟩
  ·unfold oQ
   exact List.mem_map.2 ⟨p,List.mem_range.2 (by omega),rfl⟩
  ·have:v=0\/v=1:=by omega
   simp only[List.mem_cons,List.not_mem_nil,or_false]
   rcases this with rfl|rfl
   ·exact .inl rfl
   ·exact .inr rfl
theorem uJ {c:Circ} (C:Cir c):ListOk c (cO c):=by
 refine⟨Nat.le_trans (sZ C) (by decide),fun f m _=>?_,fun f m K h=>?_⟩
 ·obtain⟨s,V,rfl⟩:=mu.1 m
  exact xr V
 ·obtain⟨s,V,rfl⟩:=mu.1 m
  exact vv C (xr V) h
theorem vd {c:Circ} (C:Cir c) {K:List Flt×Nat->Prop} (h:K (cO c,0)):eV c 0 K:=by
 have:=pv C
 exact⟨ln c,so C rfl,by decide,by omega,h⟩
theorem xw (x:CData):0<(eE x).nodes.length:=by
 have hn:(eE x).nodes.length=(cb x).length:=fj _
 rw[hn];exact xb _
theorem xZ {x:CData} (hx:CB x) {K:Circ×List Flt->Prop} (h:∀ c,Cir c->0<c.nodes.length->K (c,cO c)):bQ x K:=by
 have C:Cir (eE (yh x)):=xX rfl
 unfold bQ
 exact vQ hx (vd C (h _ C (xw _)))
theorem tJ {c:Circ}{l:List Flt}{i:Nat}{row:List Nat} (h:(RN c l)[i]?=some row):∃ k,(ksF c l)[i]?=some k/\row=fq c l k:=by
 unfold RN at h
 rw[List.getElem?_map] at h
 obtain⟨k,hk,e⟩:=Option.map_eq_some_iff.1 h
 exact⟨k,hk,e.symm⟩
theorem zA {c:Circ}{l:List Flt}{i:Nat}{row:List Nat} (h:(RN c l)[i]?=some row) {m:Nat} (hm:m∈row):∃ f,l[m]?=some f/\clsOf c l f=i:=by
 obtain⟨k,hk,rfl⟩:=tJ h
 obtain⟨f,hf,e⟩:=il.1 hm
 refine⟨f,hf,?_⟩
 unfold clsOf
 rw[e]
 exact xO (qP c l) hk
theorem As {c:Circ}{l:List Flt} (h:0<l.length):0<(ksF c l).length:=by
 obtain⟨f,hf⟩:=aP h
 exact List.length_pos_of_mem (iP.2 ⟨f,List.mem_of_getElem? hf,rfl⟩)
theorem si {c:Circ} (h:0<c.nodes.length):0<(cO c).length :=
 List.length_pos_of_mem (mu.2 ⟨⟨0,0,0⟩,⟨h,Nat.zero_le _,by decide⟩,rfl⟩)
theorem yH {a b:List Nat} (ha:a.length<2 ^ 60) {K:Bool->Prop} (h:K (decide (a=b))):az a b K:=by
 unfold az
 by_cases e:a.length=b.length
 ·refine jC (a:=false) (fun G=>⟨fun q=>absurd e (eG.1 q),fun _=>?_⟩) ⟨(fun q=>by cases q),fun _=>?_⟩
  ·have:neN a.length a.length=false:=pV.2 rfl
   rw[this];exact G
  ·refine aO (fun i=>i<=a.length/\a.take i=b.take i) (fun i=>a.length-i) (fun _=>a=b) ?_ ⟨Nat.zero_le _,rfl⟩ (fun _ q=>?_)
   ·rintro k i nx ⟨hi,hp⟩ hnx hk
    refine⟨fun q=>?_,fun q=>hk _ ?_⟩
    ·have q:i<a.length:=bp.1 q
     obtain⟨x,hx⟩:=aP q
     obtain⟨y,hy⟩:=aP (l:=b) (i:=i) (by omega)
     refine⟨x,hx,y,hy,fun q2=>?_,fun q2=>⟨by omega,hnx _ ⟨q,?_⟩ (by omega)⟩⟩
     ·have:a≠b:=by
       rintro rfl
       rw[hx] at hy;cases hy
       exact eG.1 q2 rfl
      rw[decide_eq_false this] at h;exact h
     ·rw[gU hx,gU hy,hp,pV.1 q2]
    ·have q:a.length<=i:=bO.1 q
     rw[List.take_of_length_le q,List.take_of_length_le (by omega)] at hp
     exact hp
   ·rw[decide_eq_true q] at h;exact h
 ·have:a≠b:=by rintro rfl;exact e rfl
  rw[decide_eq_false this] at h
  exact jC (a:=true) (fun G=>⟨fun _=>G,fun q=>absurd (pV.1 q) e⟩) ⟨fun _=>h,fun q=>by cases q⟩
theorem vk:RN bM (cO bM)=[[0,2,4,6,8],[1,7],[3,9],[5]]:=by decide +kernel
theorem yV:(ksF bM (cO bM)).length=4:=by decide +kernel
theorem wR:domRaw bM (ksF bM (cO bM)) 3=[⟨1,3⟩,⟨2,3⟩]:=by decide +kernel
theorem uW:osN bM (cO bM)=[0,1,0,2,0,3,0,1,0,2]:=by decide +kernel
theorem pa {r:List N2} (h:DomOk bM (ksF bM (cO bM)) r):r=[⟨1,3⟩,⟨2,3⟩]:=by
 refine qF h.sorted ?_ fun x=>?_
 ·refine List.Pairwise.cons (fun y m=>?_) (List.pairwise_singleton _ _)
  rw[List.mem_singleton] at m
  subst m
  exact .inl (by decide)
 ·rw[h.mem]
  show x∈domRaw bM (ksF bM (cO bM)) 3↔_
  rw[wR]
theorem vp:fW bM (cO bM) [⟨1,3⟩,⟨2,3⟩] 4=[0,1,3]:=by
 unfold fW iQ
 rw[vk]
 decide +kernel
theorem xV {bs:List Bool} (h:∀ a,bs.getD a false=true↔Rch [⟨1,3⟩,⟨2,3⟩] (pc bM (cO bM) [7]) a):nI bM (cO bM) bs 10=[1,5,7]:=by
 have hst:∀ a,pc bM (cO bM) [7] a↔a=1:=by
  intro a
  unfold pc
  rw[uW]
  constructor
  ·rintro⟨i,m,e⟩
   rw[List.mem_singleton] at m
   subst m
   cases e;rfl
  ·rintro rfl
   exact⟨7,List.mem_singleton.2 rfl,rfl⟩
 have hR:∀ a,Rch [⟨1,3⟩,⟨2,3⟩] (pc bM (cO bM) [7]) a->a=1\/a=3:=by
  intro a ha
  induction ha with
  |base q=>exact .inl ((hst _).1 q)
  |step _ m _ =>
   simp only[List.mem_cons,List.not_mem_nil,or_false,N2.mk.injEq] at m
   omega
 have b0:bs.getD 0 false=false:=by
  rw[Bool.eq_false_iff];intro q
  have:=hR _ ((h 0).1 q);omega
 have b2:bs.getD 2 false=false:=by
  rw[Bool.eq_false_iff];intro q
  have:=hR _ ((h 2).1 q);omega
 have b1:bs.getD 1 false=true:=(h 1).2 (.base ((hst 1).2 rfl))
 have b3:bs.getD 3 false=true:=(h 3).2 (.step (.base ((hst 1).2 rfl)) (by simp))
 unfold nI
 rw[uW]
 have e:(List.range 10).filter (fun m=>bs.getD (([0,1,0,2,0,3,0,1,0,2]:List Nat).getD m 0) false)=(List.range 10).filter (fun m=>([false,true,false,true]:List Bool).getD (([0,1,0,2,0,3,0,1,0,2]:List Nat).getD m 0) false):=by
  refine List.filter_congr fun m hm=>?_
  have hm:=List.mem_range.1 hm
  have key:∀ q,q<4->bs.getD q false=([false,true,false,true]:List Bool).getD q false:=by
   intro q hq
   have:q=0\/q=1\/q=2\/q=3:=by omega
   rcases this with rfl|rfl|rfl|rfl
   ·exact b0
   ·exact b1
   ·exact b2
   ·exact b3
  refine key _ ?_
  have hall:∀ m,m<10->([0,1,0,2,0,3,0,1,0,2]:List Nat).getD m 0<4:=by decide
  exact hall m hm
 rw[e]
 decide
theorem tV {K:Bool->Prop} (h:K true):bA K:=by
 have C:=xx
 have hl:=uJ C
 have h0:neN 0 0=false:=pV.2 rfl
 unfold bA bZ
 refine vd C (oN C hl (pX C hl fun r hr=>yI C hl fun r2 hr2=>?_))
 have e1:=pa hr
 have e2:=pa hr2
 subst e1 e2
 refine vq (ds:=[7]) C hl (fun i m=>?_) (by decide) fun r3 bs hr3 hbs=>?_
 ·rw[List.mem_singleton] at m
  subst m
  decide
 have e3:=pa hr3
 subst e3
 have hx:=xV hbs
 have hc:fW bM (cO bM) [⟨1,3⟩,⟨2,3⟩] (ksF bM (cO bM)).length=[0,1,3]:=by rw[yV];exact vp
 have hx:nI bM (cO bM) bs (cO bM).length=[1,5,7]:=hx
 dsimp only
 rw[hc,hx,vk]
 have ik:∀ (a b:List Nat) (K:Bool->Prop),a=b->a.length<2 ^ 60->K true->az a b K:=fun a b K e q k=>yH q (by rw[decide_eq_true e];exact k)
 refine jC (a:=false) (fun G=>⟨fun q=>absurd rfl (eG.1 q),fun _=>⟨fun q=>absurd rfl (eG.1 q),fun _=>⟨fun q=>absurd rfl (eG.1 q),fun _=>⟨fun q=>absurd rfl (eG.1 q),fun _=>⟨fun q=>absurd rfl (eG.1 q),fun _=>G⟩⟩⟩⟩⟩) ⟨(fun q=>by cases q),fun _=>?_⟩
 refine⟨_,rfl,ik _ _ _ rfl (by decide) ⟨fun _=>?_,fun q=>(by cases q)⟩⟩
 refine⟨_,rfl,ik _ _ _ rfl (by decide) ⟨fun _=>?_,fun q=>(by cases q)⟩⟩
 refine⟨_,rfl,ik _ _ _ rfl (by decide) ⟨fun _=>?_,fun q=>(by cases q)⟩⟩
 refine⟨_,rfl,ik _ _ _ rfl (by decide) ⟨fun _=>?_,fun q=>(by cases q)⟩⟩
 refine⟨_,rfl,fun _=>⟨_,rfl,fun _=>?_,fun q=>absurd q (by decide)⟩,fun q=>absurd q (by decide)⟩
 refine ik _ _ _ rfl (by decide) ⟨fun _=>?_,fun q=>(by cases q)⟩
 exact ik _ _ _ rfl (by decide) h
theorem Bs (a:Nat):ltN a 0=false:=bO.2 (Nat.zero_le _)
theorem xW {c:Circ}{l:List Flt}{i:Nat}{row:List Nat} (h:(RN c l)[i]?=some row) {k m:Nat} (hm:row[k]?=some m):∃ f,l[m]?=some f/\f∈l/\clsOf c l f=i:=by
 obtain⟨f,h1,h2⟩:=zA h (List.mem_of_getElem? hm)
 exact⟨f,h1,List.mem_of_getElem? h1,h2⟩
def toR (k n v:Nat):Nat:=match (eqR k n).find? fun r=>r.pin==v with
 |some r=>r.out
 |none=>2
theorem xv {k n v:Nat} (hv:v<=1) (h:k=3\/k=13/\n=1\/k=5/\v=0\/k=7/\v=1):toR k n v=v:=by
 have hv:v=0\/v=1:=by omega
 rcases h with rfl|⟨rfl,rfl⟩|⟨rfl,rfl⟩|⟨rfl,rfl⟩
 ·rcases hv with rfl|rfl <;> rfl
 ·rcases hv with rfl|rfl <;> rfl
 ·rfl
 ·rfl
theorem ze {k n v:Nat} (hv:v<=1) (h:k=4\/k=6/\v=0\/k=8/\v=1):toR k n v=1-v:=by
 have hv:v=0\/v=1:=by omega
 rcases h with rfl|⟨rfl,rfl⟩|⟨rfl,rfl⟩
 ·rcases hv with rfl|rfl <;> rfl
 ·rfl
 ·rfl
theorem yq {k n v:Nat} (hv:v<=1) (h3:k≠3) (h13:¬ (k=13/\n=1)) (h5:¬ (k=5/\v=0)) (h7:¬ (k=7/\v=1)) (h4:k≠4) (h6:¬ (k=6/\v=0)) (h8:¬ (k=8/\v=1)):toR k n v=2:=by
 unfold toR eqR
 rw[if_neg (fun q=>q.elim h3 h13),if_neg h4]
 by_cases k5:k=5
 ·have hv:v=1:=by omega
  subst k5 hv;rfl
 rw[if_neg k5]
 by_cases k6:k=6
 ·have hv:v=1:=by omega
  subst k6 hv;rfl
 rw[if_neg k6]
 by_cases k7:k=7
 ·have hv:v=0:=by omega
  subst k7 hv;rfl
 rw[if_neg k7]
 by_cases k8:k=8
 ·have hv:v=0:=by omega
  subst k8 hv;rfl
 rw[if_neg k8];rfl
theorem yp {c:Circ}{n j v:Nat} (hn:n<c.nodes.length) (hj:j<(insOf c n).length) (w:Si):down c ⟨n,j+1,v⟩=some w↔toR (kd c n) (insOf c n).length v≠2/\w=⟨n,0,toR (kd c n) (insOf c n).length v⟩:=by
 rw[jt]
 unfold toR
 constructor
 ·rintro⟨_,_,r,hr,hv,rfl⟩
  rw[ml.2 ⟨hr,hv⟩]
  have:=(oh hr).2
  exact⟨by dsimp only;omega,rfl⟩
 ·rintro⟨h1,rfl⟩
  cases e:(eqR (kd c n) (insOf c n).length).find? fun r=>r.pin==v with
  |none=>rw[e] at h1;exact absurd rfl h1
  |some r =>
   obtain⟨h2,h3⟩:=ml.1 e
   exact⟨hn,hj,r,h2,h3,rfl⟩
def inP (c:Circ) (n j v:Nat) (z:F2):Prop:=∃ m q u w,(m<n\/m=n/\(q<j\/q=j/\u<v))/\down c ⟨m,q+1,u⟩=some w/\z=⟨fltS ⟨m,q+1,u⟩,fltS w⟩
def inO (c:Circ) (n v:Nat) (z:F2):Prop:=∃ m u w,(m<n\/m=n/\u<v)/\down c ⟨m,0,u⟩=some w/\z=⟨fltS ⟨m,0,u⟩,fltS w⟩
structure RulOk (c:Circ) (r:List F2):Prop where
 mem:∀ z,z∈r ↔ ∃ s w,down c s=some w/\z=⟨fltS s,fltS w⟩
 len:r.length<=2000
theorem xh {c:Circ} (C:Cir c) {K:List F2->Prop} (h:∀ r,RulOk c r->K r):bo c K:=by
 have hlen:=C.len
 have g:FanPre c:=⟨hlen,fun i x hx=>⟨(C.good.node i x hx).ins,(C.good.node i x hx).few⟩⟩
 unfold bo
 refine aO (fun s=>s.2<=c.nodes.length/\s.1.length<=s.2*32/\∀ z,z∈s.1↔inP c s.2 0 0 z) (fun s=>c.nodes.length-s.2) (fun r:List F2=>r.length<=c.nodes.length*32/\∀ z,z∈r↔inP c c.nodes.length 0 0 z) ?_ ⟨Nat.zero_le _,Nat.le_refl _,fun z=>⟨fun m=>(by cases m),fun ⟨m,q,u,w,h1,_⟩=>by omega⟩⟩ ?_
 ·rintro k ⟨out,n⟩ nx ⟨hn,hol,ho⟩ hnx hk
  dsimp only at hn hol ho
  refine⟨fun q=>?_,fun q=>hk _ ?_⟩
  ·have q:n<c.nodes.length:=bp.1 q
   obtain⟨x,hx⟩:=aP q
   have hfew:=(C.good.node n x hx).few
   refine cM (fun r:List F2=>r.length<=(n+1)*32/\∀ z,z∈r↔inP c (n+1) 0 0 z) (fun k2 hk2=>⟨x,hx,?_⟩) fun r hr=>⟨by omega,hnx _ ⟨q,hr.1,hr.2⟩ (by dsimp only;omega)⟩
   refine aT (fun s=>s.2<=x.ins.length/\s.1.length<=n*32+s.2*2/\∀ z,z∈s.1↔inP c n s.2 0 z) (fun s=>x.ins.length-s.2) ?_ ⟨Nat.zero_le _,by dsimp only;omega,ho⟩
   rintro⟨out,j⟩ nx2 ⟨hj,hol2,ho2⟩ hnx2
   dsimp only at hj hol2 ho2
   refine⟨x,hx,fun q2=>?_,fun q2=>hk2 _ ⟨by omega,fun z=>(ho2 z).trans ⟨?_,?_⟩⟩⟩
   ·have q2:j<x.ins.length:=bp.1 q2
    refine cM (fun r:List F2=>r.length<=n*32+(j+1)*2/\∀ z,z∈r↔inP c n (j+1) 0 z) (fun k3 hk3=>?_) fun r hr=>⟨by omega,hnx2 _ ⟨q2,hr.1,hr.2⟩ (by dsimp only;omega)⟩
    refine aT (fun s=>s.2<=2/\s.1.length<=n*32+j*2+s.2/\∀ z,z∈s.1↔inP c n j s.2 z) (fun s=>2-s.2) ?_ ⟨by dsimp only;omega,by dsimp only;omega,ho2⟩
    rintro⟨out,v⟩ nx3 ⟨hv,hol3,ho3⟩ hnx3
    dsimp only at hv hol3 ho3
    refine⟨fun q3=>?_,fun q3=>hk3 _ ⟨by omega,fun z=>(ho3 z).trans ⟨?_,?_⟩⟩⟩
    ·have q3:v<=1:=my.1 q3
     have hd:=fun w=>yp (c:=c) (n:=n) (j:=j) (v:=v) q (by rw[bT hx];exact q2) w
     rw[bT hx,lI hx] at hd
     refine cM (fun r:List F2=>r.length<=n*32+j*2+(v+1)/\∀ z,z∈r↔inP c n j (v+1) z) (fun k4 hk4=>?_) fun r hr=>⟨by omega,hnx3 _ ⟨by dsimp only;omega,hr.1,hr.2⟩ (by dsimp only;omega)⟩
     refine cM (fun t=>t=toR x.kind x.ins.length v) (fun k5 hk5=>?_) ?_
     ·refine cM (fun b=>(b=true->x.kind=3\/x.kind=13/\x.ins.length=1\/x.kind=5/\v=0\/x.kind=7/\v=1)/\(b=false->x.kind≠3/\¬ (x.kind=13/\x.ins.length=1)/\¬ (x.kind=5/\v=0)/\¬ (x.kind=7/\v=1))) (fun k6 hk6=>?_) ?_
      ·have t5:x.kind≠3->¬ (x.kind=13/\x.ins.length=1)->((eqN x.kind 5)=true->((eqN v 0)=true->k6 true)/\((eqN v 0)=false->((eqN x.kind 7)=true->k6 (eqN v 1))/\((eqN x.kind 7)=false->k6 false)))/\((eqN x.kind 5)=false->((eqN x.kind 7)=true->k6 (eqN v 1))/\((eqN x.kind 7)=false->k6 false)):=by
        intro n3 n13
        have t7:¬ (x.kind=5/\v=0)->((eqN x.kind 7)=true->k6 (eqN v 1))/\((eqN x.kind 7)=false->k6 false):=fun n5 =>
         ⟨fun e7=>hk6 _ ⟨fun e=>.inr (.inr (.inr ⟨dy.1 e7,dy.1 e⟩)),fun e=>⟨n3,n13,n5,fun q=>dK.1 e q.2⟩⟩,fun e7=>hk6 _ ⟨(fun e=>by cases e),fun _=>⟨n3,n13,n5,fun q=>dK.1 e7 q.1⟩⟩⟩
        exact⟨fun e5=>⟨fun e0=>hk6 _ ⟨fun _=>.inr (.inr (.inl ⟨dy.1 e5,dy.1 e0⟩)),fun e=>by cases e⟩,fun e0=>t7 (fun q=>dK.1 e0 q.2)⟩,fun e5=>t7 (fun q=>dK.1 e5 q.1)⟩
       refine⟨fun e3=>hk6 _ ⟨fun _=>.inl (dy.1 e3),fun e=>by cases e⟩,fun e3=>⟨fun e13=>⟨x,hx,fun e1=>hk6 _ ⟨fun _=>.inr (.inl ⟨dy.1 e13,dy.1 e1⟩),fun e=>by cases e⟩,fun e1=>t5 (dK.1 e3) (fun q=>dK.1 e1 q.2)⟩,fun e13=>t5 (dK.1 e3) (fun q=>dK.1 e13 q.1)⟩⟩
      ·rintro b ⟨hb1,hb2⟩
       refine⟨fun e=>hk5 _ (xv q3 (hb1 e)).symm,fun e=>?_⟩
       obtain⟨n3,n13,n5,n7⟩:=hb2 e
       refine cM (fun b=>(b=true->x.kind=4\/x.kind=6/\v=0\/x.kind=8/\v=1)/\(b=false->x.kind≠4/\¬ (x.kind=6/\v=0)/\¬ (x.kind=8/\v=1))) (fun k6 hk6=>?_) ?_
       ·have t8:x.kind≠4->¬ (x.kind=6/\v=0)->((eqN x.kind 8)=true->k6 (eqN v 1))/\((eqN x.kind 8)=false->k6 false):=fun n4 n6 =>
         ⟨fun e8=>hk6 _ ⟨fun e=>.inr (.inr ⟨dy.1 e8,dy.1 e⟩),fun e=>⟨n4,n6,fun q=>dK.1 e q.2⟩⟩,fun e8=>hk6 _ ⟨(fun e=>by cases e),fun _=>⟨n4,n6,fun q=>dK.1 e8 q.1⟩⟩⟩
        exact⟨fun e4=>hk6 _ ⟨fun _=>.inl (dy.1 e4),fun e=>by cases e⟩,fun e4=>⟨fun e6=>⟨fun e0=>hk6 _ ⟨fun _=>.inr (.inl ⟨dy.1 e6,dy.1 e0⟩),fun e=>by cases e⟩,fun e0=>t8 (dK.1 e4) (fun q=>dK.1 e0 q.2)⟩,fun e6=>t8 (dK.1 e4) (fun q=>dK.1 e6 q.1)⟩⟩
       ·rintro b ⟨hc1,hc2⟩
        refine⟨fun e=>⟨q3,by decide,hk5 _ (ze q3 (hc1 e)).symm⟩,fun e=>?_⟩
        obtain⟨n4,n6,n8⟩:=hc2 e
        exact hk5 _ (yq q3 n3 n13 n5 n7 n4 n6 n8).symm
     ·rintro t rfl
      have e1:(⟨0,⟨n,Int.ofNat j⟩,v,0⟩:Flt)=fltS ⟨n,j+1,v⟩:=(uY n j v).symm
      have e2:(⟨0,⟨n,Int.negSucc 0⟩,toR x.kind x.ins.length v,0⟩:Flt)=fltS ⟨n,0,toR x.kind x.ins.length v⟩:=rfl
      refine⟨fun e=>⟨by rw[List.length_singleton];omega,hk4 _ ⟨by rw[List.length_append,List.length_singleton];omega,fun z=>?_⟩⟩,fun e=>hk4 _ ⟨by omega,fun z=>?_⟩⟩
      ·have e:=eG.1 e
       rw[e1,e2,aH,ho3]
       constructor
       ·rintro (⟨m,a,u,w,h1,h2,h3⟩|rfl)
        ·exact⟨m,a,u,w,by omega,h2,h3⟩
        ·exact⟨n,j,v,_,by omega,(hd _).2 ⟨e,rfl⟩,rfl⟩
       ·rintro⟨m,a,u,w,h1,h2,h3⟩
        by_cases e4:m=n/\a=j/\u=v
        ·obtain⟨rfl,rfl,rfl⟩:=e4
         right
         rw[h3,((hd w).1 h2).2]
        ·exact .inl ⟨m,a,u,w,by omega,h2,h3⟩
      ·have e:=pV.1 e
       rw[ho3]
       constructor
       ·rintro⟨m,a,u,w,h1,h2,h3⟩
        exact⟨m,a,u,w,by omega,h2,h3⟩
       ·rintro⟨m,a,u,w,h1,h2,h3⟩
        by_cases e4:m=n/\a=j/\u=v
        ·obtain⟨rfl,rfl,rfl⟩:=e4
         exact absurd e ((hd w).1 h2).1
        ·exact⟨m,a,u,w,by omega,h2,h3⟩
    ·have q3:1<v:=mr.1 q3
     rintro⟨m,a,u,w,h1,h2,h3⟩
     exact⟨m,a,u,w,by omega,h2,h3⟩
    ·have q3:1<v:=mr.1 q3
     rintro⟨m,a,u,w,h1,h2,h3⟩
     have:=(kl h2).1.v
     dsimp only at this
     exact⟨m,a,u,w,by omega,h2,h3⟩
   ·rintro⟨m,a,u,w,h1,h2,h3⟩
    exact⟨m,a,u,w,by omega,h2,h3⟩
   ·have q2:x.ins.length<=j:=bO.1 q2
    rintro⟨m,a,u,w,h1,h2,h3⟩
    have h4:=(kl h2).1.pin
    dsimp only at h4
    by_cases e:m=n
    ·subst e
     rw[bT hx] at h4
     exact⟨m,a,u,w,by omega,h2,h3⟩
    ·exact⟨m,a,u,w,by omega,h2,h3⟩
  ·have q:c.nodes.length<=n:=bO.1 q
   obtain rfl:n=c.nodes.length:=by omega
   exact⟨hol,ho⟩
 rintro r1 ⟨hr1l,hr1⟩
 refine aO (fun s=>s.2<=c.nodes.length/\s.1.length<=c.nodes.length*32+s.2*2/\∀ z,z∈s.1↔inP c c.nodes.length 0 0 z\/inO c s.2 0 z) (fun s=>c.nodes.length-s.2) (fun r:List F2=>RulOk c r) ?_ ⟨Nat.zero_le _,by dsimp only;omega,fun z=>(hr1 z).trans ⟨.inl,fun q=>q.elim id fun ⟨m,u,w,h1,_⟩=>by omega⟩⟩ (fun r hr=>h r hr)
 rintro k ⟨out,n⟩ nx ⟨hn,hol,ho⟩ hnx hk
 dsimp only at hn hol ho
 refine⟨fun q=>?_,fun q=>hk _ ?_⟩
 ·have q:n<c.nodes.length:=bp.1 q
  refine cM (fun r:List F2=>r.length<=c.nodes.length*32+(n+1)*2/\∀ z,z∈r↔inP c c.nodes.length 0 0 z\/inO c (n+1) 0 z) (fun k2 hk2=>?_) fun r hr=>⟨by omega,hnx _ ⟨q,hr.1,hr.2⟩ (by dsimp only;omega)⟩
  refine aO (fun (s:Nat×Nat×Int×Nat)=>s.2.2.2<=c.nodes.length/\s.1=(cI c s.2.2.2 n).length/\∀ l,(cI c s.2.2.2 n).getLast?=some l->s.2.1=l.node/\s.2.2.1=Int.ofNat l.pin) (fun s=>c.nodes.length-s.2.2.2) (fun s=>s.1=(fanOf c n).length/\∀ l,(fanOf c n).getLast?=some l->s.2.1=l.node/\s.2.2=Int.ofNat l.pin) ?_ ⟨Nat.zero_le _,rfl,fun l hl=>by cases hl⟩ ?_
  ·rintro k3 ⟨many,an,ap,i⟩ nx3 ⟨hi,hm,ha⟩ hnx3 hk3
   dsimp only at hi hm ha
   refine⟨fun q3=>?_,fun q3=>hk3 _ ?_⟩
   ·have q3:i<c.nodes.length:=bp.1 q3
    obtain⟨x,hx⟩:=aP q3
    have hfew:=(C.good.node i x hx).few
    have hpl:=kS g n i hi
    refine cM (fun s=>s.1=(cI c (i+1) n).length/\∀ l,(cI c (i+1) n).getLast?=some l->s.2.1=l.node/\s.2.2=Int.ofNat l.pin) (fun k4 hk4=>?_) fun s hs=>⟨by omega,hnx3 _ ⟨q3,hs.1,hs.2⟩ (by dsimp only;omega)⟩
    refine aT (fun (s:Nat×Nat×Int×Nat)=>s.2.2.2<=x.ins.length/\s.1=(cI c i n++aR n i (x.ins.take s.2.2.2)).length/\∀ l,(cI c i n++aR n i (x.ins.take s.2.2.2)).getLast?=some l->s.2.1=l.node/\s.2.2.1=Int.ofNat l.pin) (fun s=>x.ins.length-s.2.2.2) ?_ ⟨Nat.zero_le _,by dsimp only[List.take_zero];rw[show aR n i []=[] from rfl,List.append_nil];exact hm,by dsimp only[List.take_zero];rw[show aR n i []=[] from rfl,List.append_nil];exact ha⟩
    rintro⟨many,an,ap,t⟩ nx4 ⟨ht,hm4,ha4⟩ hnx4
    dsimp only at ht hm4 ha4
    refine⟨x,hx,fun q4=>?_,fun q4=>hk4 _ ?_⟩
    ·have q4:t<x.ins.length:=bp.1 q4
     obtain⟨y,hy⟩:=aP q4
     have hfl:=jD n i (x.ins.take t)
     have htl:(x.ins.take t).length=t:=by rw[List.length_take];omega
     have hsn:aR n i (x.ins.take (t+1))=aR n i (x.ins.take t)++(if y=n then [⟨i,t⟩] else []):=by rw[gU hy,lW,htl]
     have hml:many<=16*16+16:=by
      rw[hm4,List.length_append];omega
     refine cM (fun s=>s.1=(cI c i n++aR n i (x.ins.take (t+1))).length/\∀ l,(cI c i n++aR n i (x.ins.take (t+1))).getLast?=some l->s.2.1=l.node/\s.2.2=Int.ofNat l.pin) (fun k5 hk5=>⟨x,hx,y,hy,fun e=>⟨by omega,hk5 _ ?_⟩,fun e=>hk5 _ ?_⟩) fun s hs=>⟨by omega,hnx4 _ ⟨q4,hs.1,hs.2⟩ (by dsimp only;omega)⟩
     ·have e:=dy.1 e
      rw[hsn,if_pos e,<- List.append_assoc]
      refine⟨by rw[List.length_append,<- hm4];rfl,fun l hl=>?_⟩
      rw[List.getLast?_concat] at hl
      cases hl
      exact⟨rfl,rfl⟩
     ·have e:=dK.1 e
      rw[hsn,if_neg e,List.append_nil]
      exact⟨hm4,ha4⟩
    ·have q4:x.ins.length<=t:=bO.1 q4
     rw[List.take_of_length_le q4] at hm4 ha4
     rw[jV hx]
     exact⟨hm4,ha4⟩
   ·have q3:c.nodes.length<=i:=bO.1 q3
    obtain rfl:i=c.nodes.length:=by omega
    have e:cI c c.nodes.length n=fanOf c n:=by
     unfold cI fanOf
     rw[List.take_of_length_le (by simp)]
    rw[e] at hm ha
    exact⟨hm,ha⟩
  ·rintro⟨many,an,ap⟩ ⟨hm,ha⟩
   dsimp only at hm ha ⊢
   refine aO (fun s=>s.2<=c.outs.length/\s.1=if n∈c.outs.take s.2 then 2 else many) (fun s=>c.outs.length-s.2) (fun s=>s=if n∈c.outs then 2 else many) ?_ ⟨Nat.zero_le _,by simp⟩ ?_
   ·rintro k3 ⟨m,i⟩ nx3 ⟨hi,hmm⟩ hnx3 hk3
    dsimp only at hi hmm
    refine⟨fun q3=>?_,fun q3=>hk3 _ ?_⟩
    ·have q3:i<c.outs.length:=bp.1 q3
     obtain⟨o,hoo⟩:=aP q3
     have hol:=C.good.outsLen
     refine cM (fun s=>s=if n∈c.outs.take (i+1) then 2 else many) (fun k4 hk4=>⟨o,hoo,fun e=>hk4 _ ?_,fun e=>hk4 _ ?_⟩) fun s hs=>⟨by omega,hnx3 _ ⟨q3,hs⟩ (by dsimp only;omega)⟩
     ·rw[gU hoo,if_pos (aH.2 (.inr (dy.1 e).symm))]
     ·have e:=dK.1 e
      rw[gU hoo,hmm]
      by_cases m1:n∈c.outs.take i
      ·rw[if_pos m1,if_pos (aH.2 (.inl m1))]
      ·rw[if_neg m1,if_neg (fun q=>(aH.1 q).elim m1 fun q=>e q.symm)]
    ·have q3:c.outs.length<=i:=bO.1 q3
     rw[List.take_of_length_le q3] at hmm
     exact hmm
   ·rintro m2 hm2
    have sole:∀ l,jc c n=some l↔m2=1/\an=l.node/\ap=Int.ofNat l.pin:=by
     intro l
     constructor
     ·intro hl
      obtain⟨h1,h2⟩:=na hl
      rw[hm2,if_neg h2,hm,h1]
      exact⟨rfl,ha l (by rw[h1];rfl)⟩
     ·rintro⟨h1,h2,h3⟩
      by_cases m1:n∈c.outs
      ·rw[if_pos m1] at hm2;omega
      ·rw[if_neg m1] at hm2
       rw[hm2,hm] at h1
       obtain⟨l',hl'⟩:=List.length_eq_one_iff.1 h1
       have:=ha l' (by rw[hl'];rfl)
       unfold jc
       rw[hl']
       dsimp only
       rw[if_neg m1]
       obtain⟨a,b⟩:=l
       obtain⟨a',b'⟩:=l'
       dsimp only at this h2 h3
       have e1:a=a':=h2.symm.trans this.1
       have e2:b=b':=Int.ofNat.inj (h3.symm.trans this.2)
       rw[e1,e2]
    have hd:∀ v w,v<=1->(down c ⟨n,0,v⟩=some w↔m2=1/\∃ l:Ln,an=l.node/\ap=Int.ofNat l.pin/\w=⟨l.node,l.pin+1,v⟩):=by
     intro v w hv
     rw[ic]
     constructor
     ·rintro⟨_,_,l,hl,hw⟩
      obtain⟨a,b,d⟩:=(sole l).1 hl
      exact⟨a,l,b,d,hw⟩
     ·rintro⟨a,l,b,d,hw⟩
      exact⟨q,hv,l,(sole l).2 ⟨a,b,d⟩,hw⟩
    have hap:m2=1->∃ p,ap=Int.ofNat p:=by
     intro e
     by_cases m1:n∈c.outs
     ·rw[if_pos m1] at hm2;omega
     ·rw[if_neg m1] at hm2
      rw[hm2,hm] at e
      obtain⟨l',hl'⟩:=List.length_eq_one_iff.1 e
      exact⟨_,(ha l' (by rw[hl'];rfl)).2⟩
    refine aT (fun s=>s.2<=2/\s.1.length<=c.nodes.length*32+n*2+s.2/\∀ z,z∈s.1↔inP c c.nodes.length 0 0 z\/inO c n s.2 z) (fun s=>2-s.2) ?_ ⟨by dsimp only;omega,by dsimp only;omega,ho⟩
    rintro⟨out,v⟩ nx3 ⟨hv,hol3,ho3⟩ hnx3
    dsimp only at hv hol3 ho3
    refine cM (fun b=>b=decide (v<=1/\m2=1)) (fun k4 hk4=>⟨fun e=>hk4 _ ?_,fun e=>hk4 _ ?_⟩) ?_
    ·have e:=my.1 e
     rw[jN]
     simp[e]
    ·have e:=mr.1 e
     rw[decide_eq_false]
     omega
    ·rintro _ rfl
     refine⟨fun e=>?_,fun e=>hk2 _ ⟨by dsimp only;omega,fun z=>(ho3 z).trans ⟨?_,?_⟩⟩⟩
     ·obtain⟨hv1,hm1⟩:=of_decide_eq_true e
      obtain⟨p,rfl⟩:=hap hm1
      refine⟨by dsimp only;rw[List.length_singleton];omega,by omega,hnx3 _ ⟨by dsimp only;omega,by dsimp only;rw[List.length_append,List.length_singleton];omega,fun z=>?_⟩ (by dsimp only;omega)⟩
      have e1:(⟨0,⟨n,Int.negSucc 0⟩,v,0⟩:Flt)=fltS ⟨n,0,v⟩:=rfl
      have e2:(⟨0,⟨an,Int.ofNat p⟩,v,0⟩:Flt)=fltS ⟨an,p+1,v⟩:=(uY an p v).symm
      dsimp only
      rw[e1,e2,aH,ho3]
      constructor
      ·rintro ((q3|⟨m,u,w,h1,h2,h3⟩) | rfl)
       ·exact .inl q3
       ·exact .inr ⟨m,u,w,by omega,h2,h3⟩
       ·exact .inr ⟨n,v,_,by omega,(hd v _ hv1).2 ⟨hm1,⟨an,p⟩,rfl,rfl,rfl⟩,rfl⟩
      ·rintro (q3|⟨m,u,w,h1,h2,h3⟩)
       ·exact .inl (.inl q3)
       ·by_cases e4:m=n/\u=v
        ·obtain⟨rfl,rfl⟩:=e4
         obtain⟨_,l,l1,l2,rfl⟩:=(hd u w hv1).1 h2
         right
         rw[h3,l1,Int.ofNat.inj l2]
        ·exact .inl (.inr ⟨m,u,w,by omega,h2,h3⟩)
     ·rintro (q3|⟨m,u,w,h1,h2,h3⟩)
      ·exact .inl q3
      ·exact .inr ⟨m,u,w,by omega,h2,h3⟩
     ·have e:=of_decide_eq_false e
      rintro (q3|⟨m,u,w,h1,h2,h3⟩)
      ·exact .inl q3
      ·have hu:=(kl h2).1.v
       dsimp only at hu
       by_cases e4:m=n
       ·subst e4
        have:=((hd u w hu).1 h2).1
        exact .inr ⟨m,u,w,by omega,h2,h3⟩
       ·exact .inr ⟨m,u,w,by omega,h2,h3⟩
 ·have q:c.nodes.length<=n:=bO.1 q
  obtain rfl:n=c.nodes.length:=by omega
  refine⟨fun z=>(ho z).trans ⟨?_,?_⟩,by omega⟩
  ·rintro (⟨m,a,u,w,_,h2,h3⟩|⟨m,u,w,_,h2,h3⟩)
   ·exact⟨_,w,h2,h3⟩
   ·exact⟨_,w,h2,h3⟩
  ·rintro⟨⟨m,a,u⟩,w,h2,h3⟩
   have hm:=(kl h2).1.node
   dsimp only at hm
   cases a with
   |zero=>exact .inr ⟨m,u,w,.inl hm,h2,h3⟩
   |succ a=>exact .inl ⟨m,a,u,w,.inl hm,h2,h3⟩
def nuF (c:Circ) (f:Flt):Nat:=numN c (zh f)
theorem uS (c:Circ) (s:Si):nuF c (fltS s)=numN c s:=by unfold nuF;rw[sn]
theorem xD (c:Circ) (i j v:Nat):nuF c ⟨0,⟨i,Int.ofNat j-Int.ofNat 1⟩,v,0⟩=cC c i+2*j+v:=by
 have:(⟨0,⟨i,Int.ofNat j-Int.ofNat 1⟩,v,0⟩:Flt)=fltS ⟨i,j,v⟩:=rfl
 rw[this,uS];rfl
theorem sD (m:Nat) (a b:List LnZ):gh m (a++b)=gh m a++gh m b:=List.flatMap_append ..
theorem zq (c:Circ) (i k:Nat):(gh 0 ((List.range k).map fun j=>(⟨i,Int.ofNat j-Int.ofNat 1⟩:LnZ))).map (nuF c)=(List.range (2*k)).map (cC c i + ·):=by
 induction k with
 |zero=>rfl
 |succ k ih =>
  rw[List.range_succ,List.map_append,sD,List.map_append,ih,show 2*(k+1)=2*k+1+1 by omega,List.range_succ,List.range_succ]
  rw[List.map_append,List.map_append,List.append_assoc]
  congr 1
  show [nuF c _,nuF c _]=_
  rw[xD,xD]
  simp only[List.map_cons,List.map_nil,List.cons_append,List.nil_append,List.cons.injEq,and_true]
  omega
theorem yY (c:Circ) (i:Nat):(gh 0 (eB c i)).map (nuF c)=List.range (cC c i):=by
 induction i with
 |zero=>rfl
 |succ i ih =>
  rw[iR,sD,List.map_append,ih]
  unfold oQ
  rw[zq,cC,List.range_add]
theorem sM (c:Circ):(cO c).map (nuF c)=List.range (npN c):=yY c _
theorem rO (c:Circ):(cO c).length=npN c:=by
 have:=congrArg List.length (sM c)
 rw[List.length_map,List.length_range] at this
 exact this
theorem mi {c:Circ}{i:Nat}{f:Flt} (h:(cO c)[i]?=some f):∃ s,VS c s/\f=fltS s/\numN c s=i:=by
 obtain⟨s,V,rfl⟩:=mu.1 (List.mem_of_getElem? h)
 refine⟨s,V,rfl,?_⟩
 have e:((cO c).map (nuF c))[i]?=some (numN c s):=by rw[List.getElem?_map,h];show some _=_;rw[uS]
 rw[sM,List.getElem?_range (by rw[<- rO];exact ag h)] at e
 exact (Option.some.inj e).symm
theorem zv {c:Circ}{s:Si} (V:VS c s):(cO c)[numN c s]?=some (fltS s):=by
 obtain⟨f,hf⟩:=aP (l:=cO c) (i:=numN c s) (by rw[rO];exact dq V)
 obtain⟨t,W,rfl,e⟩:=mi hf
 rw[jw W V e] at hf
 exact hf
theorem uQ {l:List Nat}{i x y:Nat} (h:l[i]?=some x):(l.set i y).sum+x=l.sum+y:=by
 induction l generalizing i with
 |nil=>cases h
 |cons a l ih =>
  cases i with
  |zero =>
   have e:a=x:=by simpa using h
   show y+l.sum+x=a+l.sum+y
   omega
  |succ i =>
   have:=ih (i:=i) h
   show a+(l.set i y).sum+x=a+l.sum+y
   omega
structure Lab (c:Circ) (L:List Nat):Prop where
 len:L.length=npN c
 lab:∀ s,VS c s->∃ t,VS c t/\L[numN c s]?=some (numN c t)/\clsN c t=clsN c s/\numN c t<=numN c s
theorem Lab.set {c:Circ}{L:List Nat} (A:Lab c L) {s u:Si} (hs:VS c s) (hu:VS c u) (he:clsN c u=clsN c s) (hle:numN c u<=numN c s):Lab c (L.set (numN c s) (numN c u)):=by
 refine⟨(List.length_set ..).trans A.len,fun t ht=>?_⟩
 by_cases e:t=s
 ·subst e
  exact⟨u,hu,List.getElem?_set_self (by rw[A.len];exact dq ht),he,hle⟩
 ·obtain⟨w,h1,h2,h3,h4⟩:=A.lab t ht
  refine⟨w,h1,?_,h3,h4⟩
  rw[List.getElem?_set_ne (fun q=>e (jw ht hs q.symm))]
  exact h2
theorem Lab.start (c:Circ):Lab c (List.range (npN c)):=⟨List.length_range,fun s hs=>⟨s,hs,List.getElem?_range (dq hs),rfl,Nat.le_refl _⟩⟩
structure LabE (c:Circ) (L:List Nat):Prop where
 lab:Lab c L
 same:∀ s w,down c s=some w->L[numN c s]?=L[numN c w]?
theorem LabE.cls {c:Circ}{L:List Nat} (A:LabE c L) {s t:Si} (hs:VS c s) (ht:VS c t) (e:clsN c s=clsN c t):L[numN c s]?=L[numN c t]?:=by
 have key:∀ a,VS c a->L[numN c a]?=L[numN c (clsN c a)]?:=fun a ha =>
  zp (P:=fun a d=>L[numN c a]?=L[numN c d]?) (fun _ _=>rfl) (fun _ _ _ h q=>(A.same _ _ h).trans q) ha
 rw[key s hs,key t ht,e]
theorem vV {c:Circ}{l:List Flt}{k:Flt}{x m:Nat} (h:(fq c l k)[0]?=some x) (hm:m∈fq c l k):x<=m:=by
 have hp:(fq c l k).Pairwise (· < ·):=by unfold fq;exact List.pairwise_lt_range.filter _
 cases e:fq c l k with
 |nil=>rw[e] at hm;cases hm
 |cons a t =>
  rw[e] at h hm hp
  cases h
  rcases List.mem_cons.1 hm with rfl|m2
  ·exact Nat.le_refl _
  ·exact Nat.le_of_lt ((List.pairwise_cons.1 hp).1 _ m2)
theorem LabE.row {c:Circ}{L:List Nat} (A:LabE c L) {i:Nat}{row:List Nat} (h:(RN c (cO c))[i]?=some row) {k m:Nat} (hm:row[k]?=some m):∃ x,row[0]?=some x/\L[m]?=some x:=by
 obtain⟨ky,hk,rfl⟩:=tJ h
 have hmm:=List.mem_of_getElem? hm
 obtain⟨x,hx⟩:=aP (l:=fq c (cO c) ky) (i:=0) (by have:=ag hm;omega)
 refine⟨x,hx,?_⟩
 obtain⟨f,hf,ef⟩:=il.1 hmm
 obtain⟨g,hg,eg⟩:=il.1 (List.mem_of_getElem? hx)
 obtain⟨s,vs,rfl,rfl⟩:=mi hf
 obtain⟨s0,vs0,rfl,rfl⟩:=mi hg
 rw[oj] at ef eg
 have e:clsN c s=clsN c s0:=lK (ef.trans eg.symm)
 rw[A.cls vs vs0 e]
 obtain⟨t,vt,h2,h3,h4⟩:=A.lab.lab s0 vs0
 have:numN c t∈fq c (cO c) ky:=il.2 ⟨_,zv vt,by rw[oj,h3];exact eg⟩
 have:=vV hx this
 rw[h2,show numN c t=numN c s0 by omega]
theorem wD {c:Circ} (C:Cir c) {K:List Nat->Prop} (h:∀ L,LabE c L->K L):bk c (cO c) K:=by
 have hnp:=rz C
 have hln:=rO c
 unfold bk
 refine xh C fun r R=>⟨by omega,by omega,?_⟩
 have hrl:=R.len
 refine aO (fun s=>s.2.2<=npN c/\s.2.1=List.range s.2.2++List.replicate (npN c-s.2.2) 0/\∀ t,VS c t->numN c t<s.2.2->ba s.1 (fltS t)=some (numN c t)) (fun s=>npN c-s.2.2)
  (fun s=>s.2=List.range (npN c)/\∀ t,VS c t->ba s.1 (fltS t)=some (numN c t)) ?_ ⟨Nat.zero_le _,by rw[hln];simp,fun t _ q=>absurd q (Nat.not_lt_zero _)⟩ ?_
 ·rintro k ⟨at_,L,i⟩ nx ⟨hi,hL,ha⟩ hnx hk
  dsimp only at hi hL ha
  refine⟨fun q=>?_,fun q=>hk _ ?_⟩
  ·have q:i<npN c:=hln ▸ bp.1 q
   obtain⟨f,hf⟩:=aP (l:=cO c) (i:=i) (by omega)
   obtain⟨s,vs,rfl,hsi⟩:=mi hf
   have hl:i<L.length:=by rw[hL];simp;omega
   refine⟨_,hf,by omega,_,List.getElem?_eq_getElem hl,by omega,hnx _ ⟨q,?_,fun t vt ht=>?_⟩ (by dsimp only;omega)⟩
   ·dsimp only
    rw[hL,List.set_append_right _ _ (by simp),List.range_succ,List.append_assoc]
    congr 1
    rw[List.length_range,Nat.sub_self,show npN c-i=(npN c-(i+1))+1 by omega,List.replicate_succ]
    rfl
   ·dsimp only at ht ⊢
    rw[pD]
    by_cases e:fltS t=fltS s
    ·rw[if_pos e,lK e,hsi]
    ·rw[if_neg e]
     refine ha t vt ?_
     have:numN c t≠i:=fun e2=>e (by rw[jw vt vs (e2.trans hsi.symm)])
     omega
  ·have q:npN c<=i:=hln ▸ bO.1 q
   obtain rfl:i=npN c:=by omega
   exact⟨by rw[hL];simp,fun t vt=>ha t vt (dq vt)⟩
 ·rintro⟨at_,L0⟩ ⟨hL0,ha⟩
  dsimp only at hL0 ha ⊢
  refine aO (fun s=>Lab c s.1/\(s.2=false->∀ a w,down c a=some w->s.1[numN c a]?=s.1[numN c w]?)) (fun s=>if s.2=true then s.1.sum+1 else 0) (fun L=>LabE c L) ?_ ⟨hL0 ▸ Lab.start c,fun q=>by cases q⟩ fun L A=>⟨hln.trans A.lab.len.symm,h L A⟩
  rintro k ⟨L,ch⟩ nx ⟨A,hs⟩ hnx hk
  dsimp only at A hs
  refine⟨fun q=>?_,fun q=>hk _ ⟨A,hs q⟩⟩
  subst q
  refine aT (fun s=>s.2.2<=r.length/\Lab c s.1/\s.1.sum<=L.sum/\(s.2.1=true->s.1.sum<L.sum)/\(s.2.1=false->∀ a w:Si,(⟨fltS a,fltS w⟩:F2)∈r.take s.2.2->s.1[numN c a]?=s.1[numN c w]?)) (fun s=>r.length-s.2.2) ?_ ⟨Nat.zero_le _,A,Nat.le_refl _,(fun q=>by cases q),fun _ a w m=>by cases m⟩
  rintro⟨M,c2,i⟩ nx2 ⟨hi,B,hle,hlt,heq⟩ hnx2
  dsimp only at hi B hle hlt heq
  refine⟨fun q=>?_,fun q=>hnx _ ⟨B,fun q2 a w hw=>?_⟩ ?_⟩
  ·have q:i<r.length:=bp.1 q
   obtain⟨z,hz⟩:=aP q
   obtain⟨a,w,hw,rfl⟩:=(R.mem z).1 (List.mem_of_getElem? hz)
   obtain⟨va,vw⟩:=kl hw
   obtain⟨ta,a1,a2,a3,a4⟩:=B.lab a va
   obtain⟨tw,w1,w2,w3,w4⟩:=B.lab w vw
   have ga:(ba at_ (fltS a)).getD 0=numN c a:=by rw[ha a va];rfl
   have gw:(ba at_ (fltS w)).getD 0=numN c w:=by rw[ha w vw];rfl
   have la:numN c a<(cO c).length:=by rw[hln];exact dq va
   have lw:numN c w<(cO c).length:=by rw[hln];exact dq vw
   have ec:=xu C hw
   have hne:numN c a≠numN c w:=fun e=>by
    have:=jw va vw e
    have:=oY C a w hw
    subst_vars
    omega
   refine cM (fun s=>Lab c s.1/\s.1.sum<=L.sum/\(s.2=true->s.1.sum<L.sum)/\(s.2=false->∀ a w:Si,(⟨fltS a,fltS w⟩:F2)∈r.take (i+1)->s.1[numN c a]?=s.1[numN c w]?)) (fun k3 hk3=>⟨_,hz,_,hz,?_⟩) fun s hs=>⟨by dsimp only;omega,hnx2 _ ⟨q,hs⟩ (by dsimp only;omega)⟩
   dsimp only
   rw[ga,gw]
   refine⟨la,_,a2,lw,_,w2,?_⟩
   refine cM (fun b=>b=decide (numN c ta≠numN c tw)) (fun k4 hk4=>⟨la,_,a2,fun e=>hk4 _ ?_,fun e=>⟨lw,_,w2,hk4 _ ?_⟩⟩) ?_
   ·have e:=eG.1 e
    rw[decide_eq_true];omega
   ·have e:=pV.1 e
    by_cases e2:numN c ta=numN c tw
    ·rw[decide_eq_false (fun q=>q e2)]
     refine pV.2 ?_
     omega
    ·rw[decide_eq_true e2]
     refine eG.2 ?_
     omega
   ·rintro _ rfl
    refine⟨fun e=>?_,fun e=>hk3 _ ⟨B,hle,hlt,fun q2 a' w' m=>?_⟩⟩
    ·have e:numN c ta≠numN c tw:=of_decide_eq_true e
     have w2':(M.set (numN c a) (min (numN c ta) (numN c tw)))[numN c w]?=some (numN c tw):=by
      rw[List.getElem?_set_ne hne];exact w2
     refine⟨la,_,a2,lw,_,w2',hk3 _ ?_⟩
     have s1:=uQ (y:=min (numN c ta) (numN c tw)) a2
     have s2:=uQ (y:=min (numN c ta) (numN c tw)) w2'
     dsimp only
     have hsum:((M.set (numN c a) (min (numN c ta) (numN c tw))).set (numN c w) (min (numN c ta) (numN c tw))).sum<L.sum:=by omega
     refine⟨?_,Nat.le_of_lt hsum,fun _=>hsum,fun q2=>by cases q2⟩
     by_cases e3:numN c ta<=numN c tw
     ·rw[Nat.min_eq_left e3]
      exact (B.set va a1 a3 a4).set vw a1 (a3.trans ec) (by omega)
     ·rw[Nat.min_eq_right (by omega)]
      exact (B.set va w1 (w3.trans ec.symm) (by omega)).set vw w1 w3 w4
    ·have e:¬ (numN c ta≠numN c tw):=of_decide_eq_false e
     rw[gU hz,aH] at m
     rcases m with m|m
     ·exact heq q2 a' w' m
     ·simp only[F2.mk.injEq] at m
      obtain⟨m1,m2⟩:=m
      rw[lK m1,lK m2]
      dsimp only
      rw[a2,w2]
      simpa using e
  ·have q:r.length<=i:=bO.1 q
   refine heq q2 a w ?_
   rw[List.take_of_length_le q]
   exact (R.mem _).2 ⟨a,w,hw,rfl⟩
  ·dsimp only
   rw[if_pos rfl]
   split
   ·rename_i q3
    have:=hlt q3
    omega
   ·omega
theorem lV {x:CData} (hx:CB x) {K:Bool->Prop} (h:K true):aZ x K:=by
 unfold aZ
 refine xZ hx fun c C hpos=>?_
 have hl:=uJ C
 refine oN C hl ?_
 dsimp only
 have hal:=sZ C
 have hk:0<(RN c (cO c)).length:=by rw[mJ];exact As (si hpos)
 have hRl:(RN c (cO c)).length<=544:=by
  rw[mJ]
  exact Nat.le_trans (nW _ _) hal
 have hap:=si hpos
 refine jC (a:=false) (fun G=>⟨fun q=>absurd rfl (eG.1 q),fun _=>⟨fun q=>?_,fun _=>?_⟩⟩) ⟨(fun q=>by cases q),fun _=>?_⟩
 ·have:=dy.1 q;omega
 ·have:eqN (RN c (cO c)).length 0=false:=dK.2 (by omega)
  rw[this];exact G
 ·refine wD C fun L A=>?_
  refine dX (l:=RN c (cO c)) ?_ ?_ (tV h)
  ·intro k i nx row hrow hi hn
   have hrl:row.length<=544:=by
    obtain⟨ky,_,rfl⟩:=tJ hrow
    exact Nat.le_trans (tj _ _ _) hal
   refine⟨fun _=>?_,fun q=>by have:=bO.1 q;omega⟩
   refine aO (fun m=>m<=row.length) (fun m=>row.length-m) (fun _=>True) ?_ (Nat.zero_le _) fun _ _=>⟨by omega,hn⟩
   rintro k2 m nx2 hm hnx2 hk2
   refine⟨row,hrow,fun q=>?_,fun _=>hk2 _ trivial⟩
   have q:m<row.length:=bp.1 q
   obtain⟨j,hj⟩:=aP q
   obtain⟨f,hf,hfm,hfc⟩:=xW hrow hj
   obtain⟨x0,hx0,hLj⟩:=A.row hrow hj
   have hjl:=ag hf
   refine jC (a:=false) (fun G=>⟨row,hrow,j,hj,fun q=>?_,fun _=>⟨row,hrow,j,hj,fun q=>?_,fun _=>⟨row,hrow,j,hj,_,hLj,row,hrow,_,hx0,?_⟩⟩⟩) ⟨(fun q=>by cases q),fun _=>⟨by omega,hnx2 _ (by omega) (by omega)⟩⟩
   ·rw[Bs] at q;cases q
   ·have:=my.1 q;omega
   ·have:neN x0 x0=false:=pV.2 rfl
    rw[this];exact G
  ·intro k i nx hi hk
   refine⟨fun q=>?_,fun _=>hk⟩
   have:=bp.1 q;omega
inductive Dep (c:Circ):Nat->Nat->Prop
 |refl (a:Nat):Dep c a a
 |step {a m b:Nat} {x:Node}:c.nodes[a]?=some x->x.kind≠14->m∈x.ins->Dep c m b->Dep c a b
def mk1 (ds:List Bool) (b:Nat):Prop:=ds.getD b false=true
def cntB (l:List Bool):Nat:=l.countP id
structure ConeI (c:Circ) (a:Nat) (ds:List Bool) (todo:List Nat):Prop where
 len:ds.length=c.nodes.length
 dep:∀ b,mk1 ds b->Dep c a b
 mem:∀ t∈todo,mk1 ds t
 top:mk1 ds a
 cl:∀ z x,mk1 ds z->z ∉ todo->c.nodes[z]?=some x->x.kind≠14->∀ m∈x.ins,mk1 ds m
 sz:todo.length+2*(c.nodes.length-cntB ds)<=2*c.nodes.length+1
structure BrOk (c:Circ) (f:Flt):Prop where
 model:f.model=2\/f.model=3
 value:f.value<=1
 val3:f.model=3->f.value=0
 pin:f.line.pin=Int.negSucc 0
 node:f.line.node<c.nodes.length
 other:f.other<c.nodes.length
 ne:f.line.node≠f.other
 le:f.model=2->f.line.node<=f.other
 kind1:kd c f.line.node≠12
 kind2:kd c f.other≠12
 dep1:¬ Dep c f.line.node f.other
 dep2:¬ Dep c f.other f.line.node
structure LinOk (c:Circ) (f:Flt):Prop where
 model:f.model<=1
 stuck:StuckOk c ⟨0,f.line,f.value,f.other⟩
def F12 (c:Circ) (f:Flt):Prop:=LinOk c f\/BrOk c f
structure CntI (c:Circ) (l:List Flt) (ns os:List Nat) (D:Nat->Flt->Prop):Prop where
 nl:ns.length=l.length
 ol:os.length=l.length
 on:∀ m f,l[m]?=some f->D m f->ns[m]?=some 1/\os[m]?=some (clsOf c l f)
 off:∀ m f,l[m]?=some f->¬ D m f->ns[m]?=some 0
def cz:List (Sh×Bool):=[(shC,true)]
theorem kD (x:vP cz) (w:wfL cz x):FnV Tryd.prog NG vars 3 ⟨xz cz x⟩ (.bool true):=by
 obtain⟨c,u⟩:=x
 obtain⟨wc,_⟩:=w
 obtain⟨y,hy,e1⟩:=AF wc
 have e:xz cz (c,u)=[bm y]:=by
  show [elV (!true) (shC.bd c)]=_
  rw[e1]
 rw[e]
 exact FnV.nU (enc:=Value.bool) (r:=true) (PureV.flat rfl) fun h hB=>dR (K:=fun r=>r=true) (lV hy rfl) hB
end Go.Proofs.YtobphhjcadjfjaaDoor
