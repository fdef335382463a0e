/-
  Y1, Y2, Y3, Y4, Y5, Y6, SuspectsExact: parts of the proof.
-/
import Derived.Test.YteceaohcjmbfbaaGreatDoorSb49
namespace Go.Proofs.YteceaohcjmbfbaaGreatDoor
open Go.Abs
set_option maxRecDepth 100000
def dstStep (nt out:List FailZ) (x:FailZ):List FailZ:=if x ∉ nt/\x ∉ out then out++[x] else out
def dst (a nt:List FailZ):List FailZ:=a.foldl (dstStep nt) []
theorem dst_snoc (a nt:List FailZ) (x:FailZ):dst (a++[x]) nt=dstStep nt (dst a nt) x:=by unfold dst;rw[List.foldl_append];rfl
theorem dstStep_mem {nt out:List FailZ}{x y:FailZ}:y∈dstStep nt out x↔y∈out\/y=x/\y ∉ nt:=by
 unfold dstStep
 split
 ·rename_i h
  rw[snoc_mem]
  exact⟨fun q=>q.imp id fun e=>⟨e,e ▸ h.1⟩,fun q=>q.imp id fun e=>e.1⟩
 ·rename_i h
  refine⟨.inl,fun q=>q.elim id fun e=>?_⟩
  rcases e with⟨rfl,e⟩
  exact Classical.byContradiction fun q=>h ⟨e,q⟩
theorem fold_mem {nt:List FailZ}{y:FailZ}:∀ {a out:List FailZ},y∈a.foldl (dstStep nt) out↔y∈out\/y∈a/\y ∉ nt
 |[],out=>by simp
 |x::a,out=>by
  rw[List.foldl_cons,fold_mem,dstStep_mem,List.mem_cons]
  constructor
  ·rintro ((h|⟨rfl,h⟩) | ⟨h,h2⟩)
   ·exact .inl h
   ·exact .inr ⟨.inl rfl,h⟩
   ·exact .inr ⟨.inr h,h2⟩
  ·rintro (h|⟨rfl|h,h2⟩)
   ·exact .inl (.inl h)
   ·exact .inl (.inr ⟨rfl,h2⟩)
   ·exact .inr ⟨h,h2⟩
theorem dst_mem {a nt:List FailZ}{y:FailZ}:y∈dst a nt↔y∈a/\y ∉ nt:=by unfold dst;rw[fold_mem];simp
theorem fold_nodup {nt:List FailZ}:∀ {a out:List FailZ},out.Nodup->(a.foldl (dstStep nt) out).Nodup
 |[],out,h=>h
 |x::a,out,h=>by
  rw[List.foldl_cons]
  refine fold_nodup ?_
  unfold dstStep
  split
  ·rename_i q
   rw[List.nodup_append]
   refine⟨h,by simp,fun b hb c hc=>?_⟩
   rw[List.mem_singleton] at hc
   rintro rfl
   exact q.2 (hc ▸ hb)
  ·exact h
theorem dst_nodup (a nt:List FailZ):(dst a nt).Nodup:=fold_nodup List.nodup_nil
theorem dst_len (a nt:List FailZ):(dst a nt).length<=a.length:=(dst_nodup a nt).length_le_of_subset fun _ m=>(dst_mem.1 m).1
theorem apT {P:Bool->Prop}{a b:Bool} (e:a=b) (h:P b):P a:=e ▸ h
theorem failEq {x y:FailZ}:((eqZ x.test y.test)&&((x.next==y.next)&&((eqZ x.index y.index)&&true)))=decide (x=y):=by
 rw[Bool.eq_iff_iff,decide_eq_true_eq]
 cases x;cases y
 simp[eqZ_eq]
theorem has_vc {l:List FailZ}{f:FailZ} (hl:l.length<2 ^ 60) {K:Bool->Prop} (h:K (decide (f∈l))):probecardlaw22_has_wp l f K:=by
 unfold probecardlaw22_has_wp
 refine joinLoop (fun i=>i<=l.length/\f ∉ l.take i) (fun i=>l.length-i) (fun _=>f ∉ l) ?_ ⟨Nat.zero_le _,by simp⟩ (fun _ e=>by rw[decide_eq_false e] at h;exact h)
 rintro k i nx ⟨hi,hn⟩ hnx hk
 refine⟨fun q=>?_,fun q=>hk _ ?_⟩
 ·have q:i<l.length:=lt_t.1 q
  obtain⟨x,hx⟩:=get_lt q
  refine⟨x,hx,fun e=>?_,fun e=>⟨by omega,hnx _ ⟨q,?_⟩ (by omega)⟩⟩
  ·rw[failEq,decide_eq_true_eq] at e
   subst e
   rw[decide_eq_true (List.mem_of_getElem? hx)] at h
   exact h
  ·rw[failEq,decide_eq_false_iff_not] at e
   rw[takeG hx,snoc_mem]
   rintro (m|rfl)
   ·exact hn m
   ·exact e rfl
 ·have q:l.length<=i:=lt_f.1 q
  rw[List.take_of_length_le q] at hn
  exact hn
theorem distinct_vc {a nt:List FailZ} (ha:a.length<=2000) (hn:nt.length<=2000) {K:List FailZ->Prop} (h:K (dst a nt)):probecardlaw22_distinct_wp a nt K:=by
 unfold probecardlaw22_distinct_wp
 refine joinLoop (fun s=>s.2<=a.length/\s.1=dst (a.take s.2) nt) (fun s=>a.length-s.2) (fun l=>l=dst a nt) ?_ ⟨Nat.zero_le _,rfl⟩ (fun _ e=>e ▸ h)
 rintro k ⟨l,i⟩ nx ⟨hi,hl⟩ hnx hk
 dsimp only at hi hl
 have hll:l.length<=2000:=by
  have:=dst_len (a.take i) nt
  rw[<- hl,List.length_take] at this
  omega
 refine⟨fun q=>?_,fun q=>hk _ ?_⟩
 ·have q:i<a.length:=lt_t.1 q
  obtain⟨x,hx⟩:=get_lt q
  refine joinB' (a:=dst (a.take (i+1)) nt) (fun g2=>?_) ⟨by omega,hnx _ ⟨q,rfl⟩ (by dsimp only;omega)⟩
  rw[takeG hx,dst_snoc,<- hl] at g2
  refine joinB' (a:=decide (x ∉ nt/\x ∉ l)) (fun g3=>?_) ⟨fun e=>⟨x,hx,?_,?_⟩,fun e=>?_⟩
  ·refine⟨x,hx,has_vc (by omega) ⟨fun e=>⟨x,hx,has_vc (by omega) ?_⟩,fun e=>?_⟩⟩
   ·have e:x ∉ nt:=by simpa using e
    have:(!decide (x∈l))=decide (x ∉ nt/\x ∉ l):=by simp[e]
    exact apT this g3
   ·have e:x∈nt:=by simpa using e
    have:false=decide (x ∉ nt/\x ∉ l):=by simp[e]
    exact apT this g3
  ·rw[List.length_singleton];omega
  ·unfold dstStep at g2
   rw[if_pos (of_decide_eq_true e)] at g2
   exact g2
  ·unfold dstStep at g2
   rw[if_neg (of_decide_eq_false e)] at g2
   exact g2
 ·have q:a.length<=i:=lt_f.1 q
  rw[List.take_of_length_le q] at hl
  exact hl
def setM (ks:List FailZ):List (FailZ×Bool):=ks.map fun k=>(k,true)
theorem setM_get (ks:List FailZ) (x:FailZ):mget (setM ks) x=if x∈ks then some true else none:=by
 induction ks with
 |nil=>rfl
 |cons a ks ih =>
  show (if x=a then some true else mget (setM ks) x)=_
  by_cases e:x=a
  ·rw[if_pos e,if_pos (List.mem_cons.2 (.inl e))]
  ·rw[if_neg e,ih]
   by_cases m:x∈ks
   ·rw[if_pos m,if_pos (List.mem_cons.2 (.inr m))]
   ·rw[if_neg m,if_neg (fun q=>(List.mem_cons.1 q).elim e m)]
theorem setM_set (ks:List FailZ) (x:FailZ):mset (setM ks) x true=setM (if x∈ks then ks else ks++[x]):=by
 induction ks with
 |nil=>rfl
 |cons a ks ih =>
  show (if x=a then (x,true)::setM ks else (a,true)::mset (setM ks) x true)=_
  by_cases e:x=a
  ·rw[if_pos e,if_pos (List.mem_cons.2 (.inl e)),e];rfl
  ·rw[if_neg e,ih]
   by_cases m:x∈ks
   ·rw[if_pos m,if_pos (List.mem_cons.2 (.inr m))];rfl
   ·rw[if_neg m,if_neg (fun q=>(List.mem_cons.1 q).elim e m)];rfl
theorem set_vc {l:List FailZ} (hl:l.length<2 ^ 60) {rest:List (FailZ×Bool)->Prop} (h:rest (setM (dst l []))) :
  joinW (α:=(List (FailZ×Bool))) (fun k4=>loopW (S:=((List (FailZ×Bool))×Nat)) (fun (v5,v6) nx7=>((ltN v6 l.length)=true->∃ x8,l[v6]?=some x8/\v6+1<2 ^ 63/\nx7 ((mset v5 x8 true),(v6+1)))/\((ltN v6 l.length)=false->k4 v5)) (([]:List (FailZ×Bool)),0)) rest:=by
 refine joinLoop (fun s=>s.2<=l.length/\s.1=setM (dst (l.take s.2) [])) (fun s=>l.length-s.2) (fun m=>m=setM (dst l [])) ?_ ⟨Nat.zero_le _,rfl⟩ (fun _ e=>e ▸ h)
 rintro k ⟨m,i⟩ nx ⟨hi,hm⟩ hnx hk
 dsimp only at hi hm
 refine⟨fun q=>?_,fun q=>hk _ ?_⟩
 ·have q:i<l.length:=lt_t.1 q
  obtain⟨y,hy⟩:=get_lt q
  refine⟨y,hy,by omega,hnx _ ⟨q,?_⟩ (by dsimp only;omega)⟩
  dsimp only
  rw[hm,setM_set,takeG hy,dst_snoc]
  unfold dstStep
  by_cases e:y∈dst (l.take i) []
  ·rw[if_pos e,if_neg (fun q=>q.2 e)]
  ·rw[if_neg e,if_pos ⟨by simp,e⟩]
 ·have q:l.length<=i:=lt_f.1 q
  rw[List.take_of_length_le q] at hm
  exact hm
def eqS (a b:List FailZ):Bool:=decide (a.length=b.length/\∀ x∈a,x∈b)
theorem mapsEq_vc {a b:List FailZ}{K:Bool->Prop} (h:K (eqS a b)):mapsEq_wp (setM a) (setM b) K:=by
 unfold mapsEq_wp
 have e1:(setM a).length=a.length:=List.length_map ..
 have e2:(setM b).length=b.length:=List.length_map ..
 rw[e1,e2]
 refine⟨fun q=>?_,fun q=>?_⟩
 ·rw[show eqS a b=false from decide_eq_false fun e=>ne_t.1 q e.1] at h
  exact h
 ·have q:a.length=b.length:=ne_f.1 q
  refine joinP (fun _=>∀ x∈a,x∈b) (fun k hk=>?_) (fun _ e=>by rw[show eqS a b=true from decide_eq_true ⟨q,e⟩] at h;exact h)
  refine mapW_intro (fun seen _=>∀ i∈seen,∀ x,a[i]?=some x->x∈b) (fun i m=>by cases m) (fun seen s hs nd hall=>hk _ fun x m=>?_) ?_
  ·obtain⟨i,hi⟩:=List.getElem?_of_mem m
   exact hs i ((hall i).2 (by rw[e1];exact lt_of_get hi)) x hi
  ·intro seen s i x nx hs hx hni hnx
   unfold setM at hx
   rw[List.getElem?_map] at hx
   obtain⟨y,hy,rfl⟩:=Option.map_eq_some_iff.1 hx
   dsimp only
   rw[setM_get]
   refine joinB' (a:=decide (y ∉ b)) (fun g3=>⟨fun e=>?_,fun e=>?_⟩) ⟨fun e=>?_,fun e=>hnx _ fun j hj z hz=>?_⟩
   ·by_cases m:y∈b
    ·rw[if_pos m] at e;cases e
    ·rw[decide_eq_true m] at g3;exact g3
   ·by_cases m:y∈b
    ·rw[decide_eq_false (fun q=>q m)] at g3;rw[if_pos m];exact g3
    ·rw[if_neg m] at e;cases e
   ·rw[show eqS a b=false from decide_eq_false fun q=>(of_decide_eq_true e) (q.2 y (List.mem_of_getElem? hy))] at h
    exact h
   ·rcases List.mem_append.1 hj with hj|hj
    ·exact hs j hj z hz
    ·rw[List.mem_singleton] at hj
     subst hj
     rw[hy] at hz
     cases hz
     exact Classical.byContradiction fun q=>(of_decide_eq_false e) q
theorem mapsEqM_vc {a b:List FailZ}{K:Bool->Prop} (h:K (eqS a b)):mapsEqM_wp (setM a) (setM b) K:=⟨_,mapsEq_vc rfl,h⟩
theorem sub_of_len {a b:List FailZ} (na:a.Nodup) (h:∀ x∈a,x∈b) (hl:b.length<=a.length):∀ x∈b,x∈a:=by
 intro x m
 refine Classical.byContradiction fun q=>?_
 have:(x::a).Nodup:=List.nodup_cons.2 ⟨q,na⟩
 have:=this.length_le_of_subset (l₂:=b) fun y hy=>(List.mem_cons.1 hy).elim (fun e=>e ▸ m) (h y)
 rw[List.length_cons] at this
 omega
theorem eqS_iff {a b:List FailZ}:eqS (dst a []) (dst b [])=true ↔ ∀ x,x∈a↔x∈b:=by
 unfold eqS
 rw[decide_eq_true_eq]
 constructor
 ·rintro⟨h1,h2⟩ x
  have h3:=sub_of_len (dst_nodup a []) h2 (by omega) x
  have h4:=h2 x
  simp only[dst_mem,List.not_mem_nil,not_false_eq_true,and_true] at h3 h4
  exact⟨h4,h3⟩
 ·intro h
  have h2:∀ x∈dst a [],x∈dst b []:=fun x m=>dst_mem.2 ⟨(h x).1 (dst_mem.1 m).1,by simp⟩
  have h3:∀ x∈dst b [],x∈dst a []:=fun x m=>dst_mem.2 ⟨(h x).2 (dst_mem.1 m).1,by simp⟩
  exact⟨Nat.le_antisymm ((dst_nodup a []).length_le_of_subset h2) ((dst_nodup b []).length_le_of_subset h3),h2⟩
theorem dst_nil {a b:List FailZ}:(dst a b).length=0 ↔ ∀ x∈a,x∈b:=by
 rw[List.length_eq_zero_iff,List.eq_nil_iff_forall_not_mem]
 constructor
 ·intro h x m
  exact Classical.byContradiction fun q=>h x (dst_mem.2 ⟨m,q⟩)
 ·intro h x m
  exact (dst_mem.1 m).2 (h x (dst_mem.1 m).1)
def kAt (ks:List FailZ) (i:Nat):FailZ:=ks.getD i ⟨0,false,0⟩
def inS (ws:List FailZ) (x:FailZ):Bool:=decide (x∈ws)
def nBoth (zs ws:List FailZ):Nat:=(zs.filter (inS ws)).length
def nExtra (zs ws:List FailZ):Nat:=(zs.filter fun x => !inS ws x).length
theorem inS_t {ws:List FailZ}{x:FailZ}:inS ws x=true↔x∈ws:=decide_eq_true_iff
theorem nBoth_le {zs ws:List FailZ} (nd:zs.Nodup):nBoth zs ws<=ws.length :=
 List.Nodup.length_le_of_subset (List.Pairwise.filter (inS ws) nd) fun _ m=>inS_t.1 (List.mem_filter.1 m).2
theorem nBoth_add (zs ws:List FailZ):nBoth zs ws+nExtra zs ws=zs.length:=by
 unfold nBoth nExtra
 induction zs with
 |nil=>rfl
 |cons a zs ih =>
  rw[List.filter_cons,List.filter_cons]
  cases inS ws a <;> simp <;> omega
theorem count_vc {ks ws:List FailZ} (hk:ks.length<=2000) (hw:ws.length<=2000) (nk:ks.Nodup) {k:Nat×Nat×Nat->Prop} (h:k (nBoth ks ws,ws.length-nBoth ks ws,nExtra ks ws)) :
  mapW (α:=(FailZ×Bool)) (S:=(Nat×Nat×Nat)) (setM ks) (fun y41 (v37,v38,v39) nx40=>(((mget (setM ws) y41.1).getD false)=true->v37+1<2 ^ 63/\1<=v38/\v38<2 ^ 63/\nx40 ((v37+1),(v38-1),v39))/\(((mget (setM ws) y41.1).getD false)=false->v39+1<2 ^ 63/\nx40 (v37,v38,(v39+1)))) (0,(setM ws).length,0) k:=by
 have e2:(setM ws).length=ws.length:=List.length_map ..
 have e1:(setM ks).length=ks.length:=List.length_map ..
 rw[e2]
 refine mapW_intro (fun seen s=>(seen.map (kAt ks)).Nodup/\(∀ i∈seen,i<ks.length)/\s=(nBoth (seen.map (kAt ks)) ws,ws.length-nBoth (seen.map (kAt ks)) ws,nExtra (seen.map (kAt ks)) ws)) ⟨List.nodup_nil,(fun i m=>by cases m),rfl⟩ ?_ ?_
 ·rintro seen s ⟨nz,hlt,rfl⟩ nd hall
  have hp:(seen.map (kAt ks)).Perm ks:=by
   refine (List.perm_ext_iff_of_nodup nz nk).2 fun x=>?_
   rw[List.mem_map]
   constructor
   ·rintro⟨i,hi,rfl⟩
    obtain⟨y,hy⟩:=get_lt (hlt i hi)
    unfold kAt
    rw[List.getD,hy]
    exact List.mem_of_getElem? hy
   ·intro m
    obtain⟨i,hi⟩:=List.getElem?_of_mem m
    refine⟨i,(hall i).2 (by rw[e1];exact lt_of_get hi),?_⟩
    unfold kAt
    rw[List.getD,hi]
    rfl
  have q1:nBoth (seen.map (kAt ks)) ws=nBoth ks ws:=(hp.filter _).length_eq
  have q2:nExtra (seen.map (kAt ks)) ws=nExtra ks ws:=(hp.filter _).length_eq
  rw[q1,q2]
  exact h
 ·rintro seen s i x nx ⟨nz,hlt,rfl⟩ hx hni hnx
  unfold setM at hx
  rw[List.getElem?_map] at hx
  obtain⟨y,hy,rfl⟩:=Option.map_eq_some_iff.1 hx
  have hky:kAt ks i=y:=by unfold kAt;rw[List.getD,hy];rfl
  have hny:y ∉ seen.map (kAt ks):=by
   rw[List.mem_map]
   rintro⟨j,hj,e⟩
   obtain⟨z,hz⟩:=get_lt (hlt j hj)
   have:z=y:=by rw[<- e];unfold kAt;rw[List.getD,hz];rfl
   subst this
   have:=(List.getElem?_inj (lt_of_get hy) nk).1 (hy.trans hz.symm)
   exact hni (this ▸ hj)
  have nz':((seen++[i]).map (kAt ks)).Nodup:=by
   rw[List.map_append,List.map_cons,List.map_nil,hky,List.nodup_append]
   refine⟨nz,by simp,fun a ha b hb=>?_⟩
   rw[List.mem_singleton] at hb
   rintro rfl
   exact hny (hb ▸ ha)
  have hlt':∀ j∈seen++[i],j<ks.length:=by
   intro j m
   rw[snoc_mem] at m
   rcases m with m|rfl
   ·exact hlt j m
   ·exact lt_of_get hy
  have hle:=nBoth_le (ws:=ws) nz'
  have hx2:=nBoth_add ((seen++[i]).map (kAt ks)) ws
  have hlen:((seen++[i]).map (kAt ks)).length<=ks.length:=nz'.length_le_of_subset fun z m=>by
   obtain⟨j,hj,rfl⟩:=List.mem_map.1 m
   obtain⟨z,hz⟩:=get_lt (hlt' j hj)
   unfold kAt
   rw[List.getD,hz]
   exact List.mem_of_getElem? hz
  have em:(seen++[i]).map (kAt ks)=seen.map (kAt ks)++[y]:=by rw[List.map_append,List.map_cons,List.map_nil,hky]
  dsimp only
  rw[setM_get]
  by_cases m:y∈ws
  ·have m1:inS ws y=true:=inS_t.2 m
   have q1:nBoth ((seen++[i]).map (kAt ks)) ws=nBoth (seen.map (kAt ks)) ws+1:=by
    rw[em];unfold nBoth;rw[List.filter_append,List.length_append,List.filter_cons,if_pos m1];rfl
   have q2:nExtra ((seen++[i]).map (kAt ks)) ws=nExtra (seen.map (kAt ks)) ws:=by
    rw[em];unfold nExtra;rw[List.filter_append,List.length_append,List.filter_cons,m1];rfl
   rw[if_pos m]
   refine⟨fun _=>⟨by omega,by omega,by omega,hnx _ ⟨nz',hlt',?_⟩⟩,fun e=>by cases e⟩
   rw[q1,q2,Nat.sub_sub]
  ·have m1:inS ws y=false:=decide_eq_false m
   have q1:nBoth ((seen++[i]).map (kAt ks)) ws=nBoth (seen.map (kAt ks)) ws:=by
    rw[em];unfold nBoth;rw[List.filter_append,List.length_append,List.filter_cons,m1];rfl
   have q2:nExtra ((seen++[i]).map (kAt ks)) ws=nExtra (seen.map (kAt ks)) ws+1:=by
    rw[em];unfold nExtra;rw[List.filter_append,List.length_append,List.filter_cons,m1];rfl
   rw[if_neg m]
   refine⟨(fun e=>by cases e),fun _=>⟨by omega,hnx _ ⟨nz',hlt',?_⟩⟩⟩
   rw[q1,q2]
def susO (d:List (List FailZ)) (log:List FailZ) (i:Nat):Sus:=⟨i,nBoth (dst (d.getD i []) []) (dst log []),(dst log []).length-nBoth (dst (d.getD i []) []) (dst log []),nExtra (dst (d.getD i []) []) (dst log [])⟩
def rankB (d:List (List FailZ)) (log:List FailZ):List Sus:=(List.range d.length).map (susO d log)
structure FewL (d:List (List FailZ)) (log:List FailZ):Prop where
 len:d.length<=2000
 obs:log.length<=2000
 each:∀ l∈d,l.length<=2000
theorem susB_of {d:List (List FailZ)}{log:List FailZ} (F:FewL d log) {x:Sus} (m:x∈rankB d log):susB x:=by
 obtain⟨i,hi,rfl⟩:=List.mem_map.1 m
 rw[List.mem_range] at hi
 have h1:=F.len
 have h2:=dst_len log []
 have h3:=F.obs
 obtain⟨l,hl⟩:=get_lt hi
 have h4:=F.each l (List.mem_of_getElem? hl)
 have h5:=dst_len l []
 have h6:=nBoth_add (dst l []) (dst log [])
 have e:d.getD i []=l:=by rw[List.getD,hl];rfl
 unfold susO susB
 dsimp only
 rw[e]
 omega
theorem Rank_vc {d:List (List FailZ)}{log:List FailZ} (F:FewL d log) {K:List Sus->Prop} (h:∀ r:List Sus,r.Perm (rankB d log)->r.Pairwise susLe->K r):suspects_Rank_wp d log K:=by
 have h1:=F.len
 have h2:=dst_len log []
 have h3:=F.obs
 unfold suspects_Rank_wp
 refine set_vc (by omega) ⟨by omega,by omega,?_⟩
 refine joinLoop (fun s=>s.2<=d.length/\s.1.length=d.length/\∀ j,j<s.2->s.1[j]?=some (susO d log j)) (fun s=>d.length-s.2) (fun l=>l=rankB d log) ?_ ⟨Nat.zero_le _,by simp,fun j hj=>absurd hj (Nat.not_lt_zero _)⟩ ?_
 ·rintro k ⟨l,i⟩ nx ⟨hi,hl,hv⟩ hnx hk
  dsimp only at hi hl hv
  refine⟨fun q=>?_,fun q=>hk _ ?_⟩
  ·have q:i<d.length:=lt_t.1 q
   obtain⟨x,hx⟩:=get_lt q
   have h4:=F.each x (List.mem_of_getElem? hx)
   have h5:=dst_len x []
   have e:d.getD i []=x:=by rw[List.getD,hx];rfl
   obtain⟨z,hz⟩:=get_lt (show i<l.length by omega)
   refine⟨x,hx,?_⟩
   refine joinB' (a:=(nBoth (dst x []) (dst log []),(dst log []).length-nBoth (dst x []) (dst log []),nExtra (dst x []) (dst log []))) (fun g2=>set_vc (by omega) (count_vc (by omega) (by omega) (dst_nodup x []) g2)) ⟨q,z,hz,by omega,hnx _ ⟨q,by rw[List.length_set];exact hl,fun j hj=>?_⟩ (by dsimp only;omega)⟩
   dsimp only at hj ⊢
   rw[List.getElem?_set]
   by_cases e2:i=j
   ·subst e2
    rw[if_pos rfl,if_pos (by omega)]
    unfold susO
    rw[e]
   ·rw[if_neg e2]
    exact hv j (by omega)
  ·have q:d.length<=i:=lt_f.1 q
   unfold rankB
   refine List.ext_getElem? fun j=>?_
   rw[List.getElem?_map]
   by_cases hj:j<d.length
   ·rw[hv j (by omega),List.getElem?_range hj];rfl
   ·rw[List.getElem?_eq_none (by omega),List.getElem?_eq_none (by rw[List.length_range];omega)];rfl
 ·rintro _ rfl
  have hl:(rankB d log).length=d.length:=by unfold rankB;simp
  exact⟨hl.symm,by omega,fun x m=>susB_of F m,fun r hp hs=>⟨by rw[hp.length_eq,hl],h r hp hs⟩⟩
instance (x y:Sus):Decidable (susLe x y):=by unfold susLe;infer_instance
theorem rank_eq {d:List (List FailZ)}{log:List FailZ}{r s:List Sus} (hr:r.Perm (rankB d log)) (hs:s.Perm (rankB d log)) (pr:r.Pairwise susLe) (ps:s.Pairwise susLe):r=s:=by
 refine List.Perm.eq_of_pairwise (le:=susLe) (fun a b ha hb h1 h2=>?_) pr ps (hr.trans hs.symm)
 obtain⟨i,_,rfl⟩:=List.mem_map.1 (hr.mem_iff.1 ha)
 obtain⟨j,_,rfl⟩:=List.mem_map.1 (hs.mem_iff.1 hb)
 rw[susLe_iff] at h1 h2
 have:i=j:=by
  have e1:(susO d log i).fault=i:=rfl
  have e2:(susO d log j).fault=j:=rfl
  omega
 rw[this]
theorem RankM_vc {d:List (List FailZ)}{log:List FailZ} (F:FewL d log) {K:List Sus->Prop} (h:∀ r:List Sus,r.Perm (rankB d log)->r.Pairwise susLe->K r):suspects_RankM_wp d log K:=by
 have hp:((rankB d log).mergeSort fun a b=>decide (susLe a b)).Perm (rankB d log):=List.mergeSort_perm _ _
 have hs:((rankB d log).mergeSort fun a b=>decide (susLe a b)).Pairwise susLe:=by
  have:=List.pairwise_mergeSort (le:=fun a b=>decide (susLe a b)) (fun a b c h1 h2=>?_) (fun a b=>?_) (rankB d log)
  ·exact this.imp fun e=>of_decide_eq_true e
  ·rw[decide_eq_true_eq,susLe_iff] at *
   omega
  ·rw[Bool.or_eq_true,decide_eq_true_eq,decide_eq_true_eq,susLe_iff,susLe_iff]
   omega
 exact⟨_,Rank_vc F fun r hr pr=>rank_eq hr hp pr hs,h _ hp hs⟩
def exactO (d:List (List FailZ)) (log:List FailZ):List Nat:=(List.range d.length).filter fun i=>eqS (dst (d.getD i []) []) (dst log [])
theorem Exact_vc {d:List (List FailZ)}{log:List FailZ} (F:FewL d log) {K:List Nat->Prop} (h:K (exactO d log)):suspects_Exact_wp d log K:=by
 have h1:=F.len
 have h3:=F.obs
 unfold suspects_Exact_wp
 refine set_vc (by omega) ?_
 refine joinLoop (fun s=>s.2<=d.length/\s.1=(List.range s.2).filter fun i=>eqS (dst (d.getD i []) []) (dst log [])) (fun s=>d.length-s.2) (fun l=>l=exactO d log) ?_ ⟨Nat.zero_le _,rfl⟩ (fun _ e=>e ▸ h)
 rintro k ⟨l,i⟩ nx ⟨hi,hl⟩ hnx hk
 dsimp only at hi hl
 refine⟨fun q=>?_,fun q=>hk _ ?_⟩
 ·have q:i<d.length:=lt_t.1 q
  obtain⟨x,hx⟩:=get_lt q
  have h4:=F.each x (List.mem_of_getElem? hx)
  have e:d.getD i []=x:=by rw[List.getD,hx];rfl
  have hll:l.length<=i:=by rw[hl];exact filtLen
  refine joinB' (a:=(List.range (i+1)).filter fun i=>eqS (dst (d.getD i []) []) (dst log [])) (fun g2=>⟨x,hx,set_vc (by omega) (mapsEqM_vc ⟨fun e2=>⟨by rw[List.length_singleton];omega,?_⟩,fun e2=>?_⟩)⟩) ⟨by omega,hnx _ ⟨q,rfl⟩ (by dsimp only;omega)⟩
  ·rw[filtS,e,if_pos e2,<- hl] at g2;exact g2
  ·rw[filtS,e,if_neg (by rw[e2];decide),<- hl,List.append_nil] at g2;exact g2
 ·have q:d.length<=i:=lt_f.1 q
  have:i=d.length:=by omega
  subst this
  exact hl
structure FltOk (c:Circ) (f:Flt) (R:Pat->Rsp):Prop where
 chk:∀ {K:Nat->Prop},K 0->faults_Check_wp c f K
 mdl:f.model≠1
 run:∀ {p:Pat},PatOk c p->∀ {K:Rsp×List Nat×Nat->Prop},(∀ t,K (R p,t,0))->inject_Run_wp c f p K
def goodR (c:Circ) (p:Pat):Rsp:=rspV c idP (valV c p)
def mkF (k:Nat) (b:Bool) (i:Nat):FailZ:=⟨Int.ofNat k,b,Int.ofNat i⟩
def logP (c:Circ) (R:Pat->Rsp) (tests:List Pat) (k:Nat):List FailZ :=
 (conN (goodR c (tests.getD k ⟨[],[]⟩)).out (R (tests.getD k ⟨[],[]⟩)).out).map (mkF k false)++(conN (goodR c (tests.getD k ⟨[],[]⟩)).next (R (tests.getD k ⟨[],[]⟩)).next).map (mkF k true)
def logTo (c:Circ) (R:Pat->Rsp) (tests:List Pat) (n:Nat):List FailZ:=(List.range n).flatMap (logP c R tests)
def logO (c:Circ) (R:Pat->Rsp) (tests:List Pat):List FailZ:=logTo c R tests tests.length
theorem logTo_succ (c:Circ) (R:Pat->Rsp) (tests:List Pat) (n:Nat):logTo c R tests (n+1)=logTo c R tests n++logP c R tests n:=by
 unfold logTo
 rw[List.range_succ,List.flatMap_append]
 simp
theorem logP_len {c:Circ} (C:Cir c) (R:Pat->Rsp) (tests:List Pat) (k:Nat):(logP c R tests k).length<=2000:=by
 have h:=rsp_len C idP (valV c (tests.getD k ⟨[],[]⟩))
 have h1:=conN_len (goodR c (tests.getD k ⟨[],[]⟩)).out (R (tests.getD k ⟨[],[]⟩)).out
 have h2:=conN_len (goodR c (tests.getD k ⟨[],[]⟩)).next (R (tests.getD k ⟨[],[]⟩)).next
 have h3:(goodR c (tests.getD k ⟨[],[]⟩)).out.length<=1000:=h.1
 have h4:(goodR c (tests.getD k ⟨[],[]⟩)).next.length<=1000:=h.2
 unfold logP
 rw[List.length_append,List.length_map,List.length_map]
 omega
theorem logTo_len {c:Circ} (C:Cir c) (R:Pat->Rsp) (tests:List Pat):∀ n,(logTo c R tests n).length<=n*2000
 |0=>by unfold logTo;simp
 |n+1=>by
  have:=logTo_len C R tests n
  have:=logP_len C R tests n
  rw[logTo_succ,List.length_append]
  omega
theorem app_vc {k:Nat}{b:Bool}{l:List Nat}{base:List FailZ}{body:List FailZ×Nat->(List FailZ×Nat->Prop)->Prop} (hb:base.length<=100000000) (hl:l.length<=1000)
  (step:∀ (o:List FailZ) (i x:Nat) (nx:List FailZ×Nat->Prop),l[i]?=some x->i<l.length->o.length<=100001000->nx (o++[mkF k b x],i+1)->body (o,i) nx)
  (stop:∀ (i:Nat) (nx:List FailZ×Nat->Prop),l.length<=i->body (base++l.map (mkF k b),i) nx):loopW body (base,0):=by
 refine loopW_intro (fun s=>s.2<=l.length/\s.1=base++(l.take s.2).map (mkF k b)) (fun s=>l.length-s.2) ?_ ⟨Nat.zero_le _,by simp⟩
 rintro⟨o,i⟩ nx ⟨hi,ho⟩ hnx
 dsimp only at hi ho
 by_cases q:i<l.length
 ·obtain⟨x,hx⟩:=get_lt q
  have hol:o.length<=100001000:=by rw[ho,List.length_append,List.length_map,List.length_take];omega
  refine step o i x nx hx q hol (hnx _ ⟨q,?_⟩ (by dsimp only;omega))
  dsimp only
  rw[ho,takeG hx,List.map_append,List.append_assoc]
  rfl
 ·have q:l.length<=i:=by omega
  rw[List.take_of_length_le q] at ho
  rw[ho]
  exact stop i nx q
theorem getDP {tests:List Pat}{i:Nat}{p:Pat} (h:tests[i]?=some p):tests.getD i ⟨[],[]⟩=p:=by rw[List.getD,h];rfl
theorem log_vc {c:Circ} (C:Cir c) {f:Flt}{R:Pat->Rsp} (F:FltOk c f R) {tests:List Pat} (ht:∀ p∈tests,PatOk c p) (hl:tests.length<=4096) {K:List FailZ->Prop} (h:K (logO c R tests)):suspects_log_wp c f tests (tests.map (goodR c)) K:=by
 unfold suspects_log_wp
 refine joinLoop (fun s=>s.2<=tests.length/\s.1=logTo c R tests s.2) (fun s=>tests.length-s.2) (fun l=>l=logO c R tests) ?_ ⟨Nat.zero_le _,rfl⟩ (fun _ e=>e ▸ h)
 rintro k ⟨l,i⟩ nx ⟨hi,hv⟩ hnx hk
 dsimp only at hi hv
 refine⟨fun q=>?_,fun q=>hk _ ?_⟩
 ·have q:i<tests.length:=lt_t.1 q
  obtain⟨p,hp⟩:=get_lt q
  have h1:=logTo_len C R tests i
  have hR:=rsp_len C idP (valV c p)
  have hc1:=conN_len (goodR c p).out (R p).out
  have hc2:=conN_len (goodR c p).next (R p).next
  have hg1:(goodR c p).out.length<=1000:=hR.1
  have hg2:(goodR c p).next.length<=1000:=hR.2
  refine joinB' (a:=logTo c R tests (i+1)) (fun g2=>⟨p,hp,F.run (ht p (List.mem_of_getElem? hp)) fun t=>⟨goodR c p,by rw[List.getElem?_map,hp];rfl,differ_vc hR.1 hR.2 ?_⟩⟩) ⟨by omega,hnx _ ⟨q,rfl⟩ (by dsimp only;omega)⟩
  have hl1:l.length<=10000000:=by rw[hv];omega
  have hl2:(l++(conN (goodR c p).out (R p).out).map (mkF i false)).length<=100000000:=by rw[List.length_append,List.length_map];omega
  refine joinB' (a:=l++(conN (goodR c p).out (R p).out).map (mkF i false)) (fun g3=>?_) ?_
  ·refine app_vc (k:=i) (b:=false) (l:=conN (goodR c p).out (R p).out) (by omega) (by omega) (fun o j x nx hx hj ho hn=>⟨fun _=>⟨x,hx,by rw[List.length_singleton];omega,by omega,hn⟩,fun q=>absurd (lt_f.1 q) (Nat.not_le.2 hj)⟩) fun j nx hj=>⟨fun q=>absurd (lt_t.1 q) (Nat.not_lt.2 hj),fun _=>g3⟩
  refine app_vc (k:=i) (b:=true) (l:=conN (goodR c p).next (R p).next) hl2 (by omega) (fun o j x nx hx hj ho hn=>⟨fun _=>⟨x,hx,by rw[List.length_singleton];omega,by omega,hn⟩,fun q=>absurd (lt_f.1 q) (Nat.not_le.2 hj)⟩) fun j nx hj=>⟨fun q=>absurd (lt_t.1 q) (Nat.not_lt.2 hj),fun _=>?_⟩
  rw[logTo_succ,<- hv] at g2
  unfold logP at g2
  rw[getDP hp] at g2
  rw[List.append_assoc]
  exact g2
 ·have q:tests.length<=i:=lt_f.1 q
  have:i=tests.length:=by omega
  subst this
  exact hv
theorem places_vc {c:Circ} (C:Cir c) {K:Nat->Prop} (h:∀ n,n<=32->K n):suspects_places_wp c K:=by
 have h1:=C.len
 have h2:=C.good.outsLen
 unfold suspects_places_wp
 refine joinLoop (fun s=>s.2<=c.nodes.length/\s.1<=c.outs.length+s.2) (fun s=>c.nodes.length-s.2) (fun n=>n<=32) ?_ ⟨Nat.zero_le _,Nat.le_refl _⟩ (fun n e=>h n e)
 rintro k ⟨m,i⟩ nx ⟨hi,hm⟩ hnx hk
 dsimp only at hi hm
 refine⟨fun q=>?_,fun q=>hk _ (by omega)⟩
 have q:i<c.nodes.length:=lt_t.1 q
 obtain⟨x,hx⟩:=get_lt q
 refine joinP (fun m2=>m2<=m+1) (fun k2 hk2=>⟨x,hx,fun _=>⟨by omega,hk2 _ (Nat.le_refl _)⟩,fun _=>hk2 _ (by omega)⟩) fun m2 h2=>⟨by omega,hnx _ ⟨q,?_⟩ (by dsimp only;omega)⟩
 dsimp only
 omega
theorem scheck_vc {c:Circ} (C:Cir c) {l:List Flt}{tests:List Pat}{Rs:Flt->Pat->Rsp} (hf:∀ f∈l,FltOk c f (Rs f)) (ht:∀ p∈tests,PatOk c p) (h1:l.length<=100) (h2:tests.length<=100) {K:Nat->Prop} (h:K 0):suspects_check_wp c l tests K:=by
 have hm:l.length*tests.length<=100*100:=Nat.mul_le_mul h1 h2
 unfold suspects_check_wp
 refine joinB' (a:=false) (fun g=>⟨fun q=>absurd (lt_t.1 q) (by omega),fun _=>⟨fun q=>absurd (lt_t.1 q) (by omega),fun _=>⟨by omega,places_vc C fun n hn=>?_⟩⟩⟩) ⟨(fun e=>by cases e),fun _=>?_⟩
 ·have:(l.length*tests.length)*n<=100*100*32:=Nat.mul_le_mul hm hn
  refine⟨by omega,?_⟩
  rw[show ltN 1048576 (l.length*tests.length*n)=false from lt_f.2 (by omega)]
  exact g
 refine lines_vc C ⟨(fun q=>absurd rfl (ne_t.1 q)),fun _=>?_⟩
 refine joinLoop (fun i=>i<=l.length) (fun i=>l.length-i) (fun _=>True) ?_ (Nat.zero_le _) fun _ _=>?_
 ·rintro k i nx hi hnx hk
  refine⟨fun q=>?_,fun q=>hk _ trivial⟩
  have q:i<l.length:=lt_t.1 q
  obtain⟨f,hx⟩:=get_lt q
  have F:=hf f (List.mem_of_getElem? hx)
  exact⟨f,hx,F.chk ⟨(fun q=>absurd rfl (ne_t.1 q)),fun _=>⟨fun q=>absurd (eq_t.1 q) F.mdl,fun _=>⟨by omega,hnx _ q (by omega)⟩⟩⟩⟩
 refine joinLoop (fun i=>i<=tests.length) (fun i=>tests.length-i) (fun _=>True) ?_ (Nat.zero_le _) fun _ _=>h
 rintro k i nx hi hnx hk
 refine⟨fun q=>?_,fun q=>hk _ trivial⟩
 have q:i<tests.length:=lt_t.1 q
 obtain⟨p,hx⟩:=get_lt q
 exact⟨p,hx,simsCheck_vc C (ht p (List.mem_of_getElem? hx)) ⟨(fun q=>absurd rfl (ne_t.1 q)),fun _=>⟨by omega,hnx _ q (by omega)⟩⟩⟩
def dictO (c:Circ) (Rs:Flt->Pat->Rsp) (l:List Flt) (tests:List Pat):List (List FailZ):=l.map fun f=>logO c (Rs f) tests
theorem Dictionary_vc {c:Circ} (C:Cir c) {l:List Flt}{tests:List Pat}{Rs:Flt->Pat->Rsp} (hf:∀ f∈l,FltOk c f (Rs f)) (ht:∀ p∈tests,PatOk c p) (h1:l.length<=100) (h2:tests.length<=100) {K:List (List FailZ)×Nat->Prop}
  (h:K (dictO c Rs l tests,0)):suspects_Dictionary_wp c l tests K:=by
 unfold suspects_Dictionary_wp
 refine scheck_vc C hf ht h1 h2 ⟨(fun q=>absurd rfl (ne_t.1 q)),fun _=>?_⟩
 refine joinLoop (fun s=>s.2<=tests.length/\s.1=(tests.take s.2).map (goodR c)) (fun s=>tests.length-s.2) (fun r=>r=tests.map (goodR c)) ?_ ⟨Nat.zero_le _,rfl⟩ ?_
 ·rintro k ⟨r,i⟩ nx ⟨hi,hr⟩ hnx hk
  dsimp only at hi hr
  refine⟨fun q=>?_,fun q=>hk _ ?_⟩
  ·have q:i<tests.length:=lt_t.1 q
   obtain⟨p,hp⟩:=get_lt q
   have hrl:r.length<=100:=by rw[hr,List.length_map,List.length_take];omega
   refine⟨p,hp,runV_vc C (ht p (List.mem_of_getElem? hp)) ⟨by rw[List.length_singleton];omega,by omega,hnx _ ⟨q,?_⟩ (by dsimp only;omega)⟩⟩
   dsimp only
   rw[hr,takeG hp,List.map_append]
   rfl
  ·have q:tests.length<=i:=lt_f.1 q
   rw[List.take_of_length_le q] at hr
   exact hr
 rintro _ rfl
 refine⟨by omega,by omega,?_⟩
 refine joinLoop (fun s=>s.2<=l.length/\s.1.length=l.length/\∀ j f,j<s.2->l[j]?=some f->s.1[j]?=some (logO c (Rs f) tests)) (fun s=>l.length-s.2) (fun r=>r=dictO c Rs l tests) ?_ ⟨Nat.zero_le _,by simp,fun j f hj=>absurd hj (Nat.not_lt_zero _)⟩ ?_
 ·rintro k ⟨r,i⟩ nx ⟨hi,hl,hv⟩ hnx hk
  dsimp only at hi hl hv
  refine⟨fun q=>?_,fun q=>hk _ ?_⟩
  ·have q:i<l.length:=lt_t.1 q
   obtain⟨f,hx⟩:=get_lt q
   obtain⟨z,hz⟩:=get_lt (show i<r.length by omega)
   refine⟨f,hx,log_vc C (hf f (List.mem_of_getElem? hx)) ht (by omega) ⟨q,z,hz,by omega,hnx _ ⟨q,by rw[List.length_set];exact hl,fun j g hj hg=>?_⟩ (by dsimp only;omega)⟩⟩
   dsimp only at hj ⊢
   rw[List.getElem?_set]
   by_cases e:i=j
   ·subst e
    rw[if_pos rfl,if_pos (by omega)]
    rw[hx] at hg
    cases hg
    rfl
   ·rw[if_neg e]
    exact hv j g (by omega) hg
  ·have q:l.length<=i:=lt_f.1 q
   unfold dictO
   refine List.ext_getElem? fun j=>?_
   rw[List.getElem?_map]
   by_cases hj:j<l.length
   ·obtain⟨f,hf2⟩:=get_lt hj
    rw[hv j f (by omega) hf2,hf2];rfl
   ·rw[List.getElem?_eq_none (by omega),List.getElem?_eq_none (by omega)];rfl
 ·rintro _ rfl
  exact⟨by unfold dictO;rw[List.length_map],h⟩
theorem stuck_ok {c:Circ} (C:Cir c) {f:Flt} (F:StuckOk c f):FltOk c f fun p=>rspV c (pnF f) (valF c p f) :=
 ⟨fun h=>fcheck_vc C F h,(fun e=>by rw[F.model] at e;cases e),fun hp _ h=>bothS_vc C hp F (h _)⟩
inductive Dep (c:Circ):Nat->Nat->Prop
 |refl (a:Nat):Dep c a a
 |step {a m b:Nat} {x:Node}:c.nodes[a]?=some x->x.kind≠14->m∈x.ins->Dep c m b->Dep c a b
theorem Dep.trans {c:Circ}{a b d:Nat} (h:Dep c a b) (h2:Dep c b d):Dep c a d:=by
 induction h with
 |refl a=>exact h2
 |step hx hk hm _ ih=>exact .step hx hk hm (ih h2)
def mk1 (ds:List Bool) (b:Nat):Prop:=ds.getD b false=true
theorem mk1_set {ds:List Bool}{a b:Nat} (ha:a<ds.length):mk1 (ds.set a true) b↔b=a\/mk1 ds b:=by
 unfold mk1
 rw[List.getD,List.getElem?_set]
 by_cases e:a=b
 ·subst e;rw[if_pos rfl,if_pos ha];simp
 ·rw[if_neg e]
  exact⟨.inr,fun q=>q.elim (fun e2=>absurd e2.symm e) id⟩
theorem mk1_get {ds:List Bool}{b:Nat}{v:Bool} (h:ds[b]?=some v):mk1 ds b↔v=true:=by unfold mk1;rw[List.getD,h];rfl
theorem dep_down {c:Circ} (C:Cir c) {a m:Nat}{x:Node} (hx:c.nodes[a]?=some x) (hk:x.kind≠14) (hm:m∈x.ins):m<a:=by
 have g:=C.good.node a x hx
 have hk2:=C.kinds a x hx
 refine g.acyc ?_ (by omega) m hm
 refine Nat.pos_of_ne_zero fun e=>?_
 have:=g.arity
 rw[e] at this
 have h2:x.ins.length=0:=by
  obtain⟨_,h2⟩:=this
  have e2:hiZ 0=0:=by decide
  rw[e2] at h2
  simp only[Int.ofNat_eq_natCast] at h2
  omega
 rw[List.length_eq_zero_iff] at h2
 rw[h2] at hm
 cases hm
theorem cone_f_vc {c:Circ} (C:Cir c):∀ (fu a:Nat) (ds:List Bool),a<fu->a<c.nodes.length->ds.length=c.nodes.length->(∀ z,z<=a->mk1 ds z->∀ b,Dep c z b->mk1 ds b) ->
  ∀ K:List Bool->Prop,(∀ es:List Bool,es.length=c.nodes.length->(∀ b,mk1 es b↔mk1 ds b\/Dep c a b)->K es)->suspects_cone_f fu c a ds c.nodes.length K
 |0,a,ds,h,_,_,_,_,_=>absurd h (Nat.not_lt_zero _)
 |fu+1,a,ds,hf,ha,hl,hc,K,h=>by
  obtain⟨v,hv⟩:=get_lt (show a<ds.length by omega)
  obtain⟨x,hx⟩:=get_lt ha
  unfold suspects_cone_f
  refine⟨ha,v,hv,fun e=>h ds hl fun b=>⟨.inl,fun q=>q.elim id fun q=>hc a (Nat.le_refl _) ((mk1_get hv).2 e) b q⟩,fun e=>⟨ha,v,hv,x,hx,?_⟩⟩
  refine loopW_intro (fun s=>s.2<=x.ins.length/\s.1.length=c.nodes.length/\∀ b,mk1 s.1 b↔mk1 ds b\/b=a\/x.kind≠14/\∃ m∈x.ins.take s.2,Dep c m b) (fun s=>x.ins.length-s.2) ?_ ⟨Nat.zero_le _,by rw[List.length_set];exact hl,fun b=>?_⟩
  ·rintro⟨es,i⟩ nx ⟨hi,hel,hes⟩ hnx
   dsimp only at hi hel hes
   refine⟨fun q=>?_,fun q=>h es hel fun b=>?_⟩
   ·have q:i<x.ins.length:=lt_t.1 q
    obtain⟨m,hm⟩:=get_lt q
    have few:=(C.good.node a x hx).few
    have hmn:m<c.nodes.length:=(C.good.node a x hx).ins m (List.mem_of_getElem? hm)
    refine joinP (fun es'=>es'.length=c.nodes.length/\∀ b,mk1 es' b↔mk1 ds b\/b=a\/x.kind≠14/\∃ m∈x.ins.take (i+1),Dep c m b) (fun k hk=>⟨m,hm,x,hx,fun e2=>?_,fun e2=>?_⟩) fun es' hes'=>⟨by omega,hnx _ ⟨q,hes'⟩ (by dsimp only;omega)⟩
    ·have hk14:x.kind≠14:=ne_t.1 e2
     have hma:=dep_down C hx hk14 (List.mem_of_getElem? hm)
     refine cone_f_vc C fu m es (by omega) hmn hel (fun z hz hmk b hd=>?_) k fun es' h1 h2=>hk es' ⟨h1,fun b=>?_⟩
     ·rw[hes]
      rcases (hes z).1 hmk with q1|rfl|⟨_,w,hw,hd2⟩
      ·exact .inl (hc z (by omega) q1 b hd)
      ·omega
      ·exact .inr (.inr ⟨hk14,w,hw,hd2.trans hd⟩)
     ·rw[h2,hes,takeG hm]
      constructor
      ·rintro ((q1|q1|⟨q1,w,hw,q2⟩) | q1)
       ·exact .inl q1
       ·exact .inr (.inl q1)
       ·exact .inr (.inr ⟨q1,w,snoc_mem.2 (.inl hw),q2⟩)
       ·exact .inr (.inr ⟨hk14,m,snoc_mem.2 (.inr rfl),q1⟩)
      ·rintro (q1|q1|⟨q1,w,hw,q2⟩)
       ·exact .inl (.inl q1)
       ·exact .inl (.inr (.inl q1))
       ·rcases snoc_mem.1 hw with hw|rfl
        ·exact .inl (.inr (.inr ⟨q1,w,hw,q2⟩))
        ·exact .inr q2
    ·have hk14:x.kind=14:=ne_f.1 e2
     refine hk es ⟨hel,fun b=>?_⟩
     rw[hes]
     simp only[hk14,ne_eq,not_true_eq_false,false_and]
   ·have q:x.ins.length<=i:=lt_f.1 q
    rw[hes,List.take_of_length_le q]
    constructor
    ·rintro (q1|rfl|⟨q1,w,hw,q2⟩)
     ·exact .inl q1
     ·exact .inr (.refl _)
     ·exact .inr (.step hx q1 hw q2)
    ·rintro (q1|q1)
     ·exact .inl q1
     ·cases q1 with
      |refl=>exact .inr (.inl rfl)
      |step hy hk hm hd =>
       rw[hx] at hy
       cases hy
       exact .inr (.inr ⟨hk,_,hm,hd⟩)
  ·dsimp only
   rw[mk1_set (by omega)]
   simp only[List.take_zero,List.not_mem_nil,false_and,exists_false,and_false,or_false]
   exact or_comm
theorem cone_vc {c:Circ} (C:Cir c) {a:Nat} (ha:a<c.nodes.length) {K:List Bool->Prop} (h:∀ es:List Bool,es.length=c.nodes.length->(∀ b,mk1 es b↔Dep c a b)->K es):suspects_cone_wp c a (List.replicate c.nodes.length false) c.nodes.length K:=by
 have hno:∀ z,¬ mk1 (List.replicate c.nodes.length false) z:=by
  intro z
  unfold mk1
  rw[List.getD,List.getElem?_replicate]
  split <;> simp
 refine⟨a+1,cone_f_vc C (a+1) a _ (by omega) ha (by simp) (fun z _ hz=>absurd hz (hno z)) K fun es h1 h2=>h es h1 fun b=>?_⟩
 rw[h2]
 exact⟨fun q=>q.resolve_left (hno b),.inr⟩
structure FailOk (c:Circ) (f:FailZ):Prop where
 test:0<=f.test
 place:∃ j:Nat,f.index=Int.ofNat j/\j<(if f.next then ofN c [14] else c.outs).length
def Cause (c:Circ) (f:FailZ) (b:Nat):Prop :=
 if f.next then b=(ofN c [14]).getD f.index.toNat 0\/Dep c (dOf c ((ofN c [14]).getD f.index.toNat 0)) b else Dep c (c.outs.getD f.index.toNat 0) b
theorem causes_vc {c:Circ} (C:Cir c) {f:FailZ} (F:FailOk c f) {K:List Bool×Bool->Prop} (h:∀ es:List Bool,es.length=c.nodes.length->(∀ b,mk1 es b↔Cause c f b)->K (es,true)):suspects_causes_wp c (ofN c [14]) f K:=by
 have hlen:=C.len
 obtain⟨t,nx,ix⟩:=f
 obtain⟨h1,j,h2,h3⟩:=F
 dsimp only at h1 h2 h3
 subst h2
 have hj0:ltI (Int.ofNat j) (Int.ofNat 0)=false:=ltZ_f.2 (by simp)
 have ht0:ltI t (Int.ofNat 0)=false:=ltZ_f.2 h1
 unfold suspects_causes_wp
 refine⟨by omega,by omega,?_⟩
 refine joinP (fun es=>es.length=c.nodes.length/\∀ b,mk1 es b↔Cause c ⟨t,nx,Int.ofNat j⟩ b) (fun k hk=>?_) fun es hes=>⟨hes.1.symm,h es hes.1 hes.2⟩
 refine joinB' (a:=false) (fun g=>?_) ⟨(fun e=>by cases e),fun _=>?_⟩
 ·dsimp only
  rw[ht0,hj0]
  refine⟨(fun e=>by cases e),fun _=>⟨(fun e=>by cases e),fun _=>?_⟩⟩
  cases nx with
  |true =>
   have h3:j<(ofN c [14]).length:=h3
   refine⟨(fun e=>by cases e),fun _=>⟨fun _=>?_,(fun e=>by cases e)⟩⟩
   rw[show ltI (Int.ofNat j) (Int.ofNat (ofN c [14]).length)=true from ltZ_t.2 (by simp only[Int.ofNat_eq_natCast];omega)]
   exact g
  |false =>
   have h3:j<c.outs.length:=h3
   refine⟨fun _=>⟨fun e=>?_,fun _=>⟨(fun e=>by cases e),fun _=>g⟩⟩,(fun e=>by cases e)⟩
   rw[show ltI (Int.ofNat j) (Int.ofNat c.outs.length)=true from ltZ_t.2 (by simp only[Int.ofNat_eq_natCast];omega)] at e
   cases e
 ·dsimp only
  cases nx with
  |true =>
   have h3:j<(ofN c [14]).length:=h3
   obtain⟨s,hs⟩:=get_lt h3
   have hsm:=ofN_mem.1 (List.mem_of_getElem? hs)
   obtain⟨x,hx⟩:=get_lt hsm.1
   have hk14:x.kind=14:=by rw[<- kd_eq hx];exact hsm.2
   have har:x.ins.length=1:=by
    obtain⟨q1,q2⟩:=(C.good.node s x hx).arity
    rw[hk14] at q1 q2
    have e1:loN 14=1:=by decide
    have e2:hiZ 14=1:=by decide
    rw[e1] at q1
    rw[e2] at q2
    simp only[Int.ofNat_eq_natCast] at q2
    omega
   obtain⟨m,hm⟩:=get_lt (show 0<x.ins.length by omega)
   have hmn:m<c.nodes.length:=(C.good.node s x hx).ins m (List.mem_of_getElem? hm)
   have hd:dOf c s=m:=by unfold dOf;rw[insOf_eq hx,List.getD,hm];rfl
   refine⟨fun _=>⟨j,rfl,s,hs,x,hx,m,hm,cone_vc C hmn fun es h4 h5=>?_⟩,(fun e=>by cases e)⟩
   obtain⟨z,hz⟩:=get_lt (show s<es.length by omega)
   refine⟨hsm.1,z,hz,hk _ ⟨by rw[List.length_set];exact h4,fun b=>?_⟩⟩
   rw[mk1_set (by omega),h5]
   unfold Cause
   have e1:(ofN c [14]).getD (Int.ofNat j).toNat 0=s:=by rw[show (Int.ofNat j).toNat=j from rfl,List.getD,hs];rfl
   rw[if_pos rfl,e1,hd]
  |false =>
   have h3:j<c.outs.length:=h3
   obtain⟨o,ho⟩:=get_lt h3
   refine⟨(fun e=>by cases e),fun _=>⟨j,rfl,o,ho,cone_vc C (C.good.outs o (List.mem_of_getElem? ho)) fun es h4 h5=>hk es ⟨h4,fun b=>?_⟩⟩⟩
   rw[h5]
   unfold Cause
   have:c.outs.getD (Int.ofNat j).toNat 0=o:=by rw[show (Int.ofNat j).toNat=j from rfl,List.getD,ho];rfl
   rw[if_neg (fun e=>by cases e),this]
theorem repB_vc {n:Nat} (hn:n<=16) {K:List Bool->Prop} (h:K (List.replicate n true)):sl_RepeatB_wp [true] n K:=by
 unfold sl_RepeatB_wp
 refine joinB' (a:=()) (fun g=>⟨fun q=>absurd (lt_t.1 q) (Nat.not_lt_zero _),fun _=>g⟩) ⟨by rw[List.length_singleton];omega,by omega,rfl,hn,?_⟩
 refine joinB' (a:=()) (fun g=>joinB' (a:=false) (fun g2=>⟨fun q=>absurd (lt_t.1 q) (Nat.lt_irrefl 0),fun _=>?_⟩) ⟨(fun q=>by cases q),fun _=>g⟩) ?_
 ·have e:ltN 9223372036854775807 n=false:=lt_f.2 (by omega)
  exact apT e g2
 refine⟨by show n<_;omega,by show 1*n<=_;omega,by show n<_;omega,by show 0+n<=(List.replicate n false).length;simp,?_⟩
 refine joinLoop (fun s=>s.1.length=n/\s.2<=n/\(0<n->0<s.2)/\s.1.take s.2=List.replicate s.2 true) (fun s=>n-s.2) (fun r=>r=List.replicate n true) ?_ ⟨?_,?_,?_,?_⟩ ?_
 ·rintro k ⟨l,i⟩ nx ⟨hl,hi,hp,ht⟩ hnx hk
  dsimp only at hl hi hp ht
  refine⟨fun q=>?_,fun q=>hk _ ?_⟩
  ·have q:i<n:=lt_t.1 q
   have hi0:=hp (by omega)
   have htl:(l.take i).length=i:=by rw[List.length_take];omega
   dsimp only
   rw[htl]
   refine⟨by omega,by omega,by omega,by omega,by omega,hnx _ ⟨?_,?_,?_,?_⟩ ?_⟩
   ·dsimp only
    unfold copyN
    rw[htl]
    simp only[List.length_append,List.length_take,List.length_drop]
    omega
   ·dsimp only;omega
   ·intro _;dsimp only;omega
   ·dsimp only
    unfold copyN
    rw[htl,ht]
    rw[<- List.append_assoc,List.take_append_of_le_length (by simp only[List.length_append,List.length_take,List.length_replicate];omega)]
    rw[List.take_of_length_le (by simp only[List.length_append,List.length_take,List.length_replicate];omega)]
    rw[List.take_replicate,List.replicate_append_replicate]
    congr 1
    omega
   ·dsimp only;omega
  ·have q:n<=i:=lt_f.1 q
   have:i=n:=by omega
   subst this
   rw[List.take_of_length_le (by omega)] at ht
   exact ht
 ·dsimp only
  unfold copyN
  simp only[List.length_append,List.length_take,List.length_drop,List.length_replicate,List.length_singleton]
  omega
 ·dsimp only;omega
 ·intro h0
  dsimp only
  rw[List.length_singleton]
  omega
 ·dsimp only
  unfold copyN
  cases n with
  |zero=>rfl
  |succ n =>
   have:min (n+1) [true].length=1:=by rw[List.length_singleton];omega
   rw[this]
   rfl
 ·rintro _ rfl
  exact⟨by simp,h⟩
theorem Back_vc {c:Circ} (C:Cir c) {log:List FailZ} (hl:log.length<2 ^ 60) (F:∀ f∈log,FailOk c f) {K:List Nat×Nat->Prop}
  (h:∀ p:Nat->Bool,(∀ b,b<c.nodes.length->(p b=true ↔ ∀ f∈log,Cause c f b))->K ((List.range c.nodes.length).filter p,0)):suspects_Back_wp c log K:=by
 have hlen:=C.len
 unfold suspects_Back_wp
 refine lines_vc C ⟨(fun q=>absurd rfl (ne_t.1 q)),fun _=>repB_vc hlen (states_vc (by omega) ?_)⟩
 refine joinLoop (fun s=>s.2<=log.length/\s.1.length=c.nodes.length/\∀ b,b<c.nodes.length->(mk1 s.1 b ↔ ∀ f∈log.take s.2,Cause c f b)) (fun s=>log.length-s.2)
  (fun r=>r.length=c.nodes.length/\∀ b,b<c.nodes.length->(mk1 r b ↔ ∀ f∈log,Cause c f b)) ?_ ⟨Nat.zero_le _,by simp,fun b hb=>?_⟩ ?_
 ·rintro k ⟨r,i⟩ nx ⟨hi,hr,hv⟩ hnx hk
  dsimp only at hi hr hv
  refine⟨fun q=>?_,fun q=>hk _ ?_⟩
  ·have q:i<log.length:=lt_t.1 q
   obtain⟨f,hf⟩:=get_lt q
   refine joinP (fun r2=>r2.length=c.nodes.length/\∀ b,b<c.nodes.length->(mk1 r2 b ↔ ∀ f∈log.take (i+1),Cause c f b)) (fun k2 hk2=>⟨f,hf,causes_vc C (F f (List.mem_of_getElem? hf)) fun es h1 h2=>⟨(fun e=>by cases e),fun _=>?_⟩⟩) fun r2 h2=>⟨by omega,hnx _ ⟨q,h2⟩ (by dsimp only;omega)⟩
   refine loopW_intro (fun s=>s.2<=r.length/\s.1.length=c.nodes.length/\∀ b,b<c.nodes.length->(mk1 s.1 b↔mk1 r b/\(b<s.2->Cause c f b))) (fun s=>r.length-s.2) ?_ ⟨Nat.zero_le _,hr,fun b hb=>⟨fun q=>⟨q,fun e=>absurd e (Nat.not_lt_zero _)⟩,fun q=>q.1⟩⟩
   rintro⟨w,n⟩ nx2 ⟨hn,hw,hwv⟩ hnx2
   dsimp only at hn hw hwv
   refine⟨fun q2=>?_,fun q2=>hk2 _ ⟨hw,fun b hb=>?_⟩⟩
   ·have q2:n<r.length:=lt_t.1 q2
    obtain⟨v,hv2⟩:=get_lt (show n<w.length by omega)
    obtain⟨e,he⟩:=get_lt (show n<es.length by omega)
    have hme:=mk1_get he
    have hmv:=mk1_get hv2
    refine joinP (fun w2=>w2.length=c.nodes.length/\∀ b,b<c.nodes.length->(mk1 w2 b↔mk1 r b/\(b<n+1->Cause c f b))) (fun k3 hk3=>⟨v,hv2,fun e2=>⟨e,he,v,hv2,hk3 _ ⟨by rw[List.length_set];exact hw,fun b hb=>?_⟩⟩,fun e2=>⟨v,hv2,hk3 _ ⟨by rw[List.length_set];exact hw,fun b hb=>?_⟩⟩⟩) fun w2 h3=>⟨by omega,hnx2 _ ⟨q2,h3⟩ (by dsimp only;omega)⟩
    ·by_cases eb:n=b
     ·subst eb
      have:mk1 (w.set n e) n↔e=true:=by unfold mk1;rw[List.getD,List.getElem?_set,if_pos rfl,if_pos (by omega)];rfl
      rw[this,<- hme,h2]
      have:=(hwv n hb).1 (hmv.2 e2)
      exact⟨fun q=>⟨this.1,fun _=>q⟩,fun q=>q.2 (by omega)⟩
     ·have:mk1 (w.set n e) b↔mk1 w b:=by unfold mk1;rw[List.getD,List.getElem?_set,if_neg eb];rfl
      rw[this,hwv b hb]
      exact⟨fun q=>⟨q.1,fun l=>q.2 (by omega)⟩,fun q=>⟨q.1,fun l=>q.2 (by omega)⟩⟩
    ·by_cases eb:n=b
     ·subst eb
      have:mk1 (w.set n false) n↔False:=by unfold mk1;rw[List.getD,List.getElem?_set,if_pos rfl,if_pos (by omega)];simp
      rw[this]
      have h9:¬ mk1 w n:=fun q=>by rw[hmv,e2] at q;cases q
      refine⟨False.elim,fun q=>h9 ((hwv n hb).2 ⟨q.1,fun l=>absurd l (Nat.lt_irrefl _)⟩)⟩
     ·have:mk1 (w.set n false) b↔mk1 w b:=by unfold mk1;rw[List.getD,List.getElem?_set,if_neg eb];rfl
      rw[this,hwv b hb]
      exact⟨fun q=>⟨q.1,fun l=>q.2 (by omega)⟩,fun q=>⟨q.1,fun l=>q.2 (by omega)⟩⟩
   ·have q2:r.length<=n:=lt_f.1 q2
    rw[hwv b hb,hv b hb,takeG hf]
    constructor
    ·rintro⟨h3,h4⟩ g m
     rcases snoc_mem.1 m with m|rfl
     ·exact h3 g m
     ·exact h4 (by omega)
    ·intro h3
     exact⟨fun g m=>h3 g (snoc_mem.2 (.inl m)),fun _=>h3 f (snoc_mem.2 (.inr rfl))⟩
  ·have q:log.length<=i:=lt_f.1 q
   rw[List.take_of_length_le q] at hv
   exact⟨hr,hv⟩
 ·dsimp only
  refine⟨(fun _ f m=>by cases m),fun _=>?_⟩
  unfold mk1
  rw[List.getD,List.getElem?_replicate,if_pos hb]
  rfl
 ·rintro r ⟨hr,hv⟩
  have hp:∀ b,b<c.nodes.length->(r.getD b false=true ↔ ∀ f∈log,Cause c f b):=hv
  have hK:=h (fun b=>r.getD b false) hp
  refine joinLoop (fun s=>s.2<=r.length/\s.1=(List.range s.2).filter fun b=>r.getD b false) (fun s=>r.length-s.2) (fun l=>l=(List.range c.nodes.length).filter fun b=>r.getD b false) ?_ ⟨Nat.zero_le _,rfl⟩ (fun _ e=>e ▸ hK)
  rintro k ⟨l,i⟩ nx ⟨hi,hl2⟩ hnx hk
  dsimp only at hi hl2
  refine⟨fun q=>?_,fun q=>hk _ ?_⟩
  ·have q:i<r.length:=lt_t.1 q
   obtain⟨v,hv2⟩:=get_lt q
   have e:r.getD i false=v:=by rw[List.getD,hv2];rfl
   have hll:l.length<=i:=by rw[hl2];exact filtLen
   refine joinB' (a:=(List.range (i+1)).filter fun b=>r.getD b false) (fun g2=>⟨v,hv2,fun e2=>⟨by rw[List.length_singleton];omega,?_⟩,fun e2=>?_⟩) ⟨by omega,hnx _ ⟨q,rfl⟩ (by dsimp only;omega)⟩
   ·rw[filtS,e,if_pos e2,<- hl2] at g2;exact g2
   ·rw[filtS,e,if_neg (by rw[e2];decide),<- hl2,List.append_nil] at g2;exact g2
  ·have q:r.length<=i:=lt_f.1 q
   have:i=c.nodes.length:=by omega
   subst this
   exact hl2
def fltL:List Flt:=[⟨0,⟨0,Int.negSucc 0⟩,0,0⟩,⟨0,⟨0,Int.negSucc 0⟩,1,0⟩,⟨0,⟨2,Int.negSucc 0⟩,1,0⟩]
def tstL:List Pat:=[⟨[1,1],[]⟩,⟨[0,1],[]⟩,⟨[0,0],[]⟩]
def stR (c:Circ) (f:Flt) (p:Pat):Rsp:=rspV c (pnF f) (valF c p f)
def dictE:List (List FailZ):=[[⟨0,false,0⟩],[⟨1,false,0⟩],[⟨1,false,0⟩,⟨2,false,0⟩]]
theorem dictE_eq:dictO gateC (stR gateC) fltL tstL=dictE:=by decide +kernel
theorem fltL_ok:∀ f∈fltL,FltOk gateC f (stR gateC f):=by
 intro f m
 refine stuck_ok gate_cir ?_
 have h:∀ f∈fltL,f.model=0/\f.value<=1/\f.other=0/\f.line.node<gateC.nodes.length /\ -1<=f.line.pin/\f.line.pin<Int.ofNat (insOf gateC f.line.node).length:=by decide
 obtain⟨h1,h2,h3,h4,h5,h6⟩:=h f m
 exact⟨h1,h2,h3,h4,h5,h6⟩
theorem tstL_ok:∀ p∈tstL,PatOk gateC p:=by
 intro p m
 have h:∀ p∈tstL,p.inp.length=(ofN gateC [0]).length/\p.state.length=(ofN gateC [14]).length/\(∀ v∈p.inp,v<=3)/\∀ v∈p.state,v<=3:=by decide
 obtain⟨h1,h2,h3,h4⟩:=h p m
 exact⟨h1,h2,h3,h4⟩
theorem few_dict:FewL dictE [⟨1,false,0⟩]:=⟨by decide,by decide,by decide⟩
theorem rankE {r:List Sus} (hp:r.Perm (rankB dictE [⟨1,false,0⟩])) (hs:r.Pairwise susLe):r=[⟨1,1,0,0⟩,⟨2,1,0,1⟩,⟨0,0,1,1⟩] :=
 rank_eq hp (by decide) hs (by decide)
theorem exactE:exactO dictE [⟨1,false,0⟩]=[1]:=by decide
theorem failE:∀ f∈([⟨1,false,0⟩]:List FailZ),FailOk gateC f:=by
 intro f m
 rw[List.mem_singleton] at m
 subst m
 exact⟨by decide,0,rfl,by decide⟩
theorem causeE {b:Nat} (hb:b<3):Cause gateC ⟨1,false,0⟩ b:=by
 unfold Cause
 rw[if_neg (fun e=>by cases e)]
 show Dep gateC 2 b
 have:b=0\/b=1\/b=2:=by omega
 rcases this with rfl|rfl|rfl
 ·exact .step (a:=2) (m:=0) (x:=⟨5,[0,1],0,0⟩) rfl (by decide) (by decide) (.refl _)
 ·exact .step (a:=2) (m:=1) (x:=⟨5,[0,1],0,0⟩) rfl (by decide) (by decide) (.refl _)
 ·exact .refl _
theorem lives22_vc {K:Bool->Prop} (h:K true):probecardlaw22_lives_wp K:=by
 unfold probecardlaw22_lives_wp
 refine Dictionary_vc gate_cir (Rs:=stR gateC) fltL_ok tstL_ok (by decide) (by decide) ?_
 rw[show dictO gateC (stR gateC) _ _=dictE from dictE_eq]
 refine joinB' (a:=false) (fun g=>⟨(fun e=>by cases e),fun _=>⟨(fun e=>by cases e),fun _=>⟨_,rfl,(fun e=>by cases e),fun _=>⟨_,rfl,(fun e=>by cases e),fun _=>⟨_,rfl,g⟩⟩⟩⟩⟩) ⟨(fun e=>by cases e),fun _=>⟨_,rfl,?_⟩⟩
 refine RankM_vc few_dict fun r hp hs=>?_
 rw[rankE hp hs]
 refine⟨_,rfl,Exact_vc few_dict ?_⟩
 rw[exactE]
 refine⟨_,rfl,Back_vc gate_cir (by decide) failE fun p hp=>?_⟩
 have key:∀ b,b<3->p b=true:=fun b hb=>(hp b hb).2 fun f m=>by rw[List.mem_singleton] at m;subst m;exact causeE hb
 have e:(List.range gateC.nodes.length).filter p=[0,1,2]:=by
  show [0,1,2].filter p=_
  simp[key 0 (by decide),key 1 (by decide),key 2 (by decide)]
 rw[e]
 refine⟨fun _=>⟨fun _=>⟨fun _=>⟨fun _=>⟨_,rfl,fun _=>⟨_,rfl,_,rfl,fun _=>⟨_,rfl,fun _=>⟨_,rfl,fun _=>⟨_,rfl,h⟩,(fun q=>by cases q)⟩,(fun q=>by cases q)⟩,(fun q=>by cases q)⟩,(fun q=>by cases q)⟩,(fun q=>by cases q)⟩,(fun q=>by cases q)⟩,(fun q=>by cases q)⟩,(fun q=>by cases q)⟩
theorem few_vc {d:List (List FailZ)}{log:List FailZ}{K:Bool->Prop} (h:d.length<=30->log.length<=60->(∀ l∈d,l.length<=60)->K true) (h2:K false):probecardlaw22_few_wp d log K:=by
 unfold probecardlaw22_few_wp
 refine joinB' (a:=decide (30<d.length\/60<log.length)) (fun g=>⟨fun e=>?_,fun e=>?_⟩) ⟨fun _=>h2,fun e=>?_⟩
 ·rw[decide_eq_true (.inl (lt_t.1 e))] at g;exact g
 ·have e:=lt_f.1 e
  have:ltN 60 log.length=decide (30<d.length\/60<log.length):=by
   rw[ltN_eq,Bool.eq_iff_iff,decide_eq_true_eq,decide_eq_true_eq]
   exact⟨.inr,fun q=>q.resolve_left (by omega)⟩
  exact apT this g
 ·have e:=of_decide_eq_false e
  refine joinLoop (fun i=>i<=d.length/\∀ l∈d.take i,l.length<=60) (fun i=>d.length-i) (fun _=>∀ l∈d,l.length<=60) ?_ ⟨Nat.zero_le _,fun l m=>by cases m⟩ fun _ q=>h (by omega) (by omega) q
  rintro k i nx ⟨hi,hv⟩ hnx hk
  refine⟨fun q=>?_,fun q=>hk _ ?_⟩
  ·have q:i<d.length:=lt_t.1 q
   obtain⟨l,hl⟩:=get_lt q
   refine⟨l,hl,fun _=>h2,fun e3=>⟨by omega,hnx _ ⟨q,fun x m=>?_⟩ (by omega)⟩⟩
   rw[takeG hl,snoc_mem] at m
   rcases m with m|rfl
   ·exact hv x m
   ·have:=lt_f.1 e3;omega
  ·have q:d.length<=i:=lt_f.1 q
   rw[List.take_of_length_le q] at hv
   exact hv
theorem nBoth_comm {a b:List FailZ} (na:a.Nodup) (nb:b.Nodup):nBoth a b=nBoth b a:=by
 unfold nBoth
 refine ((List.perm_ext_iff_of_nodup (List.Pairwise.filter _ na) (List.Pairwise.filter _ nb)).2 fun x=>?_).length_eq
 rw[List.mem_filter,List.mem_filter,inS_t,inS_t]
 exact and_comm
theorem nExtra_dst (a b:List FailZ):nExtra (dst a []) (dst b [])=(dst a b).length:=by
 unfold nExtra
 refine ((List.perm_ext_iff_of_nodup (List.Pairwise.filter _ (dst_nodup a [])) (dst_nodup a b)).2 fun x=>?_).length_eq
 rw[List.mem_filter,dst_mem,dst_mem,Bool.not_eq_true',<- Bool.not_eq_true,inS_t,dst_mem]
 simp
theorem missed_eq (own log:List FailZ):(dst log []).length-nBoth (dst own []) (dst log [])=(dst log own).length:=by
 have h1:=nBoth_comm (dst_nodup own []) (dst_nodup log [])
 have h2:=nBoth_add (dst log []) (dst own [])
 rw[nExtra_dst] at h2
 omega
theorem rank_mem {d:List (List FailZ)}{log:List FailZ}{r:List Sus} (hp:r.Perm (rankB d log)) {x:Sus} (m:x∈r):x.fault<d.length/\x=susO d log x.fault:=by
 obtain⟨i,hi,rfl⟩:=List.mem_map.1 (hp.mem_iff.1 m)
 exact⟨List.mem_range.1 hi,rfl⟩
theorem sorted_split {α:Type}{le:α->α->Prop}{P:α->Bool} (hd:∀ a b,le a b->P b=true->P a=true):∀ {r:List α},r.Pairwise le->r=r.filter P++r.filter fun x => !P x
 |[],_=>rfl
 |a::r,h=>by
  obtain⟨h1,h2⟩:=List.pairwise_cons.1 h
  rw[List.filter_cons,List.filter_cons]
  cases e:P a with
  |true=>exact congrArg (a :: ·) (sorted_split hd h2)
  |false =>
   have hn:∀ b∈r,¬ P b=true:=fun b m q=>by rw[hd a b (h1 b m) q] at e;cases e
   rw[List.filter_eq_nil_iff.2 hn]
   refine congrArg (a :: ·) (List.filter_eq_self.2 fun b m=>?_).symm
   have:=hn b m
   simpa using this
def zeroB (x:Sus):Bool:=decide (x.missed=0/\x.extra=0)
def sameB (d:List (List FailZ)) (log:List FailZ) (i:Nat):Bool:=eqS (dst (d.getD i []) []) (dst log [])
theorem zero_same (d:List (List FailZ)) (log:List FailZ) (i:Nat):zeroB (susO d log i)=sameB d log i:=by
 unfold zeroB sameB
 rw[Bool.eq_iff_iff,decide_eq_true_eq,eqS_iff]
 have h1:(susO d log i).missed=(dst log (d.getD i [])).length:=missed_eq _ _
 have h2:(susO d log i).extra=(dst (d.getD i []) log).length:=nExtra_dst _ _
 rw[h1,h2,dst_nil,dst_nil]
 exact⟨fun q x=>⟨q.2 x,q.1 x⟩,fun q=>⟨fun x m=>(q x).2 m,fun x m=>(q x).1 m⟩⟩
theorem rank_first {d:List (List FailZ)}{log:List FailZ}{r:List Sus} (hp:r.Perm (rankB d log)) (hs:r.Pairwise susLe):r.filter zeroB=(exactO d log).map (susO d log):=by
 have e1:(rankB d log).filter zeroB=(exactO d log).map (susO d log):=by
  unfold rankB exactO
  rw[List.filter_map]
  congr 1
  refine List.filter_congr fun i _=>?_
  exact zero_same d log i
 refine List.Perm.eq_of_pairwise (le:=susLe) (fun a b ha hb h1 h2=>?_) (List.Pairwise.filter _ hs) ?_ (e1 ▸ hp.filter zeroB)
 ·have q1:=(rank_mem hp (List.mem_filter.1 ha).1).2
  obtain⟨j,_,rfl⟩:=List.mem_map.1 hb
  rw[susLe_iff] at h1 h2
  have e2:(susO d log j).fault=j:=rfl
  have:a.fault=j:=by omega
  rw[q1,this]
 ·rw[List.pairwise_map]
  have hpw:(exactO d log).Pairwise (· < ·):=List.Pairwise.filter _ List.pairwise_lt_range
  refine List.Pairwise.imp_of_mem (fun {a b} ha hb hab=>?_) hpw
  have z1:=zero_same d log a
  have z2:=zero_same d log b
  rw[show sameB d log a=true from (List.mem_filter.1 ha).2] at z1
  rw[show sameB d log b=true from (List.mem_filter.1 hb).2] at z2
  have z1:=of_decide_eq_true z1
  have z2:=of_decide_eq_true z2
  rw[susLe_iff]
  have e1:(susO d log a).fault=a:=rfl
  have e2:(susO d log b).fault=b:=rfl
  omega
theorem rank_get {d:List (List FailZ)}{log:List FailZ}{r:List Sus} (hp:r.Perm (rankB d log)) (hs:r.Pairwise susLe) {j i:Nat} (h:(exactO d log)[j]?=some i):r[j]?=some (susO d log i):=by
 have e:=sorted_split (le:=susLe) (P:=zeroB) (fun a b h1 h2=>by
  have h2:=of_decide_eq_true h2
  rw[susLe_iff] at h1
  exact decide_eq_true (by omega)) hs
 rw[e,rank_first hp hs,List.getElem?_append_left (by rw[List.length_map];exact lt_of_get h),List.getElem?_map,h]
 rfl
theorem exact_zero {d:List (List FailZ)}{log:List FailZ}{i:Nat} (m:i∈exactO d log):(susO d log i).missed=0/\(susO d log i).extra=0:=by
 have z1:=zero_same d log i
 rw[show sameB d log i=true from (List.mem_filter.1 m).2] at z1
 exact of_decide_eq_true z1
theorem exact_get {d:List (List FailZ)}{log:List FailZ}{i:Nat} (hi:i<d.length) (hb:sameB d log i=true):(exactO d log)[((List.range i).filter (sameB d log)).length]?=some i:=by
 have e:List.range d.length=List.range (i+1)++(List.range (d.length-(i+1))).map (fun x=>(i+1)+x):=by
  rw[<- List.range_add]
  congr 1
  omega
 have:exactO d log=((List.range i).filter (sameB d log)++[i])++((List.range (d.length-(i+1))).map (fun x=>(i+1)+x)).filter (sameB d log):=by
  show (List.range d.length).filter (sameB d log)=_
  rw[e,List.filter_append,filtS,if_pos hb]
 rw[this,List.append_assoc,List.getElem?_append_right (Nat.le_refl _),Nat.sub_self]
 rfl
theorem exB_vc {p0:List (List FailZ)}{p1:List FailZ} (F:FewL p0 p1) {K:Bool->Prop} (h:K true):suspects_Exact_wp p0 p1 (fun r46=>joinW (α:=Nat) (fun k48=>loopW (S:=(Nat×Nat)) (fun (v49,v50) nx51=>((ltN v50 p0.length)=true->joinW (α:=Nat) (fun k53=>joinW (α:=Bool) (fun k55=>∃ x56,p0[v50]?=some x56/\probecardlaw22_distinct_wp x56 p1 (fun r57=>((eqN r57.length 0)=true->∃ x58,p0[v50]?=some x58/\probecardlaw22_distinct_wp p1 x58 (fun r59=>k55 (eqN r59.length 0)))/\((eqN r57.length 0)=false->k55 false))) (fun v54=>(v54=true->joinW (α:=Bool) (fun k61=>((!ltN v49 r46.length)=true->k61 true)/\((!ltN v49 r46.length)=false->∃ x62,r46[v49]?=some x62/\k61 (neN x62 v50))) (fun v60=>(v60=true->K false)/\(v60=false->v49+1<2 ^ 63/\k53 (v49+1))))/\(v54=false->k53 v49))) (fun v52=>v50+1<2 ^ 63/\nx51 (v52,(v50+1))))/\((ltN v50 p0.length)=false->k48 v49)) (0,0)) (fun v47=>suspects_RankM_wp p0 p1 (fun r63=>joinW (α:=Bool) (fun k65=>((neN r63.length p0.length)=true->k65 true)/\((neN r63.length p0.length)=false->((neN v47 r46.length)=true->k65 true)/\((neN v47 r46.length)=false->k65 (neN r46.length r46.length)))) (fun v64=>(v64=true->K false)/\(v64=false->joinW (α:=Unit) (fun k66=>loopW (S:=Nat) (fun v67 nx68=>((ltN v67 v47)=true->joinW (α:=Bool) (fun k70=>∃ x71,r63[v67]?=some x71/\∃ x72,r46[v67]?=some x72/\((neN x71.fault x72)=true->k70 true)/\((neN x71.fault x72)=false->∃ x73,r63[v67]?=some x73/\((neN x73.missed 0)=true->k70 true)/\((neN x73.missed 0)=false->∃ x74,r63[v67]?=some x74/\k70 (neN x74.extra 0)))) (fun v69=>(v69=true->K false)/\(v69=false->v67+1<2 ^ 63/\nx68 (v67+1))))/\((ltN v67 v47)=false->k66 ())) 0) (fun _=>probecardlaw22_lives_wp  (fun r75=>K r75))))))):=by
 have h1:=F.len
 have h3:=F.obs
 refine Exact_vc F ?_
 refine joinLoop (fun s=>s.2<=p0.length/\s.1=((List.range s.2).filter (sameB p0 p1)).length) (fun s=>p0.length-s.2) (fun k=>k=(exactO p0 p1).length) ?_ ⟨Nat.zero_le _,rfl⟩ ?_
 ·rintro k ⟨n,i⟩ nx ⟨hi,hn⟩ hnx hk
  dsimp only at hi hn
  refine⟨fun q=>?_,fun q=>hk _ ?_⟩
  ·have q:i<p0.length:=lt_t.1 q
   obtain⟨own,ho⟩:=get_lt q
   have h4:=F.each own (List.mem_of_getElem? ho)
   have hg:p0.getD i []=own:=by rw[List.getD,ho];rfl
   have hni:n<=i:=by rw[hn];exact filtLen
   refine joinB' (a:=((List.range (i+1)).filter (sameB p0 p1)).length) (fun g2=>?_) ⟨by omega,hnx _ ⟨q,rfl⟩ (by dsimp only;omega)⟩
   have key:sameB p0 p1 i=true↔(∀ x∈own,x∈p1)/\∀ x∈p1,x∈own:=by
    unfold sameB
    rw[hg,eqS_iff]
    exact⟨fun q=>⟨fun x m=>(q x).1 m,fun x m=>(q x).2 m⟩,fun q x=>⟨q.1 x,q.2 x⟩⟩
   refine joinB' (a:=sameB p0 p1 i) (fun g3=>⟨own,ho,distinct_vc h4 h3 ⟨fun e=>⟨own,ho,distinct_vc h3 h4 ?_⟩,fun e=>?_⟩⟩) ⟨fun e=>?_,fun e=>?_⟩
   ·have e:=dst_nil.1 (eq_t.1 e)
    have e9:eqN (dst p1 own).length 0=sameB p0 p1 i:=by
     rw[eqN_eq,Bool.eq_iff_iff,decide_eq_true_eq,key,dst_nil]
     exact⟨fun q=>⟨e,q⟩,fun q=>q.2⟩
    exact apT e9 g3
   ·have e9:false=sameB p0 p1 i:=by
     rw[eq_comm,Bool.eq_false_iff,ne_eq,key]
     exact fun q=>eq_f.1 e (dst_nil.2 q.1)
    exact apT e9 g3
   ·have hx:=exact_get q e
    rw[<- hn] at hx
    rw[filtS,if_pos e,List.length_append,<- hn] at g2
    refine joinB' (a:=neN i i) (fun g4=>⟨fun e2=>?_,fun _=>⟨i,hx,g4⟩⟩) ⟨(fun e2=>absurd rfl (ne_t.1 e2)),fun _=>⟨by omega,g2⟩⟩
    rw[lt_t.2 (lt_of_get hx)] at e2
    cases e2
   ·rw[filtS,if_neg (by rw[e];decide),List.append_nil,<- hn] at g2
    exact g2
  ·have q:p0.length<=i:=lt_f.1 q
   have:i=p0.length:=by omega
   subst this
   exact hn
 rintro n hn
 refine RankM_vc F fun r hp hs=>?_
 have hl:r.length=p0.length:=by rw[hp.length_eq];unfold rankB;simp
 refine joinB' (a:=neN (exactO p0 p1).length (exactO p0 p1).length) (fun g=>⟨fun e=>absurd hl (ne_t.1 e),fun _=>⟨fun e=>absurd hn (ne_t.1 e),fun _=>g⟩⟩) ⟨(fun e=>absurd rfl (ne_t.1 e)),fun _=>?_⟩
 have hxl:(exactO p0 p1).length<=p0.length:=filtLen
 refine joinLoop (fun i=>i<=n) (fun i=>n-i) (fun _=>True) ?_ (Nat.zero_le _) (fun _ _=>lives22_vc h)
 rintro k i nx hi hnx hk
 refine⟨fun q=>?_,fun q=>hk _ trivial⟩
 have q:i<n:=lt_t.1 q
 obtain⟨x,hx⟩:=get_lt (show i<(exactO p0 p1).length by omega)
 have hr:=rank_get hp hs hx
 have hz:=exact_zero (List.mem_of_getElem? hx)
 refine joinB' (a:=neN (susO p0 p1 x).extra 0) (fun g=>⟨_,hr,_,hx,fun e=>absurd rfl (ne_t.1 e),fun _=>⟨_,hr,fun e=>absurd hz.1 (ne_t.1 e),fun _=>⟨_,hr,g⟩⟩⟩) ⟨(fun e=>absurd hz.2 (ne_t.1 e)),fun _=>⟨by omega,hnx _ q (by omega)⟩⟩
theorem suspectsExact_vc {d:List (List FailZ)}{log:List FailZ}{w:Nat} (hw:w<256) {K:Bool->Prop} (h:K true):probecardlaw22_SuspectsExact_wp d log w K:=by
 unfold probecardlaw22_SuspectsExact_wp
 refine few_vc (fun f1 f2 f3=>⟨(fun e=>by cases e),fun _=>?_⟩) ⟨fun _=>lives22_vc h,(fun e=>by cases e)⟩
 refine joinP (fun v=>v=true->0<d.length) (fun k hk=>⟨fun e=>⟨by decide,hk _ fun _=>lt_t.1 e⟩,fun _=>hk _ (fun e=>by cases e)⟩) fun v hv=>⟨fun e=>?_,fun _=>?_⟩
 ·have hd:=hv e
  have hlt:w/2%d.length<d.length:=Nat.mod_lt _ hd
  obtain⟨own,ho⟩:=get_lt hlt
  have hol:=f3 own (List.mem_of_getElem? ho)
  have ha:((([]:List FailZ)++own)++own).length<=2000:=by rw[List.nil_append,List.length_append];omega
  have F:FewL d ((([]:List FailZ)++own)++own):=⟨by omega,ha,fun l m=>by have:=f3 l m;omega⟩
  refine⟨by decide,hw,by omega,hd,own,ho,by rw[List.length_nil];omega,by rw[List.nil_append];omega,exB_vc F h⟩
 ·exact exB_vc ⟨by omega,by omega,fun l m=>by have:=f3 l m;omega⟩ h
def suspectsExact_sh:List (Sh×Bool):=[(.slice (.slice shFail),false),(.slice shFail,false),(shB,false)]
theorem suspectsExact_call (x:DenL suspectsExact_sh) (w:wfL suspectsExact_sh x):FnV Tryz.prog NG vars 4 ⟨argL suspectsExact_sh x⟩ (.bool true):=by
 obtain⟨d,l,b,u⟩:=x
 obtain⟨_,_,wb,_⟩:=w
 obtain⟨d',_,e1⟩:=logs_arg (l:=d)
 obtain⟨l',_,e2⟩:=fails_arg (l:=l)
 obtain⟨b,hb,rfl⟩:=byte_of wb
 have e:argL suspectsExact_sh (d,l,Int.ofNat b,u)=[encL 1 (encL 3 encFail) d',encL 3 encFail l',n8 b]:=by
  show [elV (!false) ((Sh.slice (Sh.slice shFail)).cellsF d),elV (!false) ((Sh.slice shFail).cellsF l),elV (!false) (shB.cellsF (Int.ofNat b))]=_
  rw[e1,e2];rfl
 rw[e]
 exact FnV.of_walk (enc:=Value.bool) (r:=true) (PureV.flat rfl) fun h hB=>probecardlaw22_SuspectsExact_walk (K:=fun r=>r=true) (suspectsExact_vc hb rfl) hB
end Go.Proofs.YteceaohcjmbfbaaGreatDoor
