/-
  AbsSo: parts of the proof.
-/
import Derived.Test.YtgiedjgdlckahaaGreatDoorTk43
import Derived.Shelf.SlSortCmp.WholeK
import Derived.Shelf.SlSortCmp.NoneTotal
namespace Go.Abs
open Go.Proofs (sortWorldK ltOf CmpLays)
open Go.Sort (putRowK HoldsK flatK grow)
section
variable {P:Program} {N:Nat} {B:List AObj} {h0 h:Heap} {L:List Slot}
theorem vK {W w':World} (hs:W.heap.size<=w'.heap.size) (hf:∀ b,b<W.heap.size->w'.heap[b]?=W.heap[b]?) (out:w'.output=W.output/\w'.os=W.os/\w'.tape=W.tape/\W.drawn<=w'.drawn) :
  ∃ q os,w'=grow (W.drewN q) os:=by
 refine⟨w'.drawn-W.drawn,w'.heap.extract W.heap.size w'.heap.size,?_⟩;obtain⟨o1,o2,o3,o4⟩:=out
 cases w' with
 |mk heap tape drawn os output =>
  simp only at o1 o2 o3 o4 hs hf;unfold grow World.drewN;simp only[World.mk.injEq];refine⟨?_,o3,by omega,o2,o1⟩;apply Array.ext_getElem?;intro i;by_cases c:i<W.heap.size
  ·rw[hf i c,Array.getElem?_append_left c]
  ·rw[Array.getElem?_append_right (by omega),Array.getElem?_extract];by_cases c2:i<heap.size
   ·rw[if_pos (by omega)];congr 1;omega
   ·rw[if_neg (by omega),Array.getElem?_eq_none (by omega)]
variable {α:Type} [Inhabited α]
theorem vX {bO:α->List Value}{k:Nat} (hk:∀ x,(bO x).length=k) {enc:α->Value} (he:∀ x,enc x=.agg ⟨bO x⟩) (d:Array α) {i:Nat} (hi:i<d.size*k):(flatC (d.toList.map enc))[i]?=some (flatK bO k d)[i]! := by
 have k0:0<k:=by
   rcases Nat.eq_zero_or_pos k with e|e;· subst e;simp at hi
   ·exact e
 have hq:i/k<d.size:=Nat.div_lt_of_lt_mul (by rw[Nat.mul_comm];exact hi)
 have hz:∀ x:α,(cl (enc x)).length=k:=fun x=>by rw[he];exact hk x
 have hx:d.toList[i/k]?=some d[i/k]! := by
  rw[Array.getElem?_toList,Array.getElem?_eq_getElem hq,getElem!_pos d _ hq]
 have hm:i%k<k:=Nat.mod_lt _ k0
 have hv:(cl (enc d[i/k]!))[i%k]?=some (bO d[i/k]!)[i%k]! := by
  rw[he]
  show (bO d[i/k]!)[i%k]?=_
  have hl:=hk d[i/k]!;rw[List.getElem?_eq_getElem (by omega),getElem!_pos (bO d[i/k]!) _ (by omega)]
 have:=fA (enc:=enc) hz hx hv;rw[Go.Sort.get_flatK _ _ _ _ hi,<- this];congr 1;have:=Nat.div_add_mod i k;rw[Nat.mul_comm] at this;omega
variable {ι:Inj} {w:World} {g:Nat} {l:Loc} {bO:α->List Value} {k:Nat} {enc:α->Value} {d0:Array α}
theorem Dv (H:HRel N ι h w) (e:ι g=some l) (hg:h.get g=some (.cells (flatC (d0.toList.map enc)) false)) (hk:∀ x,(bO x).length=k) (he:∀ x,enc x=.agg ⟨bO x⟩) (hf:∀ x,∀ v∈bO x,jm v=true):HoldsK bO k w l.blk l.base d0:=by
 obtain⟨C,ty,fr,h1,h2,h3,h4,h5⟩:=H.obj g l _ e hg;intro j hj;rw[Go.Sort.size_flatK] at hj;have q:=vX hk he d0 hj;obtain⟨v',e1,r⟩:=h5 j _ q
 have hfl:jm (flatK bO k d0)[j]! = true:=by
  have k0:0<k:=by
   rcases Nat.eq_zero_or_pos k with e|e;· subst e;simp at hj
   ·exact e
  rw[Go.Sort.get_flatK _ _ _ _ hj];refine hf d0[j/k]! _ ?_;rw[getElem!_pos (bO d0[j/k]!) _ (by rw[hk];exact Nat.mod_lt _ k0)];exact List.getElem_mem _
 have:=r.nE hfl;subst this;have hfr:=h2 rfl;subst hfr;constructor
 ·unfold World.cell?;rw[h1];exact e1
 ·unfold World.frozen?;rw[h1];simp
theorem wy (H:HRel N ι h w) (e:ι g=some l) (hg:h.get g=some (.cells (flatC (d0.toList.map enc)) false)) (hk:∀ x,(bO x).length=k) (he:∀ x,enc x=.agg ⟨bO x⟩) (hf:∀ x,∀ v∈bO x,jm v=true) (m:Nat) (os:Array Obj) {dk:Array α} (hs:dk.size=d0.size) :
  HRel N ι (h.upd g (.cells (flatC (dk.toList.map enc)) false)) (sortWorldK bO k w l.blk l.base m dk os)/\Step ι h w ι (h.upd g (.cells (flatC (dk.toList.map enc)) false)) (sortWorldK bO k w l.blk l.base m dk os):=by
 obtain⟨C,ty,fr,h1,h2,h3,h4,h5⟩:=H.obj g l _ e hg
 have hz:∀ x:α,(cl (enc x)).length=k:=fun x=>by rw[he];exact hk x
 have len0:(flatC (d0.toList.map enc)).length=d0.size*k:=by rw[aX hz,Array.length_toList]
 have lenk:(flatC (dk.toList.map enc)).length=d0.size*k:=by rw[aX hz,Array.length_toList,hs]
 have w1:HRel N ι (h.upd g (.cells (flatC (dk.toList.map enc)) false)) (putRowK bO k (Sort.ahead w m) l.blk l.base dk)/\Step ι h w ι (h.upd g (.cells (flatC (dk.toList.map enc)) false)) (putRowK bO k (Sort.ahead w m) l.blk l.base dk):=by
  have hother:∀ b,b≠l.blk->(putRowK bO k (Sort.ahead w m) l.blk l.base dk).heap[b]?=w.heap[b]?:=by
   intro b hb;unfold putRowK Sort.putRow Sort.mapBlock Sort.ahead;simp only[Array.getElem?_modify];rw[if_neg (fun q=>hb q.symm)]
  refine HRel.write H e ⟨_,hg,rfl⟩ (by unfold putRowK Sort.putRow Sort.mapBlock Sort.ahead;simp) hother ?_ ⟨rfl,rfl,rfl,Nat.le_add_right _ _⟩
  have hb:(putRowK bO k (Sort.ahead w m) l.blk l.base dk).heap[l.blk]?=some (.cells (Sort.putCells id l.base (flatK bO k dk) C) ty fr):=by
   unfold putRowK Sort.putRow Sort.mapBlock Sort.ahead;simp only[Array.getElem?_modify,if_true,h1,Option.map_some];rfl
  refine⟨Sort.putCells id l.base (flatK bO k dk) C,ty,fr,hb,h2,by simp[Sort.putCells,h3],by simp[Sort.putCells,lenk];rw[len0] at h4;omega,fun i v q=>?_⟩
  have hi:i<d0.size*k:=by rw[<- lenk];exact (List.getElem?_eq_some_iff.1 q).1
  have q2:=vX hk he dk (by rw[hs];exact hi);rw[q] at q2;have q3:=Option.some.inj q2;subst q3;refine⟨(flatK bO k dk)[i]!,?_,VRel.jK ?_⟩
  ·have hC:l.base+i<C.size:=by rw[len0] at h4;omega
   simp only[Sort.putCells,Array.getElem?_mapIdx,Array.getElem?_eq_getElem hC,Option.map_some];rw[if_pos ⟨Nat.le_add_right _ _,by rw[Sort.size_flatK,hs];omega⟩,Nat.add_sub_cancel_left];rfl
  ·have k0:0<k:=by
    rcases Nat.eq_zero_or_pos k with e|e;· subst e;simp at hi
    ·exact e
   rw[Sort.get_flatK _ _ _ _ (by rw[hs];exact hi)];refine hf dk[i/k]! _ ?_;rw[getElem!_pos (bO dk[i/k]!) _ (by rw[hk];exact Nat.mod_lt _ k0)];exact List.getElem_mem _
 have hgrow:∀ b,b<(putRowK bO k (Sort.ahead w m) l.blk l.base dk).heap.size->(sortWorldK bO k w l.blk l.base m dk os).heap[b]?=(putRowK bO k (Sort.ahead w m) l.blk l.base dk).heap[b]?:=by
  intro b hb;unfold sortWorldK grow;exact Array.getElem?_append_left hb
 have hsz:(putRowK bO k (Sort.ahead w m) l.blk l.base dk).heap.size<=(sortWorldK bO k w l.blk l.base m dk os).heap.size:=by
  unfold sortWorldK grow;simp
 exact⟨w1.1.grow hsz hgrow,w1.2.trans (Step.grow w1.1.dom hsz hgrow ⟨rfl,rfl,rfl,Nat.le_refl _⟩)⟩
theorem EX {gc:FuncId}{cf:α->α->Int} (H:HRel N ι h w) (e:ι g=some l) (hg:h.get g=some (.cells (flatC (d0.toList.map enc)) false)) (hk:∀ x,(bO x).length=k) (he:∀ x,enc x=.agg ⟨bO x⟩) (hf:∀ x,∀ v∈bO x,jm v=true)
  (hB:∀ o∈B,o.fz=o) (hb:HasB B h) (hgB:∀ (i:Nat) (o:AObj),B[i]?=some o->i≠g) (hc:∀ x y h2,HasB B h2->CallD P N gc ⟨[enc x,enc y]⟩ h2 (.int .i64 (cf x y)) h2)
  (eg:∀ args w,(callFunc gc args).run P w=.ok (.enter gc args) w):CmpLays P gc #[] bO k cf l.blk l.base d0.size w:=by
 intro m os dk hs x y;obtain⟨H1,_⟩:=wy H e hg hk he hf m os hs;generalize hW:sortWorldK bO k w l.blk l.base m dk os=W at H1 ⊢;generalize hh1:h.upd g (.cells (flatC (dk.toList.map enc)) false)=h1 at H1
 have hb1:HasB B h1:=fun i o q=>by
  rw[<- hh1,Heap.bF _ _ _ _ (H.dom g l e),if_neg (hgB i o q)];exact hb i o q
 have Fz:=yn h1
 have hb2:HasB B (jo h1 h1.size):=fun i o q=>by
  rw[Fz.get,if_pos (Nat.zero_le _),hb1 i o q]
  show some o.fz=_
  rw[hB o (List.mem_of_getElem? q)]
 obtain⟨ι2,H2,fs⟩:=H1.jo h1.size
 have nomut:∀ g,¬ (jo h1 h1.size).mut g:=fun g ⟨o,e,m⟩=>by
  rw[Fz.get,if_pos (Nat.zero_le _)] at e
  cases q:h1.get g with
  |none=>simp[q] at e
  |some o' =>
   rw[q] at e;simp only[Option.map_some,Option.some.injEq] at e;subst e;rw[AObj.Ga] at m;cases m
 have ra:bm ι2 ⟨[enc x,enc y]⟩ ⟨[enc x,enc y]⟩:=by
  have agg:∀ x,VRel ι2 (enc x) (enc x):=fun x=>by
   rw[he];refine .agg _ _ rfl fun i=>?_;by_cases c:i<(bO x).length
   ·refine VRel.jK ?_;simp only[Array.getD_eq_getD_getElem?,List.getElem?_toArray,List.getElem?_eq_getElem c,Option.getD_some];exact hf x _ (List.getElem_mem _)
   ·simp only[Array.getD_eq_getD_getElem?,List.getElem?_toArray,List.getElem?_eq_none (Nat.le_of_not_lt c),Option.getD_none];exact VRel.nothing _
  refine⟨rfl,fun i=>?_⟩
  match i with
  |0=>exact agg x
  |1=>exact agg y
  |i+2=>exact VRel.nothing _
 have args:(#[.agg (bO x).toArray,.agg (bO y).toArray] ++ #[]:Array Value)=⟨[enc x,enc y]⟩:=by rw[he,he];rfl
 rw[args]
 rcases (hc x y _ hb2).2 ι2 W _ H2 ra with⟨_,hcl⟩|⟨v',e1,_⟩
 ·refine hcl.mono fun e' w' q=>?_;obtain⟨ι',v',rfl,r',_,S⟩:=q;rw[r'.nE rfl];refine⟨rfl,?_⟩;exact vK S.wsize (fun b hb=>S.frame b hb fun g l _ m=>absurd m (nomut g)) S.out
 ·rw[eg] at e1;cases e1
theorem At.self {p:Slot}{L:List Slot}{f:Slot->List Slot} (a:At p L f):f p=L:=by
 induction a with
 |head L=>rfl
 |tail r _ ih=>simp only[ih]
theorem Gn {ι:Inj}{gc:FuncId}{v:Value} (r:VRel ι (.func (.func gc) #[] #[]) v):v=.func (.func gc) #[] #[]:=by
 cases r with
 |func _ _ _ a' b' h1 h2=>rw[Array.eq_empty_of_size_eq_zero h1.symm,Array.eq_empty_of_size_eq_zero h2.symm]
theorem Own.JG {ρ:Go.Shelf.Ren} (S:Go.Proofs.SlLaysF0.n6 P ρ) {gc:FuncId}{cf:α->α->Int} (aE:∀ w,(isAgg (ρ.t 24)).run P w=.ok true w) (zE:∀ w,(Go.sizeOf (ρ.t 24)).run P w=.ok k w) (hk:∀ x,(bO x).length=k) (he:∀ x,enc x=.agg ⟨bO x⟩) (hf:∀ x,∀ v∈bO x,jm v=true) (h1c:∀ x,∀ v∈bO x,v.oneCell'=true)
  (hO:Go.Sort.SWO (ltOf cf)) (fok:fnOk P (ρ.f 6)=true) (eg:∀ args w,(callFunc gc args).run P w=.ok (.enter gc args) w) (hB:∀ o∈B,o.fz=o) (hc:∀ x y h2,HasB B h2->CallD P N gc ⟨[enc x,enc y]⟩ h2 (.int .i64 (cf x y)) h2)
  {la:List α} {f:Slot->List Slot} {sp:Option Nat} {cap:Nat} (O:Own B h0 L h) (A:At (some g,.cells (flatC (la.map enc)) false) L f) (hsz:la.length<4611686018427387904) (hpos:0<la.length) :
  ∃ (l':List α) (h':Heap),l'.Perm la/\l'.Pairwise (fun a b=>¬ cf b a<0)/\CallD P N (ρ.f 6) ⟨[.slice (some ⟨g,0,sp⟩) la.length cap,.func (.func gc) #[] #[]]⟩ h (.tuple #[]) h'/\Own B h0 (f (some g,.cells (flatC (l'.map enc)) false)) h':=by
 have hg:=O.at A.mem;have hgs:=(O.get g _ A.mem).1;have hps:=Go.Sort.pdq_sorts (ltOf cf) hO la.toArray 0 la.toArray.size (Lib.bitLen la.toArray.size) true true (Nat.zero_le _) (Nat.le_refl _) (Or.inl rfl);generalize hd':Go.Sort.pdq (ltOf cf) la.toArray 0 la.toArray.size (Lib.bitLen la.toArray.size) true true=d' at hps
 have hperm:d'.toList.Perm la:=by
  have h3:=hps.1.2.2
  have e1:d'.extract 0 la.toArray.size=d':=by rw[<- hps.1.1];simp
  have e2:la.toArray.extract 0 la.toArray.size=la.toArray:=by simp
  rw[e1,e2] at h3;simpa using h3
 have hsort:d'.toList.Pairwise (fun a b=>¬ cf b a<0):=by
  rw[List.pairwise_iff_getElem];intro i j hi hj hij
  have hj':j<d'.size:=by simpa using hj
  have h1:=hps.2 i j (Nat.zero_le _) hij (by rw[<- hps.1.1];exact hj');unfold Go.Proofs.ltOf at h1;have h2:=of_decide_eq_false h1;rw[getElem!_pos d' j hj',getElem!_pos d' i (by omega)] at h2;simpa using h2
 have hgB:∀ (i:Nat) (o:AObj),B[i]?=some o->i≠g:=fun i o q e=>by
  subst e;have:=Heap.ag (O.base i o q);omega
 refine⟨d'.toList,h.upd g (.cells (flatC (d'.toList.map enc)) false),hperm,hsort,⟨Nat.le_of_eq (Upd.upd (h:=h) (g:=g) _ (Heap.ag hg)).size.symm,fun ι w vs' H ra=>?_⟩,O.upd A (Upd.upd _ (Heap.ag hg))⟩
 have hg2:h.get g=some (.cells (flatC (la.toArray.toList.map enc)) false):=by simpa using hg
 obtain⟨vl⟩:=vs'
 obtain⟨s',f',rfl⟩:∃ s' f',vl=[s',f']:=by
  have:=ra.1
  match vl,this with
  |[a,b],_=>exact⟨a,b,rfl⟩
 have r0:=ra.2 0;have r1:=ra.2 1;replace r0:VRel ι (.slice (some ⟨g,0,sp⟩) la.length cap) s':=r0;replace r1:VRel ι (.func (.func gc) #[] #[]) f':=r1;have:=Gn r1;subst this
 have key:∀ (l:Loc) (c:Nat),ι g=some l->fnOk P (ρ.f 6)=true/\Calls P (ρ.f 6) ⟨[.slice (some ⟨l.blk,l.base,none⟩) la.length c,.func (.func gc) #[] #[]]⟩ w fun e w'=>∃ ι' v',e=.returned v'/\VRel ι' (.tuple #[]) v'/\HRel N ι' (h.upd g (.cells (flatC (d'.toList.map enc)) false)) w'/\Step ι h w ι' (h.upd g (.cells (flatC (d'.toList.map enc)) false)) w':=by
  intro l c e;refine⟨fok,?_⟩;have hH:=Dv (bO:=bO) (k:=k) (d0:=la.toArray) H e hg2 hk he hf;have hcmp:=EX (bO:=bO) (k:=k) (d0:=la.toArray) H e hg2 hk he hf hB O.has hgB hc eg;have hcon:=Go.Proofs.AnyQ.slices_SortFunc_eq S k aE zE bO hk h1c cf hO gc #[] l.blk l.base c la.toArray w eg hcmp hH (H.blk g l e) (by simpa using hsz);rw[hd'] at hcon
  have:(#[.slice (some ⟨l.blk,l.base,none⟩) la.toArray.size c,.func (.func gc) #[] #[]]:Array Value)=⟨[.slice (some ⟨l.blk,l.base,none⟩) la.length c,.func (.func gc) #[] #[]]⟩:=by simp
  rw[this] at hcon;refine hcon.mono fun e' w' q=>?_;obtain⟨rfl,n,os,rfl⟩:=q;obtain⟨k1,k2⟩:=wy (bO:=bO) (k:=k) (d0:=la.toArray) H e hg2 hk he hf n os (dk:=d') hps.1.1;exact⟨ι,_,rfl,.unit,k1,k2⟩
 cases r0 with
 |slice _ _ _ _ o l hl h1 h2 =>
  have:=h2 (by omega);rw[Nat.add_zero] at this;subst this;exact .inl (key l cap hl)
 |sliceOpen _ _ s _ _ cap' o l hl h1 h2 h3 h4 =>
  have:=h3 (by omega);rw[Nat.add_zero] at this;subst this;exact .inl (key l cap' hl)
theorem Own.JK {ρ:Go.Shelf.Ren} (S:Go.Proofs.SlLaysF0.n6 P ρ) {gc:FuncId}{cf:α->α->Int} (aE:∀ w,(isAgg (ρ.t 24)).run P w=.ok true w) (zE:∀ w,(Go.sizeOf (ρ.t 24)).run P w=.ok k w) (hk:∀ x,(bO x).length=k) (he:∀ x,enc x=.agg ⟨bO x⟩) (hf:∀ x,∀ v∈bO x,jm v=true) (h1c:∀ x,∀ v∈bO x,v.oneCell'=true)
  (hO:Go.Sort.SWO (ltOf cf)) (fok:fnOk P (ρ.f 6)=true) (eg:∀ args w,(callFunc gc args).run P w=.ok (.enter gc args) w) (hB:∀ o∈B,o.fz=o) (hc:∀ x y h2,HasB B h2->CallD P N gc ⟨[enc x,enc y]⟩ h2 (.int .i64 (cf x y)) h2)
  {la:List α} {f:Slot->List Slot} {a:Option Nat} (O:Own B h0 L h) (A:At (a,.cells (flatC (la.map enc)) false) L f) (ha:a=none->la=[]) (hsz:la.length<4611686018427387904) :
  ∃ (l':List α) (h':Heap),l'.Perm la/\l'.Pairwise (fun a b=>¬ cf b a<0)/\CallD P N (ρ.f 6) ⟨[ae k a (la.map enc),.func (.func gc) #[] #[]]⟩ h (.tuple #[]) h'/\Own B h0 (f (a,.cells (flatC (l'.map enc)) false)) h':=by
 by_cases hp:0<la.length
 ·cases a with
  |none=>rw[ha rfl] at hp;exact absurd hp (Nat.lt_irrefl 0)
  |some g =>
   obtain⟨l',h',p1,p2,p3,p4⟩:=O.JG S (cf:=cf) aE zE hk he hf h1c hO fok eg hB hc A hsz hp (sp:=some k) (cap:=la.length);refine⟨l',h',p1,p2,?_,p4⟩;unfold ae;simpa using p3
 ·have e:la=[]:=List.length_eq_zero_iff.1 (by omega);subst e;refine⟨[],h,.nil,.nil,⟨Nat.le_refl _,fun ι w vs' H ra=>.inl ⟨fok,?_⟩⟩,?_⟩
  ·obtain⟨vl⟩:=vs'
   obtain⟨s',f',rfl⟩:∃ s' f',vl=[s',f']:=by
    have:=ra.1
    match vl,this with
    |[a,b],_=>exact⟨a,b,rfl⟩
   have r0:VRel ι (ae k a []) s':=ra.2 0
   have:∃ p c,s'=.slice p 0 c:=by
    cases a with
    |none=>cases r0;exact⟨_,_,rfl⟩
    |some g=>cases r0 <;> exact⟨_,_,rfl⟩
   obtain⟨p,c,rfl⟩:=this;exact (Go.Proofs.AnyF.slices_SortFunc_none S p c f' w).mono fun e' w' q=>⟨ι,_,q.1,.unit,q.2 ▸ H,q.2 ▸ Step.refl w H.dom⟩
  ·have:=A.self;rw[this];exact O
end
end Go.Abs
