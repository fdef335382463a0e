/-
  AbsXx: parts of the proof.
-/
import Derived.Test.YtfhldkgelipnaaaGreatDoorLc47
namespace Go.Abs
section
variable {P:Program} {N:Nat} {B:List AObj} {h0 h:Heap} {L:List Slot}
theorem Own.useX {f:FuncId}{l l':List Value}{K:Value→Heap→Prop} (O:Own B h0 L h) {g:Nat}{cs:List Value}{ro:Bool}{fL:Slot→List Slot} (A:At (some g,.cells cs ro) L fL) {i off n cap:Nat}{sp:Option Nat}
  (hi:l'[i]?=some (.slice (some ⟨g,off,sp⟩) n cap)) (fok:fnOk P f=true) (a:∀ h2,h2.get g=some (.cells cs true)→LLe h2 l' l) (F:∀ h2,Own B h0 (fL (some g,.cells cs true)) h2→∃ v h',CallD P N f ⟨l⟩ h2 v h'∧K v h') :
  ∃ v h',CallD P N f ⟨l'⟩ h v h'∧K v h':=by
 have hg:=O.at A.mem
 have u:=Upd.upd (.cells cs true) (Heap.lt_of_get hg)
 have O1:=O.upd A u
 obtain⟨v,h',c,hk⟩:=F _ O1
 refine⟨v,h',⟨by have:=c.1;rw[u.size] at this;exact this,fun ι w vs' H ra=>?_⟩,hk⟩
 have hmap:∃ l0,ι g=some l0:=by
  have:=ra.2 i
  rw[← getD_list] at this
  simp only[List.getD,hi,Option.getD_some] at this
  generalize vs'.getD i undef=y at this
  cases this with
  |slice _ _ _ _ _ l0 q=>exact⟨l0,q⟩
  |sliceOpen _ _ _ _ _ _ _ l0 q=>exact⟨l0,q⟩
 obtain⟨l0,hl0⟩:=hmap
 obtain⟨ι2,H2,S2⟩:=freezeStep H hl0 hg
 have ra2:ARel ι2 ⟨l⟩ vs':=(a _ u.get).arel H2 (ra.mono S2.ext)
 rcases c.2 ι2 w vs' H2 ra2 with⟨ok,hc⟩|⟨v',e1,e2,_⟩
 ·refine .inl ⟨ok,hc.mono fun e' w' q=>?_⟩
  obtain⟨ι',v',rfl,r',H',S⟩:=q
  exact⟨ι',v',rfl,r',H',S2.trans S⟩
 ·exfalso
  have:=run_callFunc (w:=w) fok vs'
  rw[this] at e1
  cases e1
theorem Own.useXL {α:Type}{enc':α→Value}{la:List α}{s g n cap:Nat}{sp:Option Nat}{f:FuncId}{l l':List Value}{K:Value→Heap→Prop} (O:Own B h0 L h) {ro:Bool}{fL:Slot→List Slot} (A:At (some g,.cells (flatC (la.map enc')) ro) L fL) (hn:n=la.length) (hs:∀ x:α,(cl (enc' x)).length=s) {i:Nat}
  (hi:l'[i]?=some (.slice (some ⟨g,0,sp⟩) n cap)) (fok:fnOk P f=true) (le:∀ h2,VLe h2 (.slice (some ⟨g,0,sp⟩) n cap) (encL s enc' la)→LLe h2 l' l) (F:∀ h2,Own B h0 (fL (some g,.cells (flatC (la.map enc')) true)) h2→∃ v h',CallD P N f ⟨l⟩ h2 v h'∧K v h') :
  ∃ v h',CallD P N f ⟨l'⟩ h v h'∧K v h':=by
 refine O.useX A hi fok (fun h2 hg=>le h2 ?_) F
 refine VLe.fl hg (by rw[List.length_map];exact hn) (map_size hs la) (by rw[flat_len hs,hn];omega) ?_
 rw[List.drop_zero,hn,← List.length_map (f:=enc'),← flatC_length (map_size hs la),List.take_length]
 exact LLe.refl _ _
end
section
variable {α:Type} {enc:α→Value} {s:Nat} {l:List α} {j:Nat} {x:α}
theorem el_part (hs:∀ x:α,(cl (enc x)).length=s) (hx:l[j]?=some x) {k n:Nat} (hk:k+n≤s):((flatC (l.map enc)).drop (0+j*s+k)).take n=((cl (enc x)).drop k).take n:=by
 have h1:=el_map hs hx
 rw[← h1,List.drop_take,List.take_take,List.drop_drop]
 congr 1
 omega
end
section
variable {P:Program} {ρ:Operand→Value} {d:Option Tmp} {ty:TypeId} {pos:String} {af:Array Edge} {gd:Option (Nat×Bool)} {h:Heap}
theorem ldP {α:Type}{enc:α→Value}{l:List α}{x:α}{j:Nat}{t:TypeId}{a:Operand}{g:Nat}{ro:Bool}{K:Value→Prop}{s i n:Nat}{lv:List Value} (hg:h.get g=some (.cells (flatC (l.map enc)) ro)) (hx:l[j]?=some x) (k:K (.agg ⟨lv⟩))
  (ha:ρ a=.pointer (some ⟨g,0+j*s+i,none⟩):=by exact rfl) (ht:aggOf P t=some true:=by exact rfl) (hn:szOf P t=some n:=by exact rfl) (hle:Nat.ble (i+n) s=true:=by exact rfl) (hs:∀ x:α,(cl (enc x)).length=s:=by exact fun _=>rfl) (hv:((cl (enc x)).drop i).take n=lv:=by exact rfl) :
  ∃ v,aread P ρ { dst:=d,op:=.load t a,type:=ty,pos:=pos,after:=af,guard:=gd } h=some v∧K v :=
 ⟨_,loadAggK ha hg ht hn (el_le hs (lt_of_get hx) (Nat.le_of_ble_eq_true hle)) ((el_part hs hx (Nat.le_of_ble_eq_true hle)).trans hv),k⟩
end
theorem Own.tailRo {α:Type}{B:List AObj}{h0 h:Heap}{L:List Slot}{s k:Nat}{a:Option Nat}{enc:α→Value}{l:List α} (O:Own B h0 L h) (m:(a,.cells (flatC (l.map enc)) true)∈L) (ha:a=none→l=[]) (hs:∀ x:α,(cl (enc x)).length=s) (hk:k≤l.length):VLe h (tailV s a (0+k*s) ((l.drop k).map enc)) (encL s enc (l.drop k)):=by
 cases a with
 |none =>
  have:=ha rfl
  subst this
  simp only[List.drop_nil,List.map_nil]
  exact VLe.nil _ _
 |some g =>
  have hl:=flat_len hs l
  have hz:k*s≤l.length*s:=Nat.mul_le_mul_right _ hk
  refine VLe.fl (O.at m) rfl (map_size hs _) ?_ ?_
  ·rw[List.length_map,List.length_drop,hl,Nat.sub_mul];omega
  ·have e:(flatC (l.map enc)).drop (0+k*s)=flatC ((l.drop k).map enc):=by
    rw[Nat.zero_add,List.map_drop]
    exact (drop_flatC (map_size hs l) k).symm
   rw[e,← flatC_length (map_size hs (l.drop k)),List.take_length]
   exact LLe.refl _ _
section
variable {P:Program} {N:Nat} {ρ:Operand→Value} {d:Option Tmp} {ty:TypeId} {pos:String} {af:Array Edge} {gd:Option (Nat×Bool)} {h:Heap} {α:Type} {s:Nat} {enc:α→Value} {l:List α}
end
structure ValOk {R:Type} (val:R→Option Nat→Value):Prop where
 ren:∀ r (ι ι':Inj) g g' l v',ι g=some l→ι' g'=some l→VRel ι (val r (some g)) v'→VRel ι' (val r (some g')) v'
 none:∀ r (ι ι':Inj) v',VRel ι (val r none) v'→VRel ι' (val r none) v'
 at_:∀ r (ι:Inj) g v',VRel ι (val r (some g)) v'→∃ l,ι g=some l
theorem ValOk.clip {R:Type}{α:Type}{enc:α→Value} (pr:R→List α):ValOk fun r a=>clipV a ((pr r).map enc) where
 ren r ι ι' g g' l v' e e' q:=by
  cases q with
  |slice _ _ _ _ o l0 hl h1 h2=>rw[hl] at e;cases e;exact .slice _ _ _ _ o l e' h1 h2
 none r ι ι' v' q:=by
  cases h:(pr r).map enc with
  |nil=>rw[h] at q;cases q;exact .sliceNil
  |cons x xs=>rw[h] at q;cases q
 at_ r ι g v' q:=by cases q with|slice _ _ _ _ o l0 hl h1 h2=>exact⟨l0,hl⟩
theorem ValOk.tup {R:Type}{val:R→Option Nat→Value} (o:ValOk val) (ys:R→List Value) (hy:∀ r,(ys r).all flatV=true):ValOk fun r a=>.tuple ⟨val r a::ys r⟩ where
 ren r ι ι' g g' l v' e e' q:=by
  cases q with
  |tuple _ b h1 h2 =>
   refine .tuple _ b h1 fun i=>?_
   cases i with
   |zero=>exact o.ren r ι ι' g g' l _ e e' (h2 0)
   |succ i =>
    have q2:=h2 (i+1)
    have e1:∀ v:Value,(⟨v::ys r⟩:Array Value).getD (i+1) undef=(ys r).getD i undef:=fun v=>by rw[← getD_list];rfl
    rw[e1] at q2 ⊢
    by_cases c:i<(ys r).length
    ·have hf:flatV ((ys r).getD i undef)=true:=by
      rw[List.getD,List.getElem?_eq_getElem c];exact List.all_eq_true.1 (hy r) _ (List.getElem_mem c)
     rw[q2.flat_eq hf];exact VRel.flat_refl hf
    ·have hs:b.size=(ys r).length+1:=h1.symm
     have e2:b.getD (i+1) undef=undef:=by rw[Array.getD_eq_getD_getElem?,Array.getElem?_eq_none (by omega)];rfl
     have e3:(ys r).getD i undef=undef:=by rw[List.getD,List.getElem?_eq_none (by omega)];rfl
     rw[e2,e3];exact VRel.nothing _
 none r ι ι' v' q:=by
  cases q with
  |tuple _ b h1 h2 =>
   refine .tuple _ b h1 fun i=>?_
   cases i with
   |zero=>exact o.none r ι ι' _ (h2 0)
   |succ i =>
    have q2:=h2 (i+1)
    have e1:∀ v:Value,(⟨v::ys r⟩:Array Value).getD (i+1) undef=(ys r).getD i undef:=fun v=>by rw[← getD_list];rfl
    rw[e1] at q2 ⊢
    by_cases c:i<(ys r).length
    ·have hf:flatV ((ys r).getD i undef)=true:=by
      rw[List.getD,List.getElem?_eq_getElem c];exact List.all_eq_true.1 (hy r) _ (List.getElem_mem c)
     rw[q2.flat_eq hf];exact VRel.flat_refl hf
    ·have hs:b.size=(ys r).length+1:=h1.symm
     have e2:b.getD (i+1) undef=undef:=by rw[Array.getD_eq_getD_getElem?,Array.getElem?_eq_none (by omega)];rfl
     have e3:(ys r).getD i undef=undef:=by rw[List.getD,List.getElem?_eq_none (by omega)];rfl
     rw[e2,e3];exact VRel.nothing _
 at_ r ι g v' q:=by
  cases q with
  |tuple _ b h1 h2=>exact o.at_ r ι g _ (h2 0)
section
variable {P:Program} {N:Nat} {B:List AObj} {h0 h:Heap} {L:List Slot}
theorem CallD.useBO {f:FuncId}{l l':List Value}{R α:Type}{K:R→Prop}{val:R→Option Nat→Value}{pr:R→List α}{enc:α→Value}{nn:Bool}{Q:Value→Heap→Prop} (F:∀ h2,HasB B h2→∃ v h',CallD P N f ⟨l⟩ h2 v h'∧OwnRes B h2 K val pr enc nn v h')
  (hv:ValOk val) (hfl:∀ x,(cl (enc x)).all flatV=true) (hB:∀ o∈B,o.fz=o) (O:Own B h0 L h) (a:∀ h2,Frozen 0 h h2→LLe h2 l' l) (fok:fnOk P f=true)
  (k:∀ r a h1,Ext h h1→(a=none→pr r=[])→(nn=true→pr r=[]→a=none)→Own B h0 ((a,.cells (flatC ((pr r).map enc)) false)::L) h1→K r→Q (val r a) h1):∃ v h',CallD P N f ⟨l'⟩ h v h'∧Q v h':=by
 have Fz:=frzTo_frozen h
 have hb2:HasB B (frzTo h h.size):=fun i o q=>by
  rw[Fz.get,if_pos (Nat.zero_le _),O.has i o q]
  show some o.fz=_
  rw[hB o (List.mem_of_getElem? q)]
 obtain⟨v,h',c,r,a1,hK,le,z1,z2,O1⟩:=F _ hb2
 have nomut:∀ g,¬ (frzTo h h.size).mut g:=fun g ⟨o,e,m⟩=>by
  rw[Fz.get,if_pos (Nat.zero_le _)] at e
  cases q:h.get g with
  |none=>simp[q] at e
  |some o' =>
   rw[q] at e
   simp only[Option.map_some,Option.some.injEq] at e
   subst e
   rw[AObj.fz_mut] at m;cases m
 cases a1 with
 |none =>
  refine⟨val r none,h,⟨Nat.le_refl _,fun ι w vs' H ra=>?_⟩,k r none h (Ext.refl h) z1 z2 (O.addNil _) hK⟩
  obtain⟨ι2,H2,fs⟩:=H.frzTo h.size
  rcases c.2 ι2 w vs' H2 ((a _ Fz).arel H2 (ra.mono fs.le)) with⟨ok,hc⟩|⟨v',e1,e2,_⟩
  ·refine .inl ⟨ok,hc.mono fun e' w' q=>?_⟩
   obtain⟨ι',v',rfl,r',H',S⟩:=q
   have hf:∀ b,b<w.heap.size→w'.heap[b]?=w.heap[b]?:=fun b hb=>S.frame b hb fun g l _ m=>absurd m (nomut g)
   exact⟨ι,v',rfl,hv.none r ι' ι v' (le _ _ _ _ H' r'),H.grow S.wsize hf,Step.grow H.dom S.wsize hf S.out⟩
  ·exfalso
   have:=run_callFunc (w:=w) fok vs'
   rw[this] at e1
   cases e1
 |some g1 =>
  have hg1:=O1.get g1 _ (.head _)
  refine⟨val r (some h.size),h.push (.cells (flatC ((pr r).map enc)) false),⟨Nat.le_succ _,fun ι w vs' H ra=>?_⟩,k r (some h.size) _ (New.push h _).ext (fun e=>by cases e) (fun n e=>by have:=z2 n e;cases this) (O.push (New.push h _)) hK⟩
  obtain⟨ι2,H2,fs⟩:=H.frzTo h.size
  rcases c.2 ι2 w vs' H2 ((a _ Fz).arel H2 (ra.mono fs.le)) with⟨ok,hc⟩|⟨v',e1,e2,_⟩
  ·refine .inl ⟨ok,hc.mono fun e' w' q=>?_⟩
   obtain⟨ι',v',rfl,r',H',S⟩:=q
   have hf:∀ b,b<w.heap.size→w'.heap[b]?=w.heap[b]?:=fun b hb=>S.frame b hb fun g l _ m=>absurd m (nomut g)
   have rv:=le _ _ _ _ H' r'
   obtain⟨l1,hl1⟩:=hv.at_ r ι' g1 v' rv
   have hnew:ι2 g1=none:=by
    cases q:ι2 g1 with
    |none=>rfl
    |some l2=>have:=S.dom g1 l2 q;omega
   have hblk:w.heap.size≤l1.blk:=by
    rcases S.own g1 l1 hl1 hnew with q|⟨g2,l2,_,m,_⟩
    ·exact q
    ·exact absurd m (nomut g2)
   have hor:ORel (ι.add h.size l1) l1 (.cells (flatC ((pr r).map enc)) false) w'.heap[l1.blk]?:=by
    obtain⟨C,ty,fr,p1,p2,p3,p4,p5⟩:=H'.obj g1 l1 _ hl1 hg1.2
    refine⟨C,ty,fr,p1,p2,p3,p4,fun i u e=>?_⟩
    obtain⟨u',q1,q2⟩:=p5 i u e
    have hu:flatV u=true:=by
     have m:=List.mem_of_getElem? e
     simp only[flatC,List.mem_flatMap,List.mem_map] at m
     obtain⟨_,⟨x,_,rfl⟩,m⟩:=m
     exact List.all_eq_true.1 (hfl x) u m
    exact⟨u',q1,by rw[q2.flat_eq hu];exact VRel.flat_refl hu⟩
   obtain⟨H3,S3⟩:=H.newAt hblk (H'.blk _ _ hl1) S.wsize hf hor S.out
   exact⟨_,v',rfl,hv.ren r ι' _ g1 h.size l1 v' hl1 (by rw[Inj.add_get,if_pos rfl]) rv,H3,S3⟩
  ·exfalso
   have:=run_callFunc (w:=w) fok vs'
   rw[this] at e1
   cases e1
end
section
variable {P:Program} {ρ:Operand→Value} {d:Option Tmp} {ty:TypeId} {pos:String} {af:Array Edge} {gd:Option (Nat×Bool)}
end
end Go.Abs
