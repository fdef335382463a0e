/-
  SoI, Lg4, Lg9, Alz, Knc, Kn, Knd, Tc0, Uf, Co1, Co2, Co3, Co4, Co6, Co5, Cir12: parts of the proof.
-/
import Derived.Test.YtgiedjgdlckahaaGreatDoorTk47
import Derived.Sort.EveryDepth
import Derived.Shelf.Sort.AssemblyIn
import Derived.Shelf.Slices.In.SortNone
import Derived.Shelf.Slices.CompactI
import Derived.Test.YtgiedjgdlckahaaGreatDoorTk42b
namespace Go.Abs
open Go.Sort (putRow Holds grow)
section
variable {P:Program} {N:Nat} {B:List AObj} {h0 h:Heap} {L:List Slot}
variable {ι:Inj} {w:World} {g:Nat} {l:Loc} {la:List Int} {rest:List Value}
theorem BV (la:List Int) (rest:List Value) {i:Nat} (hi:i<la.length):(la.map (Value.int .i64)++rest)[i]?=some (Value.int .i64 la.toArray[i]!):=by
 rw[List.getElem?_append_left (by simpa using hi),List.getElem?_map,List.getElem?_eq_getElem hi];simp[hi]
theorem uA (H:HRel N ι h w) (e:ι g=some l) (hg:h.get g=some (.cells (la.map (Value.int .i64)++rest) false)):Holds (Value.int .i64) w l.blk l.base la.toArray:=by
 obtain⟨C,ty,fr,h1,h2,h3,h4,h5⟩:=H.obj g l _ e hg;intro j hj
 have hj':j<la.length:=by simpa using hj
 have q:=BV la rest hj';obtain⟨v',e1,r⟩:=h5 j _ q;have:=r.nE rfl;subst this;have hfr:=h2 rfl;subst hfr;constructor
 ·unfold World.cell?;rw[h1];exact e1
 ·unfold World.frozen?;rw[h1];simp
theorem ua (H:HRel N ι h w) (e:ι g=some l) (hg:h.get g=some (.cells (la.map (Value.int .i64)++rest) false)) (m:Nat) (os:Array Obj) {dk:List Int} (hs:dk.length=la.length) :
  HRel N ι (h.upd g (.cells (dk.map (Value.int .i64)++rest) false)) (grow (putRow (Value.int .i64) (Sort.ahead w m) l.blk l.base dk.toArray) os)/\Step ι h w ι (h.upd g (.cells (dk.map (Value.int .i64)++rest) false)) (grow (putRow (Value.int .i64) (Sort.ahead w m) l.blk l.base dk.toArray) os):=by
 obtain⟨C,ty,fr,h1,h2,h3,h4,h5⟩:=H.obj g l _ e hg
 have w1:HRel N ι (h.upd g (.cells (dk.map (Value.int .i64)++rest) false)) (putRow (Value.int .i64) (Sort.ahead w m) l.blk l.base dk.toArray)/\Step ι h w ι (h.upd g (.cells (dk.map (Value.int .i64)++rest) false)) (putRow (Value.int .i64) (Sort.ahead w m) l.blk l.base dk.toArray):=by
  have hother:∀ b,b≠l.blk->(putRow (Value.int .i64) (Sort.ahead w m) l.blk l.base dk.toArray).heap[b]?=w.heap[b]?:=by
   intro b hb;unfold Sort.putRow Sort.mapBlock Sort.ahead;simp only[Array.getElem?_modify];rw[if_neg (fun q=>hb q.symm)]
  refine HRel.write H e ⟨_,hg,rfl⟩ (by unfold Sort.putRow Sort.mapBlock Sort.ahead;simp) hother ?_ ⟨rfl,rfl,rfl,Nat.le_add_right _ _⟩
  have hb:(putRow (Value.int .i64) (Sort.ahead w m) l.blk l.base dk.toArray).heap[l.blk]?=some (.cells (Sort.putCells (Value.int .i64) l.base dk.toArray C) ty fr):=by
   unfold Sort.putRow Sort.mapBlock Sort.ahead;simp only[Array.getElem?_modify,if_true,h1,Option.map_some];rfl
  refine⟨Sort.putCells (Value.int .i64) l.base dk.toArray C,ty,fr,hb,h2,by simp[Sort.putCells,h3],by simp[Sort.putCells] at h4 ⊢;omega,fun i v q=>?_⟩;by_cases hi:i<dk.length
  ·have q2:=BV dk rest hi;rw[q] at q2;have q3:=Option.some.inj q2;subst q3;refine⟨_,?_,VRel.jK rfl⟩
   have hC:l.base+i<C.size:=by simp at h4;omega
   simp only[Sort.putCells,Array.getElem?_mapIdx,Array.getElem?_eq_getElem hC,Option.map_some];rw[if_pos ⟨Nat.le_add_right _ _,by simp;omega⟩,Nat.add_sub_cancel_left]
  ·have q2:(la.map (Value.int .i64)++rest)[i]?=some v:=by
    rw[List.getElem?_append_right (by simpa using hi)] at q;rw[List.getElem?_append_right (by simp;omega),<- q];simp[hs]
   obtain⟨v',e1,r⟩:=h5 i v q2;refine⟨v',?_,r⟩;simp only[Sort.putCells,Array.getElem?_mapIdx,e1,Option.map_some];rw[if_neg (fun q=>by have:=q.2;simp at this;omega)]
 have hgrow:∀ b,b<(putRow (Value.int .i64) (Sort.ahead w m) l.blk l.base dk.toArray).heap.size->(grow (putRow (Value.int .i64) (Sort.ahead w m) l.blk l.base dk.toArray) os).heap[b]?=(putRow (Value.int .i64) (Sort.ahead w m) l.blk l.base dk.toArray).heap[b]?:=by
  intro b hb;unfold grow;exact Array.getElem?_append_left hb
 have hsz:(putRow (Value.int .i64) (Sort.ahead w m) l.blk l.base dk.toArray).heap.size<=(grow (putRow (Value.int .i64) (Sort.ahead w m) l.blk l.base dk.toArray) os).heap.size:=by
  unfold grow;simp
 exact⟨w1.1.grow hsz hgrow,w1.2.trans (Step.grow w1.1.dom hsz hgrow ⟨rfl,rfl,rfl,Nat.le_refl _⟩)⟩
theorem At.Ie {p:Slot}{L:List Slot}{f:Slot->List Slot} (a:At p L f):f p=L:=by
 induction a with
 |head L=>rfl
 |tail r _ ih=>simp only[ih]
theorem Own.Es {ρ:Go.Shelf.Ren} (Ly:Go.Proofs.Lays.n189 P ρ) (fok:fnOk P (ρ.f 189)=true) {f:Slot->List Slot}{sp:Option Nat}{cap n:Nat} (O:Own B h0 L h) (A:At (some g,.cells (la.map (Value.int .i64)++rest) false) L f) (hn:n=la.length) (hsz:la.length<4611686018427387904) :
  ∃ (l':List Int) (h':Heap),l'.Perm la/\l'.Pairwise (· <= ·)/\CallD P N (ρ.f 189) ⟨[.slice (some ⟨g,0,sp⟩) n cap]⟩ h (.tuple #[]) h'/\Own B h0 (f (some g,.cells (l'.map (Value.int .i64)++rest) false)) h':=by
 subst hn;have hg:=O.at A.mem;have hgs:=(O.get g _ A.mem).1;by_cases hp:0<la.length
 ·have hperm:=List.mergeSort_perm la (fun x y=>decide (x<=y))
  have hsort:(la.mergeSort fun x y=>decide (x<=y)).Pairwise (· <= ·):=by
   have:=List.pairwise_mergeSort (le:=fun (x y:Int)=>decide (x<=y)) (fun a b c=>by simp;omega) (fun a b=>by simp;omega) la;exact this.imp fun h=>of_decide_eq_true h
  refine⟨_,h.upd g (.cells ((la.mergeSort fun x y=>decide (x<=y)).map (Value.int .i64)++rest) false),hperm,hsort,⟨Nat.le_of_eq (Upd.upd (h:=h) (g:=g) _ (Heap.ag hg)).size.symm,fun ι w vs' H ra=>?_⟩,O.upd A (Upd.upd _ (Heap.ag hg))⟩;obtain⟨vl⟩:=vs'
  obtain⟨s',rfl⟩:∃ s',vl=[s']:=by
   have:=ra.1
   match vl,this with
   |[a],_=>exact⟨a,rfl⟩
  have r0:=ra.2 0;replace r0:VRel ι (.slice (some ⟨g,0,sp⟩) la.length cap) s':=r0
  have key:∀ (l:Loc) (c:Nat),ι g=some l->fnOk P (ρ.f 189)=true/\Calls P (ρ.f 189) ⟨[.slice (some ⟨l.blk,l.base,none⟩) la.length c]⟩ w fun e w'=>∃ ι' v',e=.returned v'/\VRel ι' (.tuple #[]) v'/\HRel N ι' (h.upd g (.cells ((la.mergeSort fun x y=>decide (x<=y)).map (Value.int .i64)++rest) false)) w'/\Step ι h w ι' (h.upd g (.cells ((la.mergeSort fun x y=>decide (x<=y)).map (Value.int .i64)++rest) false)) w':=by
   intro l c e;refine⟨fok,?_⟩;have hcon:=Go.calls_of_every_depth fun D=>Go.Proofs.AnyS.slices_Sort_int_in Ly D l.blk l.base c la w (uA H e hg) (H.blk g l e) hsz;refine hcon.mono fun e' w' q=>?_;obtain⟨rfl,n,os,rfl⟩:=q;obtain⟨k1,k2⟩:=ua H e hg n os (dk:=la.mergeSort fun x y=>decide (x<=y)) (List.length_mergeSort la);exact⟨ι,_,rfl,.unit,k1,k2⟩
  cases r0 with
  |slice _ _ _ _ o l hl h1 h2 =>
   have:=h2 (by omega);rw[Nat.add_zero] at this;subst this;exact .inl (key l cap hl)
  |sliceOpen _ _ s _ _ cap' o l hl h1 h2 h3 h4 =>
   have:=h3 (by omega);rw[Nat.add_zero] at this;subst this;exact .inl (key l cap' hl)
 ·have e:la=[]:=List.length_eq_zero_iff.1 (by omega);subst e;refine⟨[],h,.nil,.nil,⟨Nat.le_refl _,fun ι w vs' H ra=>.inl ⟨fok,?_⟩⟩,?_⟩
  ·obtain⟨vl⟩:=vs'
   obtain⟨s',rfl⟩:∃ s',vl=[s']:=by
    have:=ra.1
    match vl,this with
    |[a],_=>exact⟨a,rfl⟩
   have r0:VRel ι (.slice (some ⟨g,0,sp⟩) 0 cap) s':=ra.2 0
   have:∃ p c,s'=.slice p 0 c:=by cases r0 <;> exact⟨_,_,rfl⟩
   obtain⟨p,c,rfl⟩:=this;exact (Go.Proofs.Any.slices_Sort_int_none Ly p c w).mono fun e' w' q=>⟨ι,_,q.1,.unit,q.2 ▸ H,q.2 ▸ Step.refl w H.dom⟩
  ·have:=A.Ie;rw[this];exact O
theorem vh (zs:List Int):(Go.Lib.compact zs).length<=zs.length:=by
 unfold Go.Lib.compact Go.Lib.compactUpTo;rw[List.length_map];exact Nat.le_trans (List.length_filter_le _ _) (by rw[List.length_range];exact Nat.le_refl _)
theorem Own.E6 {ρ:Go.Shelf.Ren} (Ly:Go.Proofs.Lays2.n20 P ρ) (fok:fnOk P (ρ.f 20)=true) {f:Slot->List Slot}{sp:Option Nat}{cap n:Nat} (O:Own B h0 L h) (A:At (some g,.cells (la.map (Value.int .i64)++rest) false) L f) (hn:n=la.length) (hsz:la.length<4611686018427387904) :
  ∃ (z:List Int) (h':Heap),CallD P N (ρ.f 20) ⟨[.slice (some ⟨g,0,sp⟩) n cap]⟩ h (.slice (some ⟨g,0,sp⟩) (Go.Lib.compact la).length cap) h'/\Own B h0 (f (some g,.cells ((Go.Lib.compact la++z).map (Value.int .i64)++rest) false)) h':=by
 subst hn;have hg:=O.at A.mem;have hgs:=(O.get g _ A.mem).1;have hcl:=vh la;by_cases hp:0<la.length
 ·refine⟨List.replicate (la.length-(Go.Lib.compact la).length) 0,h.upd g (.cells ((Go.Lib.compact la++List.replicate (la.length-(Go.Lib.compact la).length) 0).map (Value.int .i64)++rest) false),⟨Nat.le_of_eq (Upd.upd (h:=h) (g:=g) _ (Heap.ag hg)).size.symm,fun ι w vs' H ra=>?_⟩,O.upd A (Upd.upd _ (Heap.ag hg))⟩;obtain⟨vl⟩:=vs'
  obtain⟨s',rfl⟩:∃ s',vl=[s']:=by
   have:=ra.1
   match vl,this with
   |[a],_=>exact⟨a,rfl⟩
  have r0:=ra.2 0;replace r0:VRel ι (.slice (some ⟨g,0,sp⟩) la.length cap) s':=r0
  have key:∀ (l:Loc) (c:Nat),ι g=some l->la.length<=c->VRel ι (.slice (some ⟨g,0,sp⟩) (Go.Lib.compact la).length cap) (.slice (some ⟨l.blk,l.base,none⟩) (Go.Lib.compact la).length c)->fnOk P (ρ.f 20)=true/\Calls P (ρ.f 20) ⟨[.slice (some ⟨l.blk,l.base,none⟩) la.length c]⟩ w fun e w'=>∃ ι' v',e=.returned v'/\VRel ι' (.slice (some ⟨g,0,sp⟩) (Go.Lib.compact la).length cap) v'/\HRel N ι' (h.upd g (.cells ((Go.Lib.compact la++List.replicate (la.length-(Go.Lib.compact la).length) 0).map (Value.int .i64)++rest) false)) w'/\Step ι h w ι' (h.upd g (.cells ((Go.Lib.compact la++List.replicate (la.length-(Go.Lib.compact la).length) 0).map (Value.int .i64)++rest) false)) w':=by
   intro l c e hc hv;refine⟨fok,?_⟩;refine (Go.Proofs.Any.slices_Compact_int Ly l.blk l.base c la w (uA H e hg) (by omega) hc).mono fun e' w' q=>?_;obtain⟨rfl,n,rfl⟩:=q;obtain⟨k1,k2⟩:=ua H e hg n #[] (dk:=Go.Lib.compact la++List.replicate (la.length-(Go.Lib.compact la).length) 0) (by rw[List.length_append,List.length_replicate];omega);rw[Go.Sort.grow_empty] at k1 k2;exact⟨ι,_,rfl,hv,k1,k2⟩
  cases r0 with
  |slice _ _ _ _ o l hl h1 h2 =>
   have:=h2 (by omega);rw[Nat.add_zero] at this;subst this;exact .inl (key l cap hl h1 (.slice g 0 _ cap l.base l hl (by omega) fun _=>rfl))
  |sliceOpen _ _ s _ _ cap' o l hl h1 h2 h3 h4 =>
   have:=h3 (by omega);rw[Nat.add_zero] at this;subst this;exact .inl (key l cap' hl (by omega) (.sliceOpen g 0 s _ cap cap' l.base l hl (by omega) h2 (fun _=>rfl) h4))
 ·have e:la=[]:=List.length_eq_zero_iff.1 (by omega);subst e;have e0:Go.Lib.compact ([]:List Int)=[]:=List.length_eq_zero_iff.1 (by rw[List.length_nil] at hcl;omega);rw[e0];refine⟨[],h,⟨Nat.le_refl _,fun ι w vs' H ra=>.inl ⟨fok,?_⟩⟩,?_⟩
  ·obtain⟨vl⟩:=vs'
   obtain⟨s',rfl⟩:∃ s',vl=[s']:=by
    have:=ra.1
    match vl,this with
    |[a],_=>exact⟨a,rfl⟩
   have r0:VRel ι (.slice (some ⟨g,0,sp⟩) 0 cap) s':=ra.2 0
   have:∃ p c,s'=.slice p 0 c:=by cases r0 <;> exact⟨_,_,rfl⟩
   obtain⟨p,c,rfl⟩:=this;exact (Go.Proofs.Any.slices_Compact_int_empty Ly p c w).mono fun e' w' q=>⟨ι,_,q.1,r0,q.2 ▸ H,q.2 ▸ Step.refl w H.dom⟩
  ·have:=A.Ie;rw[List.append_nil,this];exact O
end
end Go.Abs
namespace Go.Proofs.YtgiedjgdlckahaaGreatDoor
open Go.Abs
set_option maxRecDepth 100000
def Jv:Go.Shelf.Ren where
 f n:=match n with
  |125=>208
  |128=>245
  |129=>246
  |189=>160
  |215=>165
  |216=>253
  |257=>209
  |294=>247
  |295=>248
  |296=>249
  |297=>250
  |298=>251
  |299=>252
  |300=>254
  |301=>255
  |328=>275
  |329=>271
  |330=>272
  |331=>276
  |332=>277
  |343=>283
  |n=>n
 t n:=match n with
  |0=>0
  |3=>3
  |4=>4
  |5=>5
  |9=>9
  |28=>32
  |46=>40
  |51=>331
  |53=>28
  |131=>249
  |182=>324
  |183=>325
  |218=>345
  |222=>349
  |228=>356
  |229=>89
  |n=>n
 g n:=n
theorem Es:Go.Proofs.Lays.n189 Tryz.prog Jv where
 mixed:=by kernel_rfl
 f125:=by kernel_rfl
 f128:=by kernel_rfl
 f129:=by kernel_rfl
 f189:=by kernel_rfl
 f215:=by kernel_rfl
 f216:=by kernel_rfl
 f257:=by kernel_rfl
 f294:=by kernel_rfl
 f295:=by kernel_rfl
 f296:=by kernel_rfl
 f297:=by kernel_rfl
 f298:=by kernel_rfl
 f299:=by kernel_rfl
 f300:=by kernel_rfl
 f301:=by kernel_rfl
 f328:=by kernel_rfl
 f329:=by kernel_rfl
 f330:=by kernel_rfl
 f331:=by kernel_rfl
 f332:=by kernel_rfl
 f343:=by kernel_rfl
 t0:=by kernel_rfl
 a0:=fun w=>by kernel_rfl
 z0:=fun w=>by kernel_rfl
 v0:=fun w=>by kernel_rfl
 t3:=by kernel_rfl
 a3:=fun w=>by kernel_rfl
 z3:=fun w=>by kernel_rfl
 v3:=fun w=>by kernel_rfl
 t4:=by kernel_rfl
 a4:=fun w=>by kernel_rfl
 z4:=fun w=>by kernel_rfl
 v4:=fun w=>by kernel_rfl
 t5:=by kernel_rfl
 a5:=fun w=>by kernel_rfl
 z5:=fun w=>by kernel_rfl
 v5:=fun w=>by kernel_rfl
 t9:=by kernel_rfl
 a9:=fun w=>by kernel_rfl
 z9:=fun w=>by kernel_rfl
 v9:=fun w=>by kernel_rfl
 t28:=by kernel_rfl
 a28:=fun w=>by kernel_rfl
 z28:=fun w=>by kernel_rfl
 v28:=fun w=>by kernel_rfl
 t46:=by kernel_rfl
 a46:=fun w=>by kernel_rfl
 z46:=fun w=>by kernel_rfl
 v46:=fun w=>by kernel_rfl
 t51:=by kernel_rfl
 a51:=fun w=>by kernel_rfl
 z51:=fun w=>by kernel_rfl
 v51:=fun w=>by kernel_rfl
 t53:=by kernel_rfl
 a53:=fun w=>by kernel_rfl
 z53:=fun w=>by kernel_rfl
 v53:=fun w=>by kernel_rfl
 t131:=by kernel_rfl
 a131:=fun w=>by kernel_rfl
 z131:=fun w=>by kernel_rfl
 v131:=fun w=>by kernel_rfl
 t182:=by kernel_rfl
 a182:=fun w=>by kernel_rfl
 z182:=fun w=>by kernel_rfl
 v182:=fun w=>by kernel_rfl
 t183:=by kernel_rfl
 a183:=fun w=>by kernel_rfl
 z183:=fun w=>by kernel_rfl
 v183:=fun w=>by kernel_rfl
 t218:=by kernel_rfl
 a218:=fun w=>by kernel_rfl
 z218:=fun w=>by kernel_rfl
 v218:=fun w=>by kernel_rfl
 t222:=by kernel_rfl
 a222:=fun w=>by kernel_rfl
 z222:=fun w=>by kernel_rfl
 v222:=fun w=>by kernel_rfl
 t228:=by kernel_rfl
 a228:=fun w=>by kernel_rfl
 z228:=fun w=>by kernel_rfl
 v228:=fun w=>by kernel_rfl
 t229:=by kernel_rfl
 a229:=fun w=>by kernel_rfl
 z229:=fun w=>by kernel_rfl
 v229:=fun w=>by kernel_rfl
def JS:Go.Shelf.Ren where
 f n:=match n with
  |20=>77
  |n=>n
 t n:=match n with
  |0=>0
  |3=>3
  |4=>4
  |22=>32
  |n=>n
 g n:=n
theorem JR:Go.Proofs.Lays2.n20 Tryz.prog JS where
 mixed:=by kernel_rfl
 f20:=by kernel_rfl
 t0:=by kernel_rfl
 a0:=fun w=>by kernel_rfl
 z0:=fun w=>by kernel_rfl
 v0:=fun w=>by kernel_rfl
 t3:=by kernel_rfl
 a3:=fun w=>by kernel_rfl
 z3:=fun w=>by kernel_rfl
 v3:=fun w=>by kernel_rfl
 t4:=by kernel_rfl
 a4:=fun w=>by kernel_rfl
 z4:=fun w=>by kernel_rfl
 v4:=fun w=>by kernel_rfl
 t22:=by kernel_rfl
 a22:=fun w=>by kernel_rfl
 z22:=fun w=>by kernel_rfl
 v22:=fun w=>by kernel_rfl
 i3:=by kernel_rfl
set_option maxHeartbeats 8000000
theorem zr (l:List Int):flatC (l.map z64)=l.map (Value.int .i64):=by
 induction l with
 |nil=>rfl
 |cons a l ih=>rw[List.map_cons,List.map_cons,<- ih];rfl
def uW (n:Nat) (v:Int):Bool:=decide (v<0\/Int.ofNat n<=v)
theorem D2 {x:Ldg}{v:Int}{h:Heap} (hB:HasB vars h):CallD Tryz.prog NG 159 ⟨[z64 v,FP (dR x)]⟩ h (.bool (uW x.tests v)) h:=by
 obtain⟨r,rfl,c⟩:∃ r,r=uW x.tests v/\CallD Tryz.prog NG 159 ⟨[z64 v,FP (dR x)]⟩ h (.bool r) h:=by
  refine fw Tryz.func159 hB (enc:=Value.bool) (fun r=>PureV.flat rfl) fun O=>?_;conv=>whnf
  refine gX ?_;refine br (b:=ltI v (Int.ofNat 0)) ⟨id,id⟩ (fun hlt=>?_) fun hge=>?_
  ·refine gX ?_;refine⟨_,?_,O.ext,fun _ _=>VLe.refl _ _⟩;have:=BX.1 hlt;unfold uW;exact (decide_eq_true (.inl this)).symm
  ·refine gX ?_;refine⟨_,?_,O.ext,fun _ _=>VLe.refl _ _⟩;have:=sn.1 hge;unfold uW;rw[cX,Bool.eq_iff_iff];simp only[Int.ofNat_eq_natCast] at this ⊢;simp;omega
 exact c
theorem Bo {x:Ldg} (hp:0<x.first.length) (hl:x.first.length<=65536) {h0 h:Heap}{S:List Slot} (O:Own vars h0 S h) :
  ∃ u h',CallD Tryz.prog NG 78 ⟨[dR x]⟩ h u h'/\∃ (g n m:Nat) (l z:List Int),u=lZ 1 (some g) n m/\n=l.length/\n<=m/\m<=65536/\l.Perm (x.first.filter fun v => !uW x.tests v)/\l.Pairwise (· <= ·)/\Own vars h0 ((some g,.cells (l.map (Value.int .i64)++z.map (Value.int .i64)) false)::S) h':=by
 have hne:x.first≠[]:=fun e=>by rw[e] at hp;exact absurd hp (Nat.lt_irrefl 0)
 refine fg Tryz.func78 ?_;conv=>whnf
 refine gX ?_;refine fz ?_;refine gX ?_;refine J9 (sB (p0:=x.first) (K:=fun r=>r=x.first) ?_ O.has) (LLe.cons (VLe.toN hne (VLe.refl _ _)) (LLe.nil _)) O fun r a h ex ha _ O hr=>?_
 ·unfold lG;refine⟨fun e=>absurd (List.isEmpty_iff.1 e) hne,fun _=>⟨by rw[List.length_nil];omega,by simpa using hp,rfl⟩⟩
 subst hr
 obtain⟨g,rfl⟩:∃ g,a=some g:=by
  cases a with
  |some g=>exact⟨g,rfl⟩
  |none=>exact absurd (ha rfl) hne
 refine gX ?_;obtain⟨u,h2,cd,rfl,z,hz,O⟩:=yd (q:=x) (p:=uW x.tests) (by omega) O fun v _ l' h _ O=>D2 O.has;refine⟨_,_,cd,?_⟩;refine gX ?_;rw[zr,List.map_append] at O;obtain⟨l',h3,hperm,hsort,cd,O⟩:=O.Es (ρ:=Jv) Es (by kernel_rfl) (.head _) (n:=(x.first.filter fun x_1 => !uW x.tests x_1).length) (sp:=some 1) (cap:=x.first.length) rfl (Nat.lt_of_le_of_lt (List.length_filter_le _ _) (by omega));refine⟨_,_,cd,?_⟩;refine gX ?_;exact⟨g,_,_,l',z,rfl,hperm.length_eq.symm,List.length_filter_le _ _,hl,hperm,hsort,O⟩
theorem F8 {g n m:Nat} (hn:n<=m) {h0 h:Heap}{S:List Slot} (_O:Own vars h0 S h) :
  ∃ u h',CallD Tryz.prog NG 76 ⟨[lZ 1 (some g) n m]⟩ h u h'/\u=EL (some g) n/\h'=h:=by
 refine fg Tryz.func76 ?_;conv=>whnf
 refine gX ?_
 refine Ff (a:=some g) (s:=1) hn ?_;conv=>whnf
 (repeat((first|apply Cs|apply Hs);(conv=>whnf)));exact⟨rfl,rfl⟩
theorem lz {d:Array Int} (hs:∀ i j,i<j->j<d.size->d[i]! <= d[j]!):∀ m,m<=d.size->(Go.Lib.compactUpTo d m).Pairwise (· < ·)/\(∀ v∈Go.Lib.compactUpTo d m,v<=d[m-1]!)/\∀ v,v∈Go.Lib.compactUpTo d m ↔ ∃ j,j<m/\d[j]! = v
 |0,_=>⟨.nil,(fun v h=>by cases h),fun v=>⟨(fun h=>by cases h),fun ⟨j,hj,_⟩=>absurd hj (Nat.not_lt_zero j)⟩⟩
 |m+1,hm=>by
  obtain⟨h1,h2,h3⟩:=lz hs m (by omega);rw[Go.Lib.compactUpTo_succ];by_cases k:Go.Lib.keeps d m=true
  ·rw[if_pos k];have hk:=of_decide_eq_true k
   have below:∀ v∈Go.Lib.compactUpTo d m,v<d[m]! := fun v hv=>by
    have hvm:=h2 v hv;obtain⟨j,hj,_⟩:=(h3 v).1 hv;have h4:=hs (m-1) m (by omega) (by omega)
    rcases hk with hk|hk
    ·omega
    ·omega
   refine⟨List.pairwise_append.2 ⟨h1,List.pairwise_singleton ..,fun v hv w hw=>?_⟩,fun v hv=>?_,fun v=>?_⟩
   ·rw[List.mem_singleton.1 hw];exact below v hv
   ·rcases List.mem_append.1 hv with hv|hv
    ·exact Int.le_of_lt (below v hv)
    ·rw[List.mem_singleton.1 hv];exact Int.le_refl _
   ·rw[List.mem_append,h3,List.mem_singleton];constructor
    ·rintro (⟨j,hj,e⟩|rfl)
     ·exact⟨j,by omega,e⟩
     ·exact⟨m,Nat.lt_succ_self m,rfl⟩
    ·rintro⟨j,hj,e⟩;by_cases c:j=m
     ·subst c;exact .inr e.symm
     ·exact .inl ⟨j,by omega,e⟩
  ·rw[if_neg k,List.append_nil];have hk:¬ (m=0\/d[m]! ≠ d[m-1]!):=fun q=>k (decide_eq_true q)
   have hm0:0<m:=by omega
   have he:d[m]! = d[m-1]! := by
    by_cases q:d[m]! = d[m-1]!
    ·exact q
    ·exact absurd (.inr q) hk
   refine⟨h1,fun v hv=>?_,fun v=>?_⟩
   ·show v<=d[m]!
    rw[he];exact h2 v hv
   ·rw[h3];constructor
    ·rintro⟨j,hj,e⟩;exact⟨j,by omega,e⟩
    ·rintro⟨j,hj,e⟩;by_cases c:j=m
     ·subst c;exact⟨j-1,by omega,by rw[<- he];exact e⟩
     ·exact⟨j,by omega,e⟩
theorem sF {l:List Int}{j:Nat}{v:Int}:(j<l.length/\l.toArray[j]! = v)↔l[j]?=some v:=by
 constructor
 ·rintro⟨h,e⟩;rw[List.getElem?_eq_getElem h,<- e];simp[h]
 ·intro e;obtain⟨h,e⟩:=List.getElem?_eq_some_iff.1 e;exact⟨h,by rw[<- e];simp[h]⟩
theorem uX {l:List Int} (h:l.Pairwise (· <= ·)):∀ i j,i<j->j<l.toArray.size->l.toArray[i]! <= l.toArray[j]! := by
 intro i j hij hj
 have hj:j<l.length:=by simpa using hj
 have h1:=(sF (l:=l) (j:=i) (v:=l[i])).2 (List.getElem?_eq_getElem (by omega));have h2:=(sF (l:=l) (j:=j) (v:=l[j])).2 (List.getElem?_eq_getElem hj);rw[h1.2,h2.2];exact List.pairwise_iff_getElem.1 h i j (by omega) hj hij
theorem AD {l:List Int} (h:l.Pairwise (· <= ·)) (v:Int):v∈Go.Lib.compact l↔v∈l:=by
 obtain⟨_,_,h3⟩:=lz (uX h) l.length (by simp);unfold Go.Lib.compact;rw[h3,List.mem_iff_getElem?];constructor
 ·rintro⟨j,hj,e⟩;exact⟨j,sF.1 ⟨hj,e⟩⟩
 ·rintro⟨j,e⟩;exact⟨j,sF.2 e⟩
theorem uJ {l:List Int} (h:l.Pairwise (· <= ·)):(Go.Lib.compact l).Pairwise (· < ·):=(lz (uX h) l.length (by simp)).1
theorem nZ {x:Ldg}{K:List Nat->Prop} (hm:kq x K) {h0:Heap} (hB:HasB vars h0):∃ r,K r/\CallD Tryz.prog NG 24 ⟨[dR x]⟩ h0 (ah 1 i64 r) h0:=by
 obtain⟨hp,hl,ht,hk⟩:=hm
 refine fw Tryz.func24 hB (enc:=ah 1 i64) (fun r=>cF fun _=>AllPure.cons (PureV.flat rfl) AllPure.nil) fun O=>?_;conv=>whnf
 refine gX ?_;refine fz ?_;refine gX ?_;obtain⟨u,h,cd,g,n,m,l,z,rfl,hn,hnm,hm2,hperm,hsort,O⟩:=Bo hp hl O;refine⟨_,_,cd,?_⟩;refine gX ?_;obtain⟨z2,h,cd,O⟩:=O.E6 (ρ:=JS) JR (by kernel_rfl) (.head _) (n:=n) (sp:=some 1) (cap:=m) hn (by omega);refine⟨_,_,cd,?_⟩;refine gX ?_;have hc:=vh l;obtain⟨u,h,cd,rfl,rfl⟩:=F8 (g:=g) (n:=(Go.Lib.compact l).length) (m:=m) (by omega) O;refine⟨_,_,cd,?_⟩;refine gX ?_
 have hin:∀ v,v∈Go.Lib.compact l↔v∈x.first/\uW x.tests v=false:=fun v=>by
  rw[AD hsort,hperm.mem_iff,List.mem_filter];simp
 have hnn:∀ v∈Go.Lib.compact l,0<=v:=fun v hv=>by
  have:=((hin v).1 hv).2;unfold uW at this;have:=of_decide_eq_false this;omega
 obtain⟨r,hr⟩:∃ r:List Nat,Go.Lib.compact l=r.map Int.ofNat:=⟨(Go.Lib.compact l).map Int.toNat,by
  rw[List.map_map]
  exact (List.map_id _).symm.trans (List.map_congr_left fun v hv=>(Int.toNat_of_nonneg (hnn v hv)).symm)⟩
 have hmem:∀ v:Nat,v∈r↔Int.ofNat v∈Go.Lib.compact l:=fun v=>by
  rw[hr];constructor
  ·intro m;exact List.mem_map.2 ⟨v,m,rfl⟩
  ·intro m;obtain⟨w,mw,e⟩:=List.mem_map.1 m;have:w=v:=Int.ofNat.inj e;rw[<- this];exact mw
 refine⟨r,hk r ?_ fun v=>?_,O.ext,fun h2 F=>?_⟩
 ·have:=uJ hsort;rw[hr] at this;exact (List.pairwise_map.1 this).imp fun h=>Int.ofNat_lt.1 h
 ·rw[hmem,hin]
  have:uW x.tests (Int.ofNat v)=false↔v<x.tests:=by
   unfold uW;rw[decide_eq_false_iff_not];simp only[Int.ofNat_eq_natCast];omega
  rw[this]
 ·rw[<- List.map_append,<- zr] at O;have:=O.JB F (Nat.le_refl _) (.head _) (n:=(Go.Lib.compact l).length) (cap:=(Go.Lib.compact l).length) (sp:=none) (s:=1) (fun _=>rfl) (by rw[List.length_append,List.length_append];omega)
  have e:List.take (Go.Lib.compact l).length (Go.Lib.compact l++z2++z)=Go.Lib.compact l:=by rw[List.append_assoc,List.take_left'];rfl
  rw[e] at this
  have e2:ah 1 z64 (Go.Lib.compact l)=ah 1 i64 r:=by
   rw[hr];unfold ah;rw[List.map_map];rfl
  rw[e2] at this;exact this
theorem wR {c:Circ} (C:Cir c) {l:List Flt}{ts:List Pat} (hl:∀ f∈l,StuckOk c f) (hts:∀ p∈ts,PatOk c p) (h1:l.length<=65536) (h2:ts.length<=64) {K:Nat->Prop} (h:K 0):cK c l ts K:=by
 unfold cK;refine⟨fun q=>by have:=aO.1 q;omega,fun _=>⟨C,hl,(fun p m=>by cases m),h1,(by decide),fun r _ _=>?_⟩⟩;refine dM (a:=eqN ts.length 0) (fun G=>⟨fun q=>absurd rfl (fx.1 q),fun _=>G⟩) ⟨fun _=>h,fun _=>⟨C,(fun p m=>by cases m),hts,(by decide),h2,fun r _ _=>h⟩⟩
theorem Ds {c:Circ} (C:Cir c) {l:List Flt}{ts:List Pat} (hl:∀ f∈l,StuckOk c f) (hts:∀ p∈ts,PatOk c p) (h0:0<l.length) (h1:l.length<=65536) (h2:ts.length<=64) {K:Ldg×Nat->Prop} (h:K (bQ c l ts (ts.length+1),0)):fm c l ts K:=by
 unfold fm;exact wR C hl hts h1 h2 ⟨fun q=>absurd rfl (fx.1 q),fun _=>⟨by omega,C,hl,hts,h0,h1,h2,by omega,by omega,h⟩⟩
theorem yQ {c:Circ} (C:Cir c) {l:List Flt}{ts:List Pat} (hl:∀ f∈l,StuckOk c f) (hts:∀ p∈ts,PatOk c p) (h0:0<l.length) (h1:l.length<=65536) (h2:ts.length<=64) {n:Nat} (hn:0<n) (hn2:n<2 ^ 62) {K:Ldg×Nat->Prop} (h:K (bQ c l ts n,0)):dU c l ts n K:=by
 unfold dU;exact wR C hl hts h1 h2 ⟨fun q=>absurd rfl (fx.1 q),fun _=>⟨fun q=>by have:=aO.1 q;omega,fun _=>⟨C,hl,hts,h0,h1,h2,hn,hn2,h⟩⟩⟩
def bl (c:Circ):List Flt:=mu 0 (oS c)
theorem tE {c:Circ} (C:Cir c):(oS c).length<=272:=by
 have:=ny C _ (Nat.le_refl _);have:=C.len;unfold oS;omega
theorem zu {c:Circ} (C:Cir c):(bl c).length<=544:=by
 have:=tE C;unfold bl;rw[AB];omega
theorem Ct {c:Circ} (C:Cir c) {K:List Flt×Nat->Prop} (h:K (bl c,0)):iH c 0 K:=by
 have:=tE C;exact⟨oS c,tT C rfl,by decide,by omega,h⟩
theorem yG (x:FailT):AllPure (cl (Aq x)):=AllPure.cons (PureV.flat rfl) (AllPure.cons (PureV.flat rfl) (AllPure.cons (PureV.flat rfl) AllPure.nil))
theorem Ap {i:Nat}{x:Node} (h:pv.nodes[i]?=some x):(i=0/\x=⟨0,[],0,0⟩)\/(i=1/\x=⟨0,[],0,0⟩)\/(i=2/\x=⟨8,[0,1],0,0⟩):=by
 have hi:=ag h;have hi:i<3:=hi
 have:i=0\/i=1\/i=2:=by omega
 rcases this with rfl|rfl|rfl
 ·cases h;exact .inl ⟨rfl,rfl⟩
 ·cases h;exact .inr (.inl ⟨rfl,rfl⟩)
 ·cases h;exact .inr (.inr ⟨rfl,rfl⟩)
theorem G8:Cir pv:=by
 have node:∀ i x,pv.nodes[i]?=some x->GoodN pv i x:=by
  intro i x h
  rcases Ap h with⟨rfl,rfl⟩|⟨rfl,rfl⟩|⟨rfl,rfl⟩
  ·exact⟨(by decide:0<=15),(by decide:Arity 0 0),(fun k m=>by cases m),(fun e=>by cases e),fun _=>⟨rfl,rfl⟩,(fun e=>by cases e),fun e=>absurd e (by decide:¬ 1<=0)⟩
  ·exact⟨(by decide:0<=15),(by decide:Arity 0 0),(fun k m=>by cases m),(fun e=>by cases e),fun _=>⟨rfl,rfl⟩,(fun e=>by cases e),fun e=>absurd e (by decide:¬ 1<=0)⟩
  ·exact⟨(by decide:8<=15),(by decide:Arity 8 2),(by decide:∀ k∈[0,1],k<3),(fun e=>by cases e),fun _=>⟨rfl,rfl⟩,(fun e=>by cases e),fun _ _=>(by decide:∀ k∈[0,1],k<2)⟩
 have F:FanOk pv:=Ey ⟨by decide,fun i x h=>⟨(node i x h).ins,(node i x h).few⟩⟩
 have N:NamesOk pv:=by
  refine FnV.sO (enc:=i64) (PureV.flat rfl) fun h hB=>?_;exact mS (K:=fun r=>r=0) (pA (fun s m=>Fy m) (by decide) (by decide) rfl) hB
 refine⟨⟨by decide,rfl,N,F,(fun m h=>by cases h),by decide,by decide,by decide,node,by decide⟩,rfl,fun i x h=>?_⟩
 rcases Ap h with⟨rfl,rfl⟩|⟨rfl,rfl⟩|⟨rfl,rfl⟩ <;> decide
def I9:List Flt:=bl pv
theorem Fq:AllPure [ar pv,ah 5 az I9]:=AllPure.cons (nF _) (AllPure.cons (cF nO) AllPure.nil)
theorem EW:AllPure [ar pv,az IS,ah 2 aP I0]:=AllPure.cons (nF _) (AllPure.cons (EM _) (AllPure.cons (cF rC) AllPure.nil))
theorem ze:∀ o∈vars,∃ cs,o=.cells cs true/\cs.all plain=true:=fun o m=>by
 obtain⟨i,hi⟩:=List.getElem?_of_mem m;exact oP hi
def JM:List (List Nat):=[[0,6],[1,3,4,7,9],[2,8],[5]]
abbrev xD (r:List (List Nat)×Nat):Value:=.tuple ⟨[ah 1 (ah 1 i64) r.1,i64 r.2]⟩
theorem EA (r:List (List Nat)×Nat):PureV (xD r):=PureV.tup (AllPure.cons (cF fun _=>AllPure.cons (cF fun _=>AllPure.cons (PureV.flat rfl) AllPure.nil) AllPure.nil) (AllPure.cons (PureV.flat rfl) AllPure.nil))
theorem Fj (r:List FailT×Nat):PureV (xx r):=PureV.tup (AllPure.cons (cF yG) (AllPure.cons (PureV.flat rfl) AllPure.nil))
end Go.Proofs.YtgiedjgdlckahaaGreatDoor
