/-
  AbsXt: parts of the proof.
-/
import Derived.Test.YtgiedjgdlckahaaGreatDoorTk30
namespace Go.Abs
section
variable {P:Program} {N:Nat} {B:List AObj} {h0 h:Heap} {L:List Slot} {ρ:Operand->Value} {d:Option Tmp} {ty:TypeId} {pos:String} {af:Array Edge} {gd:Option (Nat×Bool)}
def wO (s:Nat) (b:Bool) (g n:Nat):Value:=.slice (some ⟨g,0,if b=true then some s else none⟩) n n
theorem AQ {t e:TypeId}{s:Nat}{z:Value} (hu:P.underlying t=some (.slice e)) (hs:aQ P e=some s) (hz:zeroOf P e=some z) :
  anew P ρ { dst:=d,op:=.buildSlice t 0 #[],type:=ty,pos:=pos,after:=af,guard:=gd }=some (.cells [] false,fun g=>.slice (some ⟨g,0,none⟩) 0 0):=by
 unfold anew;simp only[hu,hs,hz];simp
theorem Own.AQ {t e:TypeId}{s:Nat}{z:Value}{K:Value->Heap->Prop} (O:Own B h0 L h) (hu:P.underlying t=some (.slice e)) (hs:aQ P e=some s) (hz:zeroOf P e=some z)
  (k:∀ g h1,Own B h0 ((some g,.cells [] false)::L) h1->K (wO s false g 0) h1):NewG P ρ { dst:=d,op:=.buildSlice t 0 #[],type:=ty,pos:=pos,after:=af,guard:=gd } h K :=
 O.new (Abs.AQ hu hs hz) k
theorem Own.HV {α:Type}{enc:α->Value}{l new:List α}{ts tx te:TypeId}{dx:TypeDesc}{x y:Operand}{s b g n:Nat}{sp:Bool}{z:Value}{f:Slot->List Slot}{K:Value->Heap->Prop} (O:Own B h0 L h) (A:At (some g,.cells (flatC (l.map enc)) false) L f)
  (hts:P.underlying ts=some (.slice te)) (htx:P.underlying tx=some dx) (hni:eB dx=true) (hs:aQ P te=some s) (hb:kJ P te=some b) (hz:zeroOf P te=some z) (hzs:z.cells.size=s)
  (hx:ρ x=wO s sp g n) (hn:n=(l.map enc).length) (hy:YOk h s (ρ y) enc new) (hsz:∀ x:α,(cl (enc x)).length=s) (hone:∀ x:α,(cl (enc x)).all Value.oneCell'=true)
  (hb0:0<b) (hlim:(l.length+new.length)*b<=2 ^ 47)
  (k:∀ g' sp' h1,Own B h0 (f (some g',.cells (flatC ((l++new).map enc)) false)) h1->K (wO s sp' g' ((l++new).map enc).length) h1) :
  ∃ (v:Value) (T:Heap->Prop),(∃ h',dp P ρ { dst:=d,op:=.call { callee:=.builtin .append,args := #[x,y],argTypes := #[ts,tx] },type:=ty,pos:=pos,after:=af,guard:=gd } h=some (v,h')/\T h')/\∀ h1,T h1->K v h1:=by
 subst hn;have hy0:=hy.len;have hf0:=hy.first;have hnew:∀ e∈new.map enc,(cl e).length=s:=aZ hsz new
 have hlen:(flatC (new.map enc)).length=new.length*s:=by rw[ba hnew,List.length_map]
 have hll:(flatC (l.map enc)).length=l.length*s:=by rw[ba (aZ hsz l),List.length_map]
 have hno:(flatC (new.map enc)).all Value.oneCell'=true:=by
  rw[List.all_eq_true];intro v m;simp only[flatC,List.mem_flatMap,List.mem_map] at m;obtain⟨_,⟨a,_,rfl⟩,m⟩:=m;exact List.all_eq_true.1 (hone a) v m
 unfold dp fO;simp only[List.map_cons,List.map_nil,hx,wO,hts,htx,hni,if_true,hs,hb,hz,hy0,hf0];unfold de;by_cases hm0:new.length=0
 ·have hn:new=[]:=List.eq_nil_of_length_eq_zero hm0;subst hn;rw[if_pos hm0,if_pos ⟨by simp[flatC],Nat.le_refl _⟩];refine⟨_,fun h1=>h1=h,⟨h,rfl,rfl⟩,fun h1 e=>?_⟩;subst e
  have e0:f (some g,.cells (flatC (l.map enc)) false)=L:=by
   clear k O
   induction A with
   |head L=>rfl
   |tail r _ ih=>exact congrArg (List.cons r) ih
  have:=k g sp h1 (by rw[List.append_nil,e0];exact O);rw[List.append_nil] at this;exact this
 ·rw[if_neg hm0,if_neg (by rw[List.length_map];omega),if_pos ⟨hb0,by rw[List.length_map];exact hlim,hzs,hlen,hno⟩];obtain⟨hgs,hgg⟩:=O.get g _ A.mem;have hlt:=Heap.ag hgg
  have e1:((flatC (l.map enc)).drop 0).take ((l.map enc).length*s)=flatC (l.map enc):=by
   rw[List.drop_zero,List.length_map,<- hll,List.take_length]
  have e2:flatC (l.map enc)++flatC (new.map enc)=flatC ((l++new).map enc):=by rw[<- bN,yv]
  have e3:(l.map enc).length+new.length=((l++new).map enc).length:=by simp
  have fin:∀ hd:Heap,hd.size=h.size->(∀ k,h0.size<=k->g≠k->hd.get k=h.get k)->Ext h0 hd->Own B h0 (f (some h.size,.cells (flatC ((l++new).map enc)) false)) (hd.push (.cells (flatC ((l++new).map enc)) false)):=by
   intro hd hsz' hget hext;refine⟨O.base,hext.trans ⟨Nat.le_succ _,fun g hg=>by rw[Heap.bc,if_neg (by omega)]⟩,fun k x m=>?_,A.apart O.apart fun x m hx=>?_⟩
   ·have key:∀ {L:List Slot} {f:Slot->List Slot},At (some g,.cells (flatC (l.map enc)) false) L f->L.Pairwise Apart->(some k,x)∈f (some h.size,.cells (flatC ((l++new).map enc)) false)->(k=h.size/\x=.cells (flatC ((l++new).map enc)) false)\/(g≠k/\(some k,x)∈L):=by
     intro L f a
     induction a with
     |head L =>
      intro ha m
      rcases List.mem_cons.1 m with m|m
      ·cases m;exact .inl ⟨rfl,rfl⟩
      ·exact .inr ⟨fun e=>(List.pairwise_cons.1 ha).1 _ m g rfl (by rw[e]),.tail _ m⟩
     |tail r a ih =>
      intro ha m;have hap:=(List.pairwise_cons.1 ha).1 _ a.mem
      rcases List.mem_cons.1 m with m|m
      ·refine .inr ⟨fun e=>?_,by rw[m];exact .head _⟩;subst m;exact hap k rfl (by rw[e])
      ·rcases ih (List.pairwise_cons.1 ha).2 m with q|⟨q1,q2⟩
       ·exact .inl q
       ·exact .inr ⟨q1,.tail _ q2⟩
    rcases key A O.apart m with⟨rfl,rfl⟩|⟨q1,q2⟩
    ·exact⟨O.ext.1,by rw[Heap.bc,if_pos hsz'.symm]⟩
    ·obtain⟨r1,r2⟩:=O.get k x q2;have:=Heap.ag r2;exact⟨r1,by rw[Heap.bc,if_neg (by omega),hget k r1 q1];exact r2⟩
   ·by_cases q:x.1=some h.size
    ·exfalso;obtain⟨x1,x2⟩:=x;simp only at q;subst q;have:=Heap.ag (O.get _ _ m).2;omega
    ·refine .inl ⟨fun g e e'=>?_,fun g e e'=>?_⟩
     ·cases e;exact q e'
     ·cases e';exact q e
  refine⟨wO s true h.size ((l++new).map enc).length,fun h1=>Own B h0 (f (some h.size,.cells (flatC ((l++new).map enc)) false)) h1,?_,fun h1 q=>k _ _ h1 q⟩
  cases sp with
  |false =>
   simp only[hgg,Bool.false_eq_true,if_false];rw[if_pos (by rw[List.length_map,hll];omega),e1,e2,e3];exact⟨_,rfl,fin h rfl (fun _ _ _=>rfl) O.ext⟩
  |true =>
   simp only[hgg,if_true];rw[if_pos ⟨by rw[List.length_map,hll];omega,trivial⟩,e1,e2,e3];exact⟨_,rfl,fin (h.upd g .dead) rfl (fun k _ hne=>by rw[Heap.bF _ _ _ _ hlt,if_neg (fun e=>hne e.symm)]) ⟨O.ext.1,fun k hk=>by rw[Heap.bF _ _ _ _ hlt,if_neg (by omega)];exact O.ext.2 k hk⟩⟩
end
end Go.Abs
