/- Parts of the proof. -/
import Derived.Test.YtglgdkineobbeaaGreatDoorTn11
open Go.Builtin renaming append_->Oz,clear_->Pr,copy_->QS,firstCells->MS,lenOf->Pl,zeroCells->Od
open Go.Instr renaming keyThatStays->RO,mapEntry->Sk,mapUpdate->Sa,next->Sj,sameBits->N1
open Go.Op renaming operands->Mi
open Go.Result renaming andThen_ok->Mo
open Go.Sem renaming run->Pn,run_bind->Mv,run_pure->MO
open Go.Utf8 renaming decode->QP
open Int renaming ofNat->LQ
open Nat renaming min->Rz
namespace Go.Abs
section
variable {N:Nat} {P:Program} {ι:Inj} {h h':Heap} {w:World}
theorem zc(H:HRel N ι h w){ts tx type el:TypeId}{d:TypeDesc}{x x' s' z v:Value}{s b n len cap:Nat}{new:List Value}{base:Option Addr}(hu:P.underlying ts=some (.slice el))(hx:P.underlying tx=some d)(hd:fh d=true)
  (hs:bb P el=some s) (hb:kH P el=some b) (hz:zeroOf P el=some z) (hl:lenOf x=some n) (hf:bT h s n x=some new) (rs:VRel ι (.slice base len cap) s') (rx:VRel ι x x')
  (e':dI h h.size s b z n new base len cap=some (v,h')) :
  ∃v' w' ι',(Oz #[ts,tx] type #[s',x']).run P w=.ok v' w'/\VRel ι' v v'/\HRel N ι' h' w'/\Step N ι h w ι' h' w':=by
 have hl':(Pl x').run P w=.ok n w:=mK rx hl;obtain⟨new',f1,f2⟩:=iY (P:=P) H rx hf (λm hm=>by rw[hl] at hm;cases hm;exact LV _);have H':HRel N ι h w.drew:=H.same rfl;obtain⟨newd,f1d,f2d⟩:=iY (P:=P) H' rx hf (λm hm=>by rw[hl] at hm;cases hm;exact LV _);unfold dI at e';by_cases hn0:n=0
 .subst hn0;simp only[if_true] at e';split at e'
  .rename_i hnew;obtain⟨hnew,hle⟩:=hnew;simp only[LR,Mn] at e';obtain⟨rfl,rfl⟩:=e';have hnil:new'.toList=[]:=f2.tA hnew;have hnil':new' = #[]:=On (by simpa using hnil);subst hnil'
   cases rs with
   |sliceNil =>
    exact⟨_,w,ι,run_append_room hu hx hd hs hl' f1 hle (λa ha=>by cases ha) (λ_=>rfl),.sliceNil,H,Step.refl w H.dom⟩
   |slice g off _ _ o l hl hle' ho =>
    exact⟨_,w,ι,run_append_room hu hx hd hs hl' f1 hle (λa ha=>by simp[storeCells]) (λhq=>by cases hq),.slice g off _ _ o l hl hle' ho,H,Step.refl w H.dom⟩
   |sliceOpen g off sp _ _ cap' o l hl hle' hcap ho htot =>
    exact⟨_,w,ι,run_append_room hu hx hd hs hl' f1 (by omega) (λa ha=>by simp[storeCells]) (λhq=>by cases hq),.sliceOpen g off sp _ _ cap' o l hl hle' hcap ho htot,H,Step.refl w H.dom⟩
  .cases e'
 .simp only[hn0,if_false] at e';by_cases hroom:len+n<=cap
  .simp only[hroom,if_true] at e'
   cases rs with
   |sliceNil=>omega
   |slice g off _ _ o l hl hle' ho =>
    simp only at e'
    cases hg:h.get g with
    |none=>simp[hg] at e'
    |some ob =>
     cases ob <;> try (simp[hg] at e';done)
     rename_i cs ro
     cases ro
     .simp only[hg] at e';split at e'
      .rename_i hc;obtain⟨c1,c2⟩:=hc;have c1:=c1.resolve_right (λq=>by cases q.1);simp only[LR,Mn] at e';obtain⟨rfl,rfl⟩:=e';have ho':=ho (by omega);subst ho';obtain⟨w',q1,q2,q3⟩:=H.storeCells (P:=P) hl hg f2 c1 (λv hv=>(Md.1 c2) v hv);exact⟨_,w',ι,run_append_room hu hx hd hs hl' f1 hroom (λa ha=>by cases ha;rw[cP,Nm];exact q1) (λhq=>by cases hq),.slice g off _ _ _ l hl hroom ho,q2,q3⟩
      .cases e'
     .simp[hg] at e'
   |sliceOpen g off sp _ _ cap' o l hl hle' hcap ho htot =>
    simp only at e'
    cases hg:h.get g with
    |none=>simp[hg] at e'
    |some ob =>
     cases ob <;> try (simp[hg] at e';done)
     rename_i cs ro
     cases ro
     .simp only[hg] at e';split at e'
      .rename_i hc;obtain⟨c1,c2⟩:=hc;simp only[LR,Mn] at e';obtain⟨rfl,rfl⟩:=e';have ho':=ho (by omega);subst ho';obtain⟨_,_,_,_,_,hb3,hb4,_⟩:=H.obj g l _ hl hg
       have c1':off+len*s<=cs.length/\l.base+(off+len*s)+new.length<=l.tot:=by
        rcases c1 with q|⟨q0,q1,q2⟩
        .omega
        .cases q0
         have hmul:(len+n)*s<=cap'*s:=MY _ (by omega);rw[Nk] at hmul;omega
       obtain⟨w',q1,q2,q3⟩:=H.uI (P:=P) hl hg f2 c1'.1 c1'.2 (λv hv=>(Md.1 c2) v hv);exact⟨_,w',ι,run_append_room hu hx hd hs hl' f1 (by omega) (λa ha=>by cases ha;rw[cP,Nm];exact q1) (λhq=>by cases hq),.sliceOpen g off sp _ _ cap' _ l hl hroom hcap ho htot,q2,q3⟩
      .cases e'
     .simp[hg] at e'
  .simp only[hroom,if_false] at e';split at e'
   .rename_i hc;obtain⟨hb0,c1,c2,c3,c4⟩:=hc;have hmax:=le_max hb0 c1
    cases rs with
    |sliceNil =>
     simp only[LR,Mn] at e';obtain⟨rfl,rfl⟩:=e';obtain⟨c,hc,hrun⟩:=run_append_grow (base:=none) (len:=0) (cap:=0) (ty:=type) hu hx hd hs hb hz hl' f1d (old := #[]) (by simp[MS]) hroom c1 hmax;obtain⟨ι',g1,g2,g3⟩:=grown H (cs:=new) (old := #[]) (new:=newd) (rest:=Od z.cells (c-(0+n))) (ty:=el) (len:=0+n) (c:=c) (s:=s) (by simpa using f2d) (by rw[c3];simp) (by rw[jq,c2]) hc;exact⟨_,_,ι',hrun,g1,g2,g3⟩
    |slice g off _ _ o l hl hle' ho =>
     simp only at e'
     cases hg:h.get g with
     |none=>simp[hg] at e'
     |some ob =>
      cases ob <;> try (simp[hg] at e';done)
      rename_i cs ro;simp only[hg] at e';split at e'
      .rename_i hoff;simp only[LR,Mn] at e';obtain⟨rfl,rfl⟩:=e';obtain⟨old,o1,o2⟩:=iY (P:=P) H' (.slice g off len cap o l hl hle' ho) (s:=s) (n:=len) (new:=(cs.drop off).take (len*s)) (by simp[bT,hg,hoff]) (λm hm=>by simp[lenOf] at hm;omega);obtain⟨c,hc,hrun⟩:=run_append_grow (ty:=type) hu hx hd hs hb hz hl' f1d o1 hroom c1 hmax;obtain⟨ι',g1,g2,g3⟩:=grown H (cs:=(cs.drop off).take (len*s)++new) (old:=old) (new:=newd) (rest:=Od z.cells (c-(len+n))) (ty:=el) (len:=len+n) (c:=c) (s:=s) (by rw[OZ];exact o2.append f2d)
        (by simp[c3,Nk];omega) (by rw[jq,c2]) hc
       exact⟨_,_,ι',hrun,g1,g2,g3⟩
      .cases e'
    |sliceOpen g off sp _ _ cap' o l hl hle' hcap ho htot =>
     simp only at e'
     cases hg:h.get g with
     |none=>simp[hg] at e'
     |some ob =>
      cases ob <;> try (simp[hg] at e';done)
      rename_i cs ro
      cases ro
      .simp only[hg] at e';split at e'
       .rename_i hoff;obtain⟨hoff,rfl⟩:=hoff;simp only[LR,Mn] at e';obtain⟨rfl,rfl⟩:=e';by_cases hin:len+n<=cap'
        .obtain⟨w',ι',t1,t2,t3,t4⟩:=taken (P:=P) H hl hg (n:=n) f2 c3 (λhq=>ho (by omega)) hoff hin htot (λv hv=>(Md.1 c4) v hv);exact⟨_,w',ι',run_append_room hu hx hd hs hl' f1 hin (λa ha=>by cases ha;exact t1) (λhq=>by cases hq),t2,t3,t4⟩
        .obtain⟨old,o1,o2⟩:=iY (P:=P) H' (.sliceOpen g off sp len cap cap' o l hl hle' hcap ho htot) (s:=sp) (n:=len) (new:=(cs.drop off).take (len*sp)) (by simp[bT,hg,hoff]) (λm hm=>by simp[lenOf] at hm;omega);obtain⟨c,hc,hrun⟩:=run_append_grow (ty:=type) hu hx hd hs hb hz hl' f1d o1 hin c1 hmax;obtain⟨k1,k2⟩:=HRel.write H hl ⟨_,hg,rfl⟩ (o':=.dead) (w':=w) rfl (λ_ _=>rfl) trivial ⟨rfl,rfl,rfl,λ_=>LV _⟩;obtain⟨ι',g1,g2,g3⟩:=grown k1 (cs:=(cs.drop off).take (len*sp)++new) (old:=old) (new:=newd) (rest:=Od z.cells (c-(len+n))) (ty:=el) (len:=len+n) (c:=c) (s:=sp) (by rw[OZ];exact o2.append f2d)
          (by simp[c3,Nk];omega) (by rw[jq,c2]) hc
         exact⟨_,_,ι',hrun,g1,g2,k2.trans g3⟩
       .cases e'
      .simp[hg] at e'
   .cases e'
theorem uF{x x':Value}(r:VRel ι x x')(hl:lenOf x=some 0)(s:Nat)(w:World):(MS s 0 x').run P w=.ok #[] w:=by
 cases r <;> simp[lenOf] at hl <;> simp[MS,loadCells,loadCellsFrom]
 all_goals
  apply On
  simp
theorem xS(_H:HRel N ι h w){ts tx type el:TypeId}{d:TypeDesc}{x x' s':Value}{s i:Nat}{es:Array Value}(hu:P.underlying ts=some (.slice el))(hx:P.underlying tx=some d)(hd:fh d=true)
  (hs:bb P el=some s) (hl:lenOf x=some 0) (rs:VRel ι (.iface i (.tuple es)) s') (rx:VRel ι x x') :
  (Oz #[ts,tx] type #[s',x']).run P w=.ok s' w:=by
 obtain⟨es⟩:=es;obtain⟨a,cap,rfl,hle⟩:=rs.rD;have:=run_append_room (ty:=type) (base:=a) (len:=es.length) (cap:=cap) hu hx hd hs (mK rx hl) (uF rx hl s w) (by omega) (w1:=w) (λa ha=>by simp[storeCells]) (λ_=>rfl);simpa using this
theorem append_empty(H:HRel N ι h w){ts tx type el:TypeId}{d:TypeDesc}{x x' s' z v:Value}{s b n i:Nat}{u:Bool}{new:List Value}(hu:P.underlying ts=some (.slice el))(hx:P.underlying tx=some d)(hd:fh d=true)
  (hs:bb P el=some s) (hb:kH P el=some b) (hz:zeroOf P el=some z) (hl:lenOf x=some (n+1)) (hf:bT h s (n+1) x=some new) (rs:VRel ι (.iface i (.bool u)) s') (rx:VRel ι x x')
  (e':dI h h.size s b z (n+1) new none 0 0=some (v,h')) :
  ∃v' w' ι',(Oz #[ts,tx] type #[s',x']).run P w=.ok v' w'/\VRel ι' v v'/\HRel N ι' h' w'/\Step N ι h w ι' h' w':=by
 have hl':(Pl x').run P w=.ok (n+1) w:=mK rx hl;have H':HRel N ι h w.drew:=H.same rfl;obtain⟨newd,f1d,f2d⟩:=iY (P:=P) H' rx hf (λm hm=>by rw[hl] at hm;cases hm;exact LV _)
 cases rs with
 |fe a0 =>
  unfold dI at e';rw[if_neg (Nat.succ_ne_zero n),if_neg (by omega:¬ 0+(n+1)<=0)] at e';split at e'
  .rename_i hc;obtain⟨c0,c1,c2,c3,c4⟩:=hc;simp only[LR,Mn] at e';obtain⟨rfl,rfl⟩:=e'
   have o1:(MS s 0 (.slice (some a0) 0 0)).run P w.drew=.ok #[] w.drew:=by simp[MS,loadCells,loadCellsFrom]
   obtain⟨c,hc,hrun⟩:=run_append_grow (ty:=type) hu hx hd hs hb hz hl' f1d o1 (by omega) c1 (le_max c0 c1);obtain⟨ι',g1,g2,g3⟩:=grown H (cs:=new) (old := #[]) (new:=newd) (rest:=Od z.cells (c-(0+(n+1)))) (ty:=el) (len:=0+(n+1)) (c:=c) (s:=s) (by simpa using f2d)
    (by rw[c3];simp) (by rw[jq,c2]) hc
   exact⟨_,_,ι',hrun,g1,g2,g3⟩
  .cases e'
theorem CS(H:HRel N ι h w){td tx type el:TypeId}{x x' s' v:Value}{s n len cap:Nat}{new:List Value}{base:Option Addr}(hu:P.underlying td=some (.slice el))
  (hs:bb P el=some s) (hl:lenOf x=some n) (hf:bT h s (Rz n len) x=some new) (rs:VRel ι (.slice base len cap) s') (rx:VRel ι x x')
  (e':pj h (Rz n len) new base len=some (v,h')) :
  ∃v' w' ι',(QS #[td,tx] type #[s',x']).run P w=.ok v' w'/\VRel ι' v v'/\HRel N ι' h' w'/\Step N ι h w ι' h' w':=by
 have hl':(Pl x').run P w=.ok n w:=mK rx hl;obtain⟨new',f1,f2⟩:=iY (P:=P) H rx hf (λm hm=>by rw[hl] at hm;cases hm;exact NW _ _);have run:∀(b:Option Addr) (c:Nat) (w1:World),s'=.slice b len c->(∀a,b=some a->(storeCells a new'.toList).run P w=.ok () w1)->(b=none->w1=w) ->
   (QS #[td,tx] type #[s',x']).run P w=.ok (goInt (Rz n len)) w1:=by
  intro b c w1 hs' h1 h2;subst hs'
  cases b with
  |none =>
   have:=h2 rfl;subst this;simp only[QS,MR,My,M9,Mv,ax hu,Mo,hl',bg hs,f1,MO]
  |some a =>
   simp only[QS,MR,My,M9,Mv,ax hu,Mo,hl',bg hs,f1,MO,h1 a rfl]
 unfold pj at e';by_cases hnew:new=[]
 .rw[if_pos hnew] at e';simp only[LR,Mn] at e';obtain⟨rfl,rfl⟩:=e';have hnil:new'.toList=[]:=f2.tA hnew
  cases rs with
  |sliceNil=>exact⟨_,w,ι,run none 0 w rfl (λa ha=>by cases ha) (λ_=>rfl),.int _ _,H,Step.refl w H.dom⟩
  |slice g off _ _ o l hl hle' ho=>exact⟨_,w,ι,run _ _ w rfl (λa ha=>by rw[hnil];simp[storeCells]) (λhq=>by cases hq),.int _ _,H,Step.refl w H.dom⟩
  |sliceOpen g off sp _ _ cap' o l hl hle' hcap ho htot=>exact⟨_,w,ι,run _ _ w rfl (λa ha=>by rw[hnil];simp[storeCells]) (λhq=>by cases hq),.int _ _,H,Step.refl w H.dom⟩
 .rw[if_neg hnew] at e'
  cases rs with
  |sliceNil=>simp at e'
  |slice g off _ _ o l hl hle' ho =>
   simp only at e'
   cases hg:h.get g with
   |none=>simp[hg] at e'
   |some ob =>
    cases ob <;> try (simp[hg] at e';done)
    rename_i cs ro
    cases ro
    .simp only[hg] at e';split at e'
     .rename_i hc;obtain⟨c1,c2,c3⟩:=hc;simp only[LR,Mn] at e';obtain⟨rfl,rfl⟩:=e';have ho':=ho (by omega);subst ho';obtain⟨w',q1,q2,q3⟩:=H.storeCells (P:=P) hl hg f2 c1 (λv hv=>(Md.1 c2) v hv);exact⟨_,w',ι,run _ _ w' rfl (λa ha=>by cases ha;exact q1) (λhq=>by cases hq),.int _ _,q2,q3⟩
     .cases e'
    .simp[hg] at e'
  |sliceOpen g off sp _ _ cap' o l hl hle' hcap ho htot =>
   simp only at e'
   cases hg:h.get g with
   |none=>simp[hg] at e'
   |some ob =>
    cases ob <;> try (simp[hg] at e';done)
    rename_i cs ro
    cases ro
    .simp only[hg] at e';split at e'
     .rename_i hc;obtain⟨c1,c2,c3⟩:=hc;simp only[LR,Mn] at e';obtain⟨rfl,rfl⟩:=e';have ho':=ho (by omega);subst ho';obtain⟨w',q1,q2,q3⟩:=H.storeCells (P:=P) hl hg f2 c1 (λv hv=>(Md.1 c2) v hv);exact⟨_,w',ι,run _ _ w' rfl (λa ha=>by cases ha;exact q1) (λhq=>by cases hq),.int _ _,q2,q3⟩
     .cases e'
    .simp[hg] at e'
theorem Bk(H:HRel N ι h w){td type el:TypeId}{s' v z:Value}{len cap:Nat}{base:Option Addr}(hu:P.underlying td=some (.slice el))(hz:zeroOf P el=some z)(hp:z.cells.all aR=true)(rs:VRel ι (.slice base len cap) s')
  (e':lX h (jW z.cells (len*z.cells.size)).toList base len=some (v,h')) :
  ∃v' w' ι',(Pr #[td] type #[s']).run P w=.ok v' w'/\VRel ι' v v'/\HRel N ι' h' w'/\Step N ι h w ι' h' w':=by
 have hnil:VRel ι (.tuple #[]) (.tuple #[]):=VRel.nothing ι;have hf:ba ι (jW z.cells (len*z.cells.size)).toList (jW z.cells (len*z.cells.size)).toList:=(bB.aU (nq hp _)).list
 have store:∀(g off:Nat) (l:Loc) (c:Nat),ι g=some l->0<len->(match h.get g with
   |some (.cells cs false)=>if off+(jW z.cells (len*z.cells.size)).toList.length<=cs.length/\(jW z.cells (len*z.cells.size)).toList.all Value.oneCell'=true then some ((.tuple #[]:Value),h.upd g (.cells (bJ cs off (jW z.cells (len*z.cells.size)).toList) false)) else none
   |_=>none)=some (v,h') ->
   ∃v' w' ι',(Pr #[td] type #[.slice (some ⟨l.blk,l.base+off,none⟩) len c]).run P w=.ok v' w'/\VRel ι' v v'/\HRel N ι' h' w'/\Step N ι h w ι' h' w':=by
  intro g off l c hl hlen e
  cases hg:h.get g with
  |none=>simp[hg] at e
  |some ob =>
   cases ob <;> try (simp[hg] at e;done)
   rename_i cs ro
   cases ro
   .simp only[hg] at e;split at e
    .rename_i hc;obtain⟨c1,c2⟩:=hc;simp only[LR,Mn] at e;obtain⟨rfl,rfl⟩:=e;obtain⟨w',q1,q2,q3⟩:=H.storeCells (P:=P) hl hg hf c1 (λv hv=>(Md.1 c2) v hv);refine⟨_,w',ι,?_,hnil,q2,q3⟩;obtain⟨m,rfl⟩:∃m,len=m+1:=⟨len-1,by omega⟩;have q1':(storeCells ⟨l.blk,l.base+off,none⟩ (Od z.cells (m+1)).toList).run P w=.ok () w':=q1;simp only[Pr,MR,My,Mv,ax hu,Mo,fi hz,q1',MO]
    .cases e
   .simp[hg] at e
 unfold lX at e';by_cases h0:len=0
 .subst h0;rw[if_pos rfl] at e';simp only[LR,Mn] at e';obtain⟨rfl,rfl⟩:=e';refine⟨_,w,ι,?_,hnil,H,Step.refl w H.dom⟩
  cases rs with
  |sliceNil=>simp only[Pr,MR,My,Mv,ax hu,Mo,MO]
  |slice g off _ _ o l hl hle' ho=>simp only[Pr,MR,My,Mv,ax hu,Mo,MO]
  |sliceOpen g off sp _ _ cap' o l hl hle' hcap ho htot=>simp only[Pr,MR,My,Mv,ax hu,Mo,MO]
 .rw[if_neg h0] at e'
  cases rs with
  |sliceNil=>simp at e'
  |slice g off _ _ o l hl hle' ho =>
   have ho':=ho (by omega);subst ho';exact store g _ l _ hl (by omega) e'
  |sliceOpen g off sp _ _ cap' o l hl hle' hcap ho htot =>
   have ho':=ho (by omega);subst ho';exact store g _ l _ hl (by omega) e'
end
theorem VRel.vM{ι:Inj}(b:Bool):VRel ι (.tuple #[.bool b]) (.tuple #[.bool b]):=by
 have:=ba.cons (VRel.bool (ι:=ι) b) (ba.nil ι);exact .tuple _ _ this.array.1 this.array.2
theorem VRel.C7{ι:Inj}(b:Bool)(p:Nat)(c:Int):VRel ι (.tuple #[.bool b,goInt p,.int .i32 c]) (.tuple #[.bool b,goInt p,.int .i32 c]):=by
 have:=ba.cons (VRel.bool (ι:=ι) b) (ba.cons (VRel.int .i64 p) (ba.cons (VRel.int .i32 c) (ba.nil ι)));exact .tuple _ _ this.array.1 this.array.2
theorem Cu{N:Nat}{P:Program}{ι:Inj}{h h':Heap}{w:World}(H:HRel N ι h w){ρ ρ':Operand->Value}{o:Oper}{v:Value}(hρ:∀x∈o.op.operands,VRel ι (ρ x) (ρ' x))
  (e:cZ P ρ o h=some (v,h')) :
  ∃r v' w' ι',(execOp ρ' o).run P w=.ok r w'/\(r=.value v'\/r=.skip/\v'=undef)/\VRel ι' v v'/\HRel N ι' h' w'/\Step N ι h w ι' h' w':=by
 obtain⟨dst,op,type,pos,after,guard⟩:=o
 cases op with
 |store t a x =>
  have ha:=hρ a (by simp[Mi]);have hx:=hρ x (by simp[Mi]);simp only[cZ,fa] at e;generalize ea:ρ a=y0 at ha e;generalize ea':ρ' a=y at ha
  cases ha <;> try (simp at e;done)
  rename_i g off l hl;simp only at e
  cases hg:h.get g with
  |none=>simp[hg] at e
  |some ob =>
   cases ob <;> try (simp[hg] at e;done)
   rename_i cs ro
   cases ro
   .simp only[hg] at e;split at e
    .rename_i hc;obtain⟨c1,c2,c3⟩:=hc;simp only[LR,Mn] at e;obtain⟨rfl,rfl⟩:=e;have hcl:=hx.cells.list;obtain⟨w',q1,q2,q3⟩:=H.storeCells (P:=P) hl hg hcl c2 (λv hv=>(Md.1 c3) v hv);refine⟨.skip,undef,w',ι,?_,.inr ⟨rfl,rfl⟩,VRel.nothing ι,q2,q3⟩
     have hlen:(ρ' x).cells.size=(ρ x).cells.toList.length:=by have:=hcl.1;simpa using this.symm
     have q1':(storeCells ⟨l.blk,l.base+off,none⟩ (ρ' x).cells.toList).run P w=.ok () w':=q1;simp[execOp,Instr.storeAt,Instr.sureAddr,ea',storeVar,bg c1,hlen,q1']
    .cases e
   .simp[hg] at e
 |call c =>
  obtain⟨callee,args,argTypes⟩:=c
  cases callee with
  |value f=>simp[cZ,fa] at e
  |invoke r m=>simp[cZ,fa] at e
  |builtin b =>
   have hargs:∀x∈args,VRel ι (ρ x) (ρ' x):=λx hx=>hρ x (by simp[Mi,Call.operands,hx]);simp only[cZ,fa] at e;split at e
   .rename_i ts tx base len cap x hts hax;obtain⟨s',x',hargs',rs,rx⟩:=rO hargs hax;have hat:argTypes = #[ts,tx]:=On (by simpa using hts);split at e
    .rename_i el d hu hx;split at e
     .rename_i hd;split at e
      .rename_i s b z n hs hb hz hl;split at e
       .cases e
       .rename_i new hf;obtain⟨v',w',ι',q1,q2,q3,q4⟩:=zc (type:=type) H hu hx hd hs hb hz hl hf rs rx e;refine⟨_,v',w',ι',?_,.inl rfl,q2,q3,q4⟩;simp only[execOp,resolve,Mv,MO,Mo,invoke,builtin,hargs',hat,q1]
      .cases e
     .cases e
    .cases e
   .rename_i ts tx i es x hts hax;obtain⟨s',x',hargs',rs,rx⟩:=rO hargs hax;have hat:argTypes = #[ts,tx]:=On (by simpa using hts);split at e
    .rename_i el d hu hx;split at e
     .rename_i hd;split at e
      .rename_i s n hs hl
       cases n with
       |succ n=>cases e
       |zero =>
        simp only[LR,Mn] at e;obtain⟨rfl,rfl⟩:=e;refine⟨_,s',w,ι,?_,.inl rfl,rs,H,Step.refl w H.dom⟩;simp only[execOp,resolve,Mv,MO,Mo,invoke,builtin,hargs',hat,xS H hu hx hd hs hl rs rx]
      .cases e
     .cases e
    .cases e
   .rename_i ts tx i u x hts hax;obtain⟨s',x',hargs',rs,rx⟩:=rO hargs hax;have hat:argTypes = #[ts,tx]:=On (by simpa using hts);split at e
    .rename_i el d hu hx;split at e
     .rename_i hd;split at e
      .rename_i s b z n hs hb hz hl
       cases n with
       |zero =>
        simp only[LR,Mn] at e;obtain⟨rfl,rfl⟩:=e;have hrs:=rs
        cases rs with
        |fe a0 =>
        have:=run_append_room (ty:=type) (base:=some a0) (len:=0) (cap:=0) hu hx hd hs (mK rx hl) (uF rx hl s w) (by omega) (w1:=w) (λa ha=>by simp[storeCells]) (λ_=>rfl);refine⟨_,_,w,ι,?_,.inl rfl,hrs,H,Step.refl w H.dom⟩;simp only[execOp,resolve,Mv,MO,Mo,invoke,builtin,hargs',hat,this]
       |succ n =>
        simp only at e;split at e
        .cases e
        .rename_i new hf;obtain⟨v',w',ι',q1,q2,q3,q4⟩:=append_empty (type:=type) H hu hx hd hs hb hz hl hf rs rx e;refine⟨_,v',w',ι',?_,.inl rfl,q2,q3,q4⟩;simp only[execOp,resolve,Mv,MO,Mo,invoke,builtin,hargs',hat,q1]
      .cases e
     .cases e
    .cases e
   .rename_i td tx base len cap x hts hax;obtain⟨s',x',hargs',rs,rx⟩:=rO hargs hax;have hat:argTypes = #[td,tx]:=On (by simpa using hts);split at e
    .rename_i el hu;split at e
     .rename_i s n hs hl;split at e
      .rename_i new hf;obtain⟨v',w',ι',q1,q2,q3,q4⟩:=CS (tx:=tx) (type:=type) H hu hs hl hf rs rx e;refine⟨_,v',w',ι',?_,.inl rfl,q2,q3,q4⟩;simp only[execOp,resolve,Mv,MO,Mo,invoke,builtin,hargs',hat,q1]
      .cases e
     .cases e
    .cases e
   .rename_i td base len cap hts hax;obtain⟨s',hargs',rs⟩:=F4 hargs hax;have hat:argTypes = #[td]:=On (by simpa using hts);split at e
    .rename_i el hu;split at e
     .rename_i z hz;split at e
      .rename_i hp;obtain⟨v',w',ι',q1,q2,q3,q4⟩:=Bk (type:=type) H hu hz hp rs e;refine⟨_,v',w',ι',?_,.inl rfl,q2,q3,q4⟩;simp only[execOp,resolve,Mv,MO,Mo,invoke,builtin,hargs',hat,q1]
      .cases e
     .cases e
    .cases e
   .cases e
 |next x b =>
  have hx:=hρ x (by simp[Mi])
  cases b with
  |false=>simp[cZ,fa] at e
  |true =>
   simp only[cZ,fa,zP] at e;split at e
   .rename_i g hxg;rw[hxg] at hx;generalize ex':ρ' x=y at hx
    cases hx
    rename_i l hl;split at e
    .rename_i s pos hg;obtain⟨k1,k2⟩:=H.obj g l _ hl hg
     have hb:l.base+0=0:=by omega
     split at e
     .rename_i hlt;simp only[LR,Mn] at e;obtain⟨rfl,rfl⟩:=e;have hlt':l.blk<w.heap.size:=H.blk g l hl;obtain⟨w1,w2⟩:=HRel.write H hl ⟨_,hg,rfl⟩ (o':=.iter s (pos+(QP s pos).2)) (w':={ w with heap:=w.heap.setIfInBounds l.blk (.stringIter s (pos+(QP s pos).2)) })
       (by simp) (λb hb=>by simp[NU hb]) ⟨by simp[hlt'],k2⟩ ⟨rfl,rfl,rfl,λ_=>LV _⟩
      refine⟨_,.tuple #[.bool true,goInt pos,.int .i32 (QP s pos).1],_,ι,?_,.inl rfl,VRel.C7 _ _ _,w1,w2⟩;simp[execOp,Sj,ex',hb,getObj,setObj,Pn,k1,hlt]
     .rename_i hge;simp only[LR,Mn] at e;obtain⟨rfl,rfl⟩:=e;refine⟨_,.tuple #[.bool false],w,ι,?_,.inl rfl,VRel.vM _,H,Step.refl w H.dom⟩;simp[execOp,Sj,ex',hb,getObj,Pn,k1,hge]
    .cases e
   .cases e
 |mapUpdate t m k v =>
  have hm:=hρ m (by simp[Mi]);have hk:=hρ k (by simp[Mi]);have hv:=hρ v (by simp[Mi]);simp only[cZ,fa] at e;split at e
  .rename_i kt el hu;split at e
   .rename_i kd hkd;split at e
    .rename_i hkk;simp only[A0] at e;split at e
     .rename_i g hmg;rw[hmg] at hm;generalize ex':ρ' m=y at hm
      cases hm
      rename_i l hl;split at e
      .rename_i es hg;obtain⟨E,c,k1,k2,k3,k4,k5,k6⟩:=H.obj g l _ hl hg;have hlt':l.blk<w.heap.size:=H.blk g l hl
       have q3:∀(j:Nat) (k v:Value),es[j]?=some (k,v)->∃m:MapEntry,E.toList[j]?=some m/\VRel ι k m.key/\VRel ι v m.val:=λj k v q=>by
        obtain⟨m,q1,q2,q3⟩:=k4 j k v q;exact⟨m,by simpa using q1,q2,q3⟩
       split at e
       .rename_i i old hf;simp only[LR,Mn] at e;obtain⟨rfl,rfl⟩:=e;obtain⟨v',f1,f2,_,me,f4,f5,f6⟩:=fY hk es E.toList 0 (by simp[k3]) q3 _ hf
        have f4':E[i]?=some me:=by simpa using f4
        have hi:i<E.size:=(L3.1 f4').1;have same:N1 10000 me.key (ρ' k)=true:=f5;obtain⟨w1,w2⟩:=HRel.write H hl ⟨_,hg,rfl⟩ (o':=.map (es.set i (ρ k,ρ v))) (w':={ w with heap:=w.heap.setIfInBounds l.blk (.map (E.modify i λx=>{ x with key:=ρ' k,val:=ρ' v }) c) })
         (by simp) (λb hb=>by simp[NU hb]) ⟨E.modify i λx=>{ x with key:=ρ' k,val:=ρ' v },c,by simp[hlt'],k2,by simp[k3],λj a b q=>by
          rw[Mp] at q;by_cases hij:i=j
          .subst hij;simp only[if_true] at q;split at q
           .simp only[LR,Mn] at q;obtain⟨rfl,rfl⟩:=q;exact⟨{ me with key:=ρ' k,val:=ρ' v },by simp[NC,f4'],hk,hv⟩
           .cases q
          .rw[if_neg hij] at q;obtain⟨m',p1,p2,p3⟩:=k4 j a b q
           exact⟨m',by rw[NC,if_neg hij];exact p1,p2,p3⟩,by simp[k5],λj m q=>by
          rw[NC] at q;split at q
          .cases hq:E[j]? with
           |none=>simp[hq] at q
           |some m0 =>
            simp only[hq,MI,LR] at q;subst q;exact k6 j m0 hq
          .exact k6 j m q⟩ ⟨rfl,rfl,rfl,λ_=>LV _⟩
        refine⟨.skip,undef,_,ι,?_,.inr ⟨rfl,rfl⟩,VRel.nothing ι,w1,w2⟩;simp[execOp,Sa,ex',ax hu,getObj,setObj,Pn,k1,run_checkKey hkd hkk hk,run_findKey hkd f1,RO,f4',same]
       .rename_i hf;simp only[LR,Mn] at e;obtain⟨rfl,rfl⟩:=e;have f1:=fY hk es E.toList 0 (by simp[k3]) q3 _ hf;obtain⟨w1,w2⟩:=HRel.write H hl ⟨_,hg,rfl⟩ (o':=.map (es++[(ρ k,ρ v)])) (w':={ w with heap:=w.heap.setIfInBounds l.blk (.map (E.push { key:=ρ' k,val:=ρ' v,born:=c }) (c+1)) })
         (by simp) (λb hb=>by simp[NU hb]) ⟨E.push { key:=ρ' k,val:=ρ' v,born:=c },c+1,by simp[hlt'],k2,by simp[k3],λj a b q=>by
          by_cases hj:j<es.length
          .rw[Mb hj] at q;obtain⟨m',p1,p2,p3⟩:=k4 j a b q
           have:¬ j=E.size:=by omega
           exact⟨m',by rw[ME,if_neg this];exact p1,p2,p3⟩
          .rw[Mg (by omega)] at q
           have:j-es.length=0:=by
            have:=(LX.1 q).1;simp at this;omega
           rw[this] at q;simp only[My,LR,Mn] at q;obtain⟨rfl,rfl⟩:=q
           have:j=E.size:=by omega
           exact⟨{ key:=ρ' k,val:=ρ' v,born:=c },by rw[this,ME,if_pos rfl],hk,hv⟩,by simp[k5],λj m q=>by
          rw[ME] at q;split at q
          .rename_i hj;simp only[LR] at q;subst q;rw[hj];exact k5
          .exact k6 j m q⟩ ⟨rfl,rfl,rfl,λ_=>LV _⟩
        refine⟨.skip,undef,_,ι,?_,.inr ⟨rfl,rfl⟩,VRel.nothing ι,w1,w2⟩;simp[execOp,Sa,ex',ax hu,getObj,setObj,Pn,k1,run_checkKey hkd hkk hk,run_findKey hkd f1]
       .cases e
      .cases e
     .cases e
    .cases e
   .cases e
  .cases e
 |mapEntry t m k =>
  have hm:=hρ m (by simp[Mi]);have hk:=hρ k (by simp[Mi]);simp only[cZ,fa] at e;split at e
  .rename_i kt el hu;split at e
   .rename_i kd hkd;split at e
    .rename_i z hz;split at e
     .rename_i hc;obtain⟨hkk,hpz⟩:=hc
      have tup:∀(v v':Value) (n:Int),VRel ι v v'->VRel ι (.tuple #[v,.int .i64 n]) (.tuple #[v',.int .i64 n]):=λv v' n hv=>by
       have:=ba.cons hv (ba.cons (VRel.int .i64 n) (ba.nil ι));exact .tuple _ _ this.array.1 this.array.2
      simp only[yr] at e;split at e
      .rename_i g hmg;rw[hmg] at hm;generalize ex':ρ' m=y at hm
       cases hm
       rename_i l hl;split at e
       .rename_i es hg;obtain⟨E,c,k1,k2,k3,k4,k5,k6⟩:=H.obj g l _ hl hg;have hlt':l.blk<w.heap.size:=H.blk g l hl
        have q3:∀(j:Nat) (k v:Value),es[j]?=some (k,v)->∃m:MapEntry,E.toList[j]?=some m/\VRel ι k m.key/\VRel ι v m.val:=λj k v q=>by
         obtain⟨m,q1,q2,q3⟩:=k4 j k v q;exact⟨m,by simpa using q1,q2,q3⟩
        split at e
        .rename_i i old hf;simp only[LR,Mn] at e;obtain⟨rfl,rfl⟩:=e;obtain⟨v',f1,f2,_,me,f4,f5,f6⟩:=fY hk es E.toList 0 (by simp[k3]) q3 _ hf
         have f4':E[i]?=some me:=by simpa using f4
         have hi:i<E.size:=(L3.1 f4').1;have same:N1 10000 me.key (ρ' k)=true:=f5;have born:=k6 i me f4';obtain⟨w1,w2⟩:=HRel.write H hl ⟨_,hg,rfl⟩ (o':=.map (es.set i (ρ k,old))) (w':={ w with heap:=w.heap.setIfInBounds l.blk (.map (E.modify i λx=>{ x with key:=ρ' k }) c) })
          (by simp) (λb hb=>by simp[NU hb]) ⟨E.modify i λx=>{ x with key:=ρ' k },c,by simp[hlt'],k2,by simp[k3],λj a b q=>by
           rw[Mp] at q;by_cases hij:i=j
           .subst hij;simp only[if_true] at q;split at q
            .simp only[LR,Mn] at q;obtain⟨rfl,rfl⟩:=q;exact⟨{ me with key:=ρ' k },by simp[NC,f4'],hk,by rw[f6];exact f2⟩
            .cases q
           .rw[if_neg hij] at q;obtain⟨m',p1,p2,p3⟩:=k4 j a b q
            exact⟨m',by rw[NC,if_neg hij];exact p1,p2,p3⟩,by simp[k5],λj m q=>by
           rw[NC] at q;split at q
           .cases hq:E[j]? with
            |none=>simp[hq] at q
            |some m0 =>
             simp only[hq,MI,LR] at q;subst q;exact k6 j m0 hq
           .exact k6 j m q⟩ ⟨rfl,rfl,rfl,λ_=>LV _⟩
         refine⟨_,.tuple #[v',.int .i64 (LQ i)],_,ι,?_,.inl rfl,tup _ _ _ f2,w1,w2⟩;simp[execOp,Sk,ex',ax hu,getObj,setObj,Pn,k1,run_checkKey hkd hkk hk,run_findKey hkd f1,RO,f4',same,goInt,born]
        .rename_i hf;simp only[LR,Mn] at e;obtain⟨rfl,rfl⟩:=e;have f1:=fY hk es E.toList 0 (by simp[k3]) q3 _ hf;obtain⟨w1,w2⟩:=HRel.write H hl ⟨_,hg,rfl⟩ (o':=.map (es++[(ρ k,z)])) (w':={ w with heap:=w.heap.setIfInBounds l.blk (.map (E.push { key:=ρ' k,val:=z,born:=c }) (c+1)) })
          (by simp) (λb hb=>by simp[NU hb]) ⟨E.push { key:=ρ' k,val:=z,born:=c },c+1,by simp[hlt'],k2,by simp[k3],λj a b q=>by
           by_cases hj:j<es.length
           .rw[Mb hj] at q;obtain⟨m',p1,p2,p3⟩:=k4 j a b q
            have:¬ j=E.size:=by omega
            exact⟨m',by rw[ME,if_neg this];exact p1,p2,p3⟩
           .rw[Mg (by omega)] at q
            have:j-es.length=0:=by
             have:=(LX.1 q).1;simp at this;omega
            rw[this] at q;simp only[My,LR,Mn] at q;obtain⟨rfl,rfl⟩:=q
            have:j=E.size:=by omega
            exact⟨{ key:=ρ' k,val:=z,born:=c },by rw[this,ME,if_pos rfl],hk,VRel.aU hpz⟩,by simp[k5],λj m q=>by
           rw[ME] at q;split at q
           .rename_i hj;simp only[LR] at q;subst q;rw[hj];exact k5
           .exact k6 j m q⟩ ⟨rfl,rfl,rfl,λ_=>LV _⟩
         refine⟨_,.tuple #[z,.int .i64 (LQ es.length)],_,ι,?_,.inl rfl,tup _ _ _ (VRel.aU hpz),w1,w2⟩;simp[execOp,Sk,ex',ax hu,fi hz,getObj,setObj,Pn,k1,run_checkKey hkd hkk hk,run_findKey hkd f1,goInt,k5,k3]
        .cases e
       .cases e
      .cases e
     .cases e
    .cases e
   .cases e
  .cases e
 |entryStore t m s v =>
  have hm:=hρ m (by simp[Mi]);have hs:=hρ s (by simp[Mi]);have hv:=hρ v (by simp[Mi]);simp only[cZ,fa,xr] at e;split at e
  .rename_i g hmg;rw[hmg] at hm;generalize ex':ρ' m=y at hm
   cases hm
   rename_i l hl;split at e
   .rename_i i hsi;rw[hsi] at hs;generalize es':ρ' s=y at hs
    cases hs
    split at e
    .rename_i es hg;obtain⟨E,c,k1,k2,k3,k4,k5,k6⟩:=H.obj g l _ hl hg;have hlt':l.blk<w.heap.size:=H.blk g l hl;split at e
     .rename_i k old hei;simp only[LR,Mn] at e;obtain⟨rfl,rfl⟩:=e;obtain⟨me,f4,f5,_⟩:=k4 i k old hei;have hi:i<E.size:=(L3.1 f4).1
      have fnd:E.findIdx? (λx=>(x.born:Int)==(i:Int))=some i:=by
       rw[Array.findIdx?_eq_some_iff_getElem];refine⟨hi,?_,λj hj=>?_⟩
       .have:=k6 i E[i] (Me hi);simp[this]
       .have:=k6 j E[j] (Me (by omega));simp[this];omega
      obtain⟨w1,w2⟩:=HRel.write H hl ⟨_,hg,rfl⟩ (o':=.map (es.set i (k,ρ v))) (w':={ w with heap:=w.heap.setIfInBounds l.blk (.map (E.modify i λx=>{ x with val:=ρ' v }) c) })
       (by simp) (λb hb=>by simp[NU hb]) ⟨E.modify i λx=>{ x with val:=ρ' v },c,by simp[hlt'],k2,by simp[k3],λj a b q=>by
        rw[Mp] at q;by_cases hij:i=j
        .subst hij;simp only[if_true] at q;split at q
         .simp only[LR,Mn] at q;obtain⟨rfl,rfl⟩:=q;exact⟨{ me with val:=ρ' v },by simp[NC,f4],f5,hv⟩
         .cases q
        .rw[if_neg hij] at q;obtain⟨m',p1,p2,p3⟩:=k4 j a b q
         exact⟨m',by rw[NC,if_neg hij];exact p1,p2,p3⟩,by simp[k5],λj m q=>by
        rw[NC] at q;split at q
        .cases hq:E[j]? with
         |none=>simp[hq] at q
         |some m0 =>
          simp only[hq,MI,LR] at q;subst q;exact k6 j m0 hq
        .exact k6 j m q⟩ ⟨rfl,rfl,rfl,λ_=>LV _⟩
      refine⟨.skip,undef,_,ι,?_,.inr ⟨rfl,rfl⟩,VRel.nothing ι,w1,w2⟩;simp[execOp,Instr.entryStore,ex',es',getObj,setObj,Pn,k1,asInt,asIntOf,fnd]
     .cases e
    .cases e
   .cases e
  .cases e
 |_=>simp[cZ,fa] at e
end Go.Abs
