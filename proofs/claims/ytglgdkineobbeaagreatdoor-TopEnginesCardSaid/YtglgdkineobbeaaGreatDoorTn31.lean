/- Parts of the proof. -/
import Derived.Test.YtglgdkineobbeaaGreatDoorTn30
open Go.Value renaming oneCell'->MV
namespace Go.Abs
section
variable {P:Program} {N:Nat} {B:List AObj} {h0 h:Heap} {L:List Slot} {ρ:Operand->Value} {d:Option Tmp} {ty:TypeId} {pos:String} {af:Array Edge} {gd:Option (Nat×Bool)}
def oI(s:Nat)(b:Bool)(g n:Nat):Value:=.slice (some ⟨g,0,if b=true then some s else none⟩) n n
theorem Own.Iq{α:Type}{enc:α->Value}{l new:List α}{ts tx te:TypeId}{dx:TypeDesc}{x y:Operand}{s b g n:Nat}{sp:Bool}{z:Value}{f:Slot->List Slot}{K:Value->Heap->Prop}(O:Own B h0 L h)(A:At (some g,.cells (ah (l.map enc)) false) L f)
  (hts:P.underlying ts=some (.slice te)) (htx:P.underlying tx=some dx) (hni:fh dx=true) (hs:bb P te=some s) (hb:kH P te=some b) (hz:zeroOf P te=some z) (hzs:z.cells.size=s)
  (hx:ρ x=oI s sp g n) (hn:n=(l.map enc).length) (hy:YOk h s (ρ y) enc new) (hsz:∀x:α,(cl (enc x)).length=s) (hone:∀x:α,(cl (enc x)).all MV=true)
  (hb0:0<b) (hlim:(l.length+new.length)*b<=2^47)
  (k:∀g' sp' h1,Own B h0 (f (some g',.cells (ah ((l++new).map enc)) false)) h1->K (oI s sp' g' ((l++new).map enc).length) h1) :
  ∃(v:Value) (T:Heap->Prop),(∃h',cZ P ρ { dst:=d,op:=.call { callee:=.builtin .append,args := #[x,y],argTypes := #[ts,tx] },type:=ty,pos:=pos,after:=af,guard:=gd } h=some (v,h')/\T h')/\∀h1,T h1->K v h1:=by
 subst hn;have hy0:=hy.len;have hf0:=hy.first;have hnew:∀e∈new.map enc,(cl e).length=s:=bE hsz new
 have hlen:(ah (new.map enc)).length=new.length*s:=by rw[bD hnew,LZ]
 have hll:(ah (l.map enc)).length=l.length*s:=by rw[bD (bE hsz l),LZ]
 have hno:(ah (new.map enc)).all MV=true:=by
  rw[Md];intro v m;simp only[ah,N8,MP] at m;obtain⟨_,⟨a,_,rfl⟩,m⟩:=m;exact Md.1 (hone a) v m
 unfold cZ fa;simp only[MM,ND,hx,oI,hts,htx,hni,if_true,hs,hb,hz,hy0,hf0];unfold dI;by_cases hm0:new.length=0
 .have hn:new=[]:=M3 hm0;subst hn;rw[if_pos hm0,if_pos ⟨by simp[ah],LV _⟩];refine⟨_,λh1=>h1=h,⟨h,rfl,rfl⟩,λh1 e=>?_⟩;subst e
  have e0:f (some g,.cells (ah (l.map enc)) false)=L:=by
   clear k O
   induction A with
   |head L=>rfl
   |tail r _ ih=>exact congrArg (List.cons r) ih
  have:=k g sp h1 (by rw[MZ,e0];exact O);rw[MZ] at this;exact this
 .rw[if_neg hm0,if_neg (by rw[LZ];omega),if_pos ⟨hb0,by rw[LZ];exact hlim,hzs,hlen,hno⟩];obtain⟨hgs,hgg⟩:=O.get g _ A.mem;have hlt:=Heap.ai hgg
  have e1:((ah (l.map enc)).drop 0).take ((l.map enc).length*s)=ah (l.map enc):=by
   rw[M0,LZ,<- hll,Ng]
  have e2:ah (l.map enc)++ah (new.map enc)=ah ((l++new).map enc):=by rw[<- ck,zE]
  have e3:(l.map enc).length+new.length=((l++new).map enc).length:=by simp
  have fin:∀hd:Heap,hd.size=h.size->(∀k,h0.size<=k->g≠k->hd.get k=h.get k)->Ext h0 hd->Own B h0 (f (some h.size,.cells (ah ((l++new).map enc)) false)) (hd.push (.cells (ah ((l++new).map enc)) false)):=by
   intro hd hsz' hget hext;refine⟨O.base,hext.trans ⟨NB _,λg hg=>by rw[Heap.bq,if_neg (by omega)]⟩,λk x m=>?_,A.apart O.apart λx m hx=>?_⟩
   .have key:∀{L:List Slot} {f:Slot->List Slot},At (some g,.cells (ah (l.map enc)) false) L f->L.Pairwise lr->(some k,x)∈f (some h.size,.cells (ah ((l++new).map enc)) false)->(k=h.size/\x=.cells (ah ((l++new).map enc)) false)\/(g≠k/\(some k,x)∈L):=by
     intro L f a
     induction a with
     |head L =>
      intro ha m
      rcases MF.1 m with m|m
      .cases m;exact .inl ⟨rfl,rfl⟩
      .exact .inr ⟨λe=>(MU.1 ha).1 _ m g rfl (by rw[e]),.tail _ m⟩
     |tail r a ih =>
      intro ha m;have hap:=(MU.1 ha).1 _ a.mem
      rcases MF.1 m with m|m
      .refine .inr ⟨λe=>?_,by rw[m];exact .head _⟩;subst m;exact hap k rfl (by rw[e])
      .rcases ih (MU.1 ha).2 m with q|⟨q1,q2⟩
       .exact .inl q
       .exact .inr ⟨q1,.tail _ q2⟩
    rcases key A O.apart m with⟨rfl,rfl⟩|⟨q1,q2⟩
    .exact⟨O.ext.1,by rw[Heap.bq,if_pos hsz'.symm]⟩
    .obtain⟨r1,r2⟩:=O.get k x q2;have:=Heap.ai r2;exact⟨r1,by rw[Heap.bq,if_neg (by omega),hget k r1 q1];exact r2⟩
   .by_cases q:x.1=some h.size
    .exfalso;obtain⟨x1,x2⟩:=x;simp only at q;subst q;have:=Heap.ai (O.get _ _ m).2;omega
    .refine .inl ⟨λg e e'=>?_,λg e e'=>?_⟩
     .cases e;exact q e'
     .cases e';exact q e
  refine⟨oI s true h.size ((l++new).map enc).length,λh1=>Own B h0 (f (some h.size,.cells (ah ((l++new).map enc)) false)) h1,?_,λh1 q=>k _ _ h1 q⟩
  cases sp with
  |false =>
   simp only[hgg,Nr,if_false];rw[if_pos (by rw[LZ,hll];omega),e1,e2,e3];exact⟨_,rfl,fin h rfl (λ_ _ _=>rfl) O.ext⟩
  |true =>
   simp only[hgg,if_true];rw[if_pos ⟨by rw[LZ,hll];omega,trivial⟩,e1,e2,e3];exact⟨_,rfl,fin (h.upd g .dead) rfl (λk _ hne=>by rw[Heap.cc _ _ _ _ hlt,if_neg (λe=>hne e.symm)]) ⟨O.ext.1,λk hk=>by rw[Heap.cc _ _ _ _ hlt,if_neg (by omega)];exact O.ext.2 k hk⟩⟩
end
end Go.Abs
