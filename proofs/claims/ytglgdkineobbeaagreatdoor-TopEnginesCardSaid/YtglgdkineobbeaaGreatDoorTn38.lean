/- Parts of the proof. -/
import Derived.Test.YtglgdkineobbeaaGreatDoorTn37
open Int renaming ofNat->LQ
open List renaming set_cons_zero->RQ
namespace Go.Abs
def bl{κ:Type}(e:κ×Option Nat×List Nat):Slot:=(e.2.1,.cells (ah (e.2.2.map i64)) false)
def ixV(v:Option Nat×List Nat):Value:=ak 1 v.1 (v.2.map i64)
theorem Hc{κ:Type}{m:List (κ×Option Nat×List Nat)}{S:List Slot}{j:Nat}{e:κ×Option Nat×List Nat}(h:m[j]?=some e):∃f,At (bl e) (m.map bl++S) f/\∀e',f (bl e')=(m.set j e').map bl++S:=by
 induction m generalizing j with
 |nil=>cases h
 |cons x m ih =>
  cases j with
  |zero =>
   simp only[My,LR] at h;subst h;exact⟨_,.head _,λe'=>rfl⟩
  |succ j =>
   obtain⟨f,a,q⟩:=ih (j:=j) (by simpa using h);refine⟨_,.tail _ a,λe'=>?_⟩;simp only[q];rfl
section
variable {κ:Type} [DecidableEq κ]
def bS(m:List (κ×Option Nat×List Nat))(k:κ):List Nat:=((bY m k).map Prod.snd).getD []
theorem dW{ν:Type}{k:κ}:∀{m:List (κ×ν)}{i j:Nat}{v:ν},bU m k i=some (j,v)->i<=j/\m[j-i]?=some (k,v)
 |[],_,_,_,h=>by cases h
 |p::r,i,j,v,h=>by
  unfold bU at h;split at h
  .rename_i c
   cases h
   exact⟨LV _,by rw[Nx,c];rfl⟩
  .obtain⟨h1,h2⟩:=dW h
   have e:j-i=(j-(i+1))+1:=by omega
   exact⟨by omega,by rw[e];exact h2⟩
theorem kz{ν:Type}{k:κ}:∀{m:List (κ×ν)}{i:Nat},bU m k i=none↔bY m k=none
 |[],_=>by simp[bU,bY]
 |p::r,i=>by
  unfold bU bY;split
  .simp
  .exact kz
theorem qY{ν:Type}{k:κ}{v w:ν}:∀{m:List (κ×ν)}{i j:Nat},bU m k i=some (j,v)->∀q,bY (m.set (j-i) (k,w)) q=if q=k then some w else bY m q
 |[],_,_,h,_=>by cases h
 |p::r,i,j,h,q=>by
  unfold bU at h;split at h
  .rename_i c
   cases h
   rw[Nx,RQ];unfold bY;by_cases e:q=k
   .rw[if_pos e,if_pos e]
   .rw[if_neg e,if_neg e,if_neg (by rw[<- c];exact e)]
  .rename_i c;obtain⟨h1,_⟩:=dW h
   have e:j-i=(j-(i+1))+1:=by omega
   rw[e,QG];unfold bY;by_cases e2:q=p.1
   .rw[if_pos e2,if_pos e2,if_neg (by rw[e2];exact λz=>c z.symm)]
   .rw[if_neg e2,if_neg e2];exact qY h q
theorem sY{ν:Type}{k:κ}{w:ν}:∀{m:List (κ×ν)},bY m k=none->∀q,bY (m++[(k,w)]) q=if q=k then some w else bY m q
 |[],_,q=>rfl
 |p::r,h,q=>by
  unfold bY at h;split at h
  .cases h
  .rename_i c
   show bY (p::(r++[(k,w)])) q=_
   unfold bY;by_cases e2:q=p.1
   .rw[if_pos e2,if_pos e2,if_neg (by rw[e2];exact λz=>c z.symm)]
   .rw[if_neg e2,if_neg e2];exact sY h q
theorem lq{ν:Type}{k:κ}{v w:ν}:∀{m:List (κ×ν)}{i j:Nat},bU m k i=some (j,v)->gQ m k w=m.set (j-i) (k,w)
 |[],_,_,h=>by cases h
 |p::r,i,j,h=>by
  unfold bU at h;unfold gQ;split at h
  .rename_i c
   cases h
   rw[if_pos c,Nx,RQ]
  .rename_i c;obtain⟨h1,_⟩:=dW h
   have e:j-i=(j-(i+1))+1:=by omega
   rw[if_neg c,e,QG,lq h]
theorem lI{ν:Type}{k:κ}{w:ν}:∀{m:List (κ×ν)}{i:Nat},bU m k i=none->gQ m k w=m++[(k,w)]
 |[],_,_=>rfl
 |p::r,i,h=>by
  unfold bU at h;unfold gQ;split at h
  .cases h
  .rename_i c;rw[if_neg c,lI h];rfl
theorem FR{α:Type}(a b:α)(A C R:List α):(a::(A++(b::(C++R)))).Perm (b::(C++(a::(A++R)))):=by
 have h1:(a::(A++(b::(C++R)))).Perm ((a::A)++((b::C)++R)):=Rq _
 have h2:((a::A)++((b::C)++R)).Perm ((b::C)++((a::A)++R)):=by
  rw[<- MC,<- MC];exact List.Perm.append_right R Qa
 exact h1.trans h2
variable {P:Program} {N:Nat} {B:List AObj} {h0 h:Heap} {L:List Slot} {ρ:Operand->Value} {d:Option Tmp} {ty:TypeId} {pos:String} {af:Array Edge} {gd:Option (Nat×Bool)}
variable {ν:Type} {ek:κ->Value} {ev:ν->Value} {kd:TypeDesc}
theorem Own.KV{t kt e:TypeId}{x i:Operand}{g j:Nat}{m:List (κ×ν)}{k:κ}{v:ν}{z:Value}{f:Slot->List Slot}{K:Value->Heap->Prop}(O:Own B h0 L h)(A:At (some g,.map (aY ek ev m)) L f)(hj:bU m k 0=some (j,v))(hu:P.underlying t=some (.map kt e))(hkt:P.underlying kt=some kd)(hz:zeroOf P e=some z)(hkk:ke P kt kd (ek k)=true)(hpl:plain z=true)
  (hk:∀a b,fo P kt kd (ek a) (ek b)=some (decide (a=b))) (hx:ρ x=.map (some g)) (hi:ρ i=ek k) (kk:∀h1,Own B h0 (f (some g,.map (aY ek ev m))) h1->K (.tuple #[ev v,.int .i64 (LQ j)]) h1) :
  ∃(v:Value) (T:Heap->Prop),(∃h',cZ P ρ { dst:=d,op:=.mapEntry t x i,type:=ty,pos:=pos,after:=af,guard:=gd } h=some (v,h')/\T h')/\∀h1,T h1->K v h1:=by
 have hg:=O.at A.mem;have u:=Upd.upd (.map (aY ek ev m)) (Heap.ai hg);refine⟨_,λh1=>h1=h.upd g (.map (aY ek ev m)),⟨_,?_,rfl⟩,λh1 e=>by subst e;exact kk _ (O.upd A u)⟩;unfold cZ fa;simp only[hu,hkt,hx,hi,hz];rw[if_pos ⟨hkk,hpl⟩];unfold yr;simp only[hg];rw[ld hk,hj];have hm:=(dW hj).2;rw[Ou] at hm
 have e1:(aY ek ev m).set j (ek k,ev v)=aY ek ev m:=by
  apply MH;intro q;rw[Mp];by_cases c:j=q
  .subst c;rw[if_pos rfl];unfold aY;rw[L7,hm];split
   .rfl
   .rename_i hh;exact absurd (by rw[LZ];exact ai hm) hh
  .rw[if_neg c]
 simp only[MI,e1]
theorem Own.KN{t kt e:TypeId}{x i:Operand}{g:Nat}{m:List (κ×ν)}{k:κ}{z:Value}{f:Slot->List Slot}{K:Value->Heap->Prop}(O:Own B h0 L h)(A:At (some g,.map (aY ek ev m)) L f)(hj:bU m k 0=none)(hu:P.underlying t=some (.map kt e))(hkt:P.underlying kt=some kd)(hz:zeroOf P e=some z)(hkk:ke P kt kd (ek k)=true)(hpl:plain z=true)
  (hk:∀a b,fo P kt kd (ek a) (ek b)=some (decide (a=b))) (hx:ρ x=.map (some g)) (hi:ρ i=ek k) (kk:∀h1,Own B h0 (f (some g,.map (aY ek ev m++[(ek k,z)]))) h1->K (.tuple #[z,.int .i64 (LQ m.length)]) h1) :
  ∃(v:Value) (T:Heap->Prop),(∃h',cZ P ρ { dst:=d,op:=.mapEntry t x i,type:=ty,pos:=pos,after:=af,guard:=gd } h=some (v,h')/\T h')/\∀h1,T h1->K v h1:=by
 have hg:=O.at A.mem;have u:=Upd.upd (.map (aY ek ev m++[(ek k,z)])) (Heap.ai hg);refine⟨_,λh1=>h1=h.upd g (.map (aY ek ev m++[(ek k,z)])),⟨_,?_,rfl⟩,λh1 e=>by subst e;exact kk _ (O.upd A u)⟩;unfold cZ fa;simp only[hu,hkt,hx,hi,hz];rw[if_pos ⟨hkk,hpl⟩];unfold yr;simp only[hg];rw[ld hk,hj]
 have:(aY ek ev m).length=m.length:=by unfold aY;rw[LZ]
 simp only[Oi,this]
theorem Own.IX{t:TypeId}{x s y:Operand}{g i:Nat}{es:List (Value×Value)}{kv old v:Value}{f:Slot->List Slot}{K:Value->Heap->Prop}(O:Own B h0 L h)(A:At (some g,.map es) L f)(he:es[i]?=some (kv,old))(hx:ρ x=.map (some g))(hs:ρ s=.int .i64 (LQ i))(hy:ρ y=v)(kk:∀h1,Own B h0 (f (some g,.map (es.set i (kv,v)))) h1->K undef h1) :
  ∃(v:Value) (T:Heap->Prop),(∃h',cZ P ρ { dst:=d,op:=.entryStore t x s y,type:=ty,pos:=pos,after:=af,guard:=gd } h=some (v,h')/\T h')/\∀h1,T h1->K v h1:=by
 have hg:=O.at A.mem;have u:=Upd.upd (.map (es.set i (kv,v))) (Heap.ai hg);refine⟨undef,λh1=>h1=h.upd g (.map (es.set i (kv,v))),⟨_,?_,rfl⟩,λh1 e=>by subst e;exact kk _ (O.upd A u)⟩;unfold cZ fa xr;simp only[hx,hs,hy,hg,he]
theorem JC{ops:Array Oper}{i j k:Nat}{e:Env}{h h1:Heap}{t t':TypeId}{a a' g g' off off':Nat}{o o':AObj}(hb:uY ops k [i,j]=true)(hop:(ops[i]?).map (·.op)=some (.load t (.tmp a)))(he:e.get a=.pointer (some ⟨g,off,none⟩))(hg:h.get g=some o)(hg1:h1.get g=some o)
  (hop':(ops[j]?).map (·.op)=some (.load t' (.tmp a'))) (he':e.get a'=.pointer (some ⟨g',off',none⟩)) (hg':h.get g'=some o') (hg1':h1.get g'=some o'):oT ops k e h h1:=by
 refine⟨[i,j],hb,λq m x tt aa hx hxo gg oo hv=>?_⟩;simp only[MF,Np,or_false] at m
 rcases m with rfl|rfl
 .rw[hx] at hop;simp only[MI,LR] at hop;rw[hxo] at hop
  cases hop
  rw[he] at hv
  cases hv
  rw[hg,hg1]
 .rw[hx] at hop';simp only[MI,LR] at hop';rw[hxo] at hop'
  cases hop'
  rw[he'] at hv
  cases hv
  rw[hg',hg1']
end
end Go.Abs
